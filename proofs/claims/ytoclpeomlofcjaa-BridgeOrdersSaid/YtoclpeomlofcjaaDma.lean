/- The machine computes the plain functions (written by wip/dec.py). -/
import Derived.Test.YtoclpeomlofcjaaTab2
import Derived.Test.YtoclpeomlofcjaaCh
import Derived.Test.YtoclpeomlofcjaaDp
namespace Go.Proofs.Ytoclpeomlofcjaa.Am
open Go.RowKit Go.Proofs.Ytoclpeomlofcjaa.P
set_option maxRecDepth 100000
set_option maxHeartbeats 4000000
set_option linter.unusedSimpArgs false
set_option linter.unusedVariables false

theorem vmt : type_of% (And.intro @tab_2 <| And.intro @tab_3 <| And.intro @tab_4 <| And.intro @tab_5 <| And.intro @tab_9 <| And.intro @tab_12 <| And.intro @tab_21 <| And.intro @tab_22 <| And.intro @tab_26 <| And.intro @tab_30 <| And.intro @tab_31 <| And.intro @tab_32 <| And.intro @tab_33 <| And.intro @tab_34 <| And.intro @tab_51 <| And.intro @tab_52 <| And.intro @tab_53 <| And.intro @tab_60 <| And.intro @tab_61 <| And.intro @tab_62 <| And.intro @tab_67 <| And.intro @tab_75 <| And.intro @tab_92 <| And.intro @tab_94 <| And.intro @tab_95 <| And.intro @tab_96 <| And.intro @tab_100 <| And.intro @tab_101 <| And.intro @tab_104 <| And.intro @tab_106 <| @tab_124) := And.intro @tab_2 <| And.intro @tab_3 <| And.intro @tab_4 <| And.intro @tab_5 <| And.intro @tab_9 <| And.intro @tab_12 <| And.intro @tab_21 <| And.intro @tab_22 <| And.intro @tab_26 <| And.intro @tab_30 <| And.intro @tab_31 <| And.intro @tab_32 <| And.intro @tab_33 <| And.intro @tab_34 <| And.intro @tab_51 <| And.intro @tab_52 <| And.intro @tab_53 <| And.intro @tab_60 <| And.intro @tab_61 <| And.intro @tab_62 <| And.intro @tab_67 <| And.intro @tab_75 <| And.intro @tab_92 <| And.intro @tab_94 <| And.intro @tab_95 <| And.intro @tab_96 <| And.intro @tab_100 <| And.intro @tab_101 <| And.intro @tab_104 <| And.intro @tab_106 <| @tab_124

def eTBig : Enc TBig := eVia (ePair (eI .i64) (eSl (eI .i64))) (fun x => (x.f_Sign, x.f_Digits)) (by rintro ⟨⟩ ⟨⟩ h; simpa using h)

theorem eTBig_cells (x : TBig) : eTBig.cells x = [.int .i64 x.f_Sign, .sl false false x.f_Digits.length (encL (eI .i64) x.f_Digits)] := Eq.trans rfl rfl

theorem eTBig_size : eTBig.size = 2 := Eq.trans rfl rfl

theorem eta_TBig (x : TBig) : TBig.mk x.f_Sign x.f_Digits = x := Eq.trans rfl rfl

def eTFrac : Enc TFrac := eVia (ePair eTBig eTBig) (fun x => (x.f_P, x.f_Q)) (by rintro ⟨⟩ ⟨⟩ h; simpa using h)

theorem eTFrac_cells (x : TFrac) : eTFrac.cells x = [.int .i64 x.f_P.f_Sign, .sl false false x.f_P.f_Digits.length (encL (eI .i64) x.f_P.f_Digits), .int .i64 x.f_Q.f_Sign, .sl false false x.f_Q.f_Digits.length (encL (eI .i64) x.f_Q.f_Digits)] := Eq.trans rfl rfl

theorem eTFrac_size : eTFrac.size = 4 := Eq.trans rfl rfl

theorem eta_TFrac (x : TFrac) : TFrac.mk x.f_P x.f_Q = x := Eq.trans rfl rfl

def eTTake : Enc TTake := eVia (ePair (eI .i64) (ePair (eI .i64) eTFrac)) (fun x => (x.f_From, x.f_To, x.f_Part)) (by rintro ⟨⟩ ⟨⟩ h; simpa using h)

theorem eTTake_cells (x : TTake) : eTTake.cells x = [.int .i64 x.f_From, .int .i64 x.f_To, .int .i64 x.f_Part.f_P.f_Sign, .sl false false x.f_Part.f_P.f_Digits.length (encL (eI .i64) x.f_Part.f_P.f_Digits), .int .i64 x.f_Part.f_Q.f_Sign, .sl false false x.f_Part.f_Q.f_Digits.length (encL (eI .i64) x.f_Part.f_Q.f_Digits)] := Eq.trans rfl rfl

theorem eTTake_size : eTTake.size = 6 := Eq.trans rfl rfl

theorem eta_TTake (x : TTake) : TTake.mk x.f_From x.f_To x.f_Part = x := Eq.trans rfl rfl

def eTNet : Enc TNet := eVia (ePair (eI .i64) (eSl eTTake)) (fun x => (x.f_Ports, x.f_Takes)) (by rintro ⟨⟩ ⟨⟩ h; simpa using h)

theorem eTNet_cells (x : TNet) : eTNet.cells x = [.int .i64 x.f_Ports, .sl false false x.f_Takes.length (encL eTTake x.f_Takes)] := Eq.trans rfl rfl

theorem eTNet_size : eTNet.size = 2 := Eq.trans rfl rfl

theorem eta_TNet (x : TNet) : TNet.mk x.f_Ports x.f_Takes = x := Eq.trans rfl rfl

def eTterm : Enc Tterm := eVia (ePair (eI .i64) eTFrac) (fun x => (x.f_port, x.f_part)) (by rintro ⟨⟩ ⟨⟩ h; simpa using h)

theorem eTterm_cells (x : Tterm) : eTterm.cells x = [.int .i64 x.f_port, .int .i64 x.f_part.f_P.f_Sign, .sl false false x.f_part.f_P.f_Digits.length (encL (eI .i64) x.f_part.f_P.f_Digits), .int .i64 x.f_part.f_Q.f_Sign, .sl false false x.f_part.f_Q.f_Digits.length (encL (eI .i64) x.f_part.f_Q.f_Digits)] := Eq.trans rfl rfl

theorem eTterm_size : eTterm.size = 5 := Eq.trans rfl rfl

theorem eta_Tterm (x : Tterm) : Tterm.mk x.f_port x.f_part = x := Eq.trans rfl rfl

def eTequation : Enc Tequation := eVia (ePair eTFrac (eSl eTterm)) (fun x => (x.f_direct, x.f_terms)) (by rintro ⟨⟩ ⟨⟩ h; simpa using h)

theorem eTequation_cells (x : Tequation) : eTequation.cells x = [.int .i64 x.f_direct.f_P.f_Sign, .sl false false x.f_direct.f_P.f_Digits.length (encL (eI .i64) x.f_direct.f_P.f_Digits), .int .i64 x.f_direct.f_Q.f_Sign, .sl false false x.f_direct.f_Q.f_Digits.length (encL (eI .i64) x.f_direct.f_Q.f_Digits), .sl false false x.f_terms.length (encL eTterm x.f_terms)] := Eq.trans rfl rfl

theorem eTequation_size : eTequation.size = 5 := Eq.trans rfl rfl

theorem eta_Tequation (x : Tequation) : Tequation.mk x.f_direct x.f_terms = x := Eq.trans rfl rfl

theorem lenE0 {l : List _} : (encL (eI .i64) l).length = l.length * 1 := encL_len _ l

theorem takeE0 {l : List _} : (encL (eI .i64) l).take (l.length * 1) = encL (eI .i64) l := by
  have := encL_take (eI .i64) l l.length
  rw [List.take_length] at this
  exact this

theorem takeS0 {l : List _} {i : Nat} {x : _} : (encL (eI .i64) (l.set i x)).take (l.length * 1) = encL (eI .i64) (l.set i x) := by
  have := @takeE0 (l.set i x)
  rwa [List.length_set] at this

theorem lenE1 {l : List _} : (encL eTFrac l).length = l.length * 4 := encL_len _ l

theorem takeE1 {l : List _} : (encL eTFrac l).take (l.length * 4) = encL eTFrac l := by
  have := encL_take eTFrac l l.length
  rw [List.take_length] at this
  exact this

theorem takeS1 {l : List _} {i : Nat} {x : _} : (encL eTFrac (l.set i x)).take (l.length * 4) = encL eTFrac (l.set i x) := by
  have := @takeE1 (l.set i x)
  rwa [List.length_set] at this

theorem lenE2 {l : List _} : (encL eTTake l).length = l.length * 6 := encL_len _ l

theorem takeE2 {l : List _} : (encL eTTake l).take (l.length * 6) = encL eTTake l := by
  have := encL_take eTTake l l.length
  rw [List.take_length] at this
  exact this

theorem takeS2 {l : List _} {i : Nat} {x : _} : (encL eTTake (l.set i x)).take (l.length * 6) = encL eTTake (l.set i x) := by
  have := @takeE2 (l.set i x)
  rwa [List.length_set] at this

theorem lenE3 {l : List _} : (encL eTterm l).length = l.length * 5 := encL_len _ l

theorem takeE3 {l : List _} : (encL eTterm l).take (l.length * 5) = encL eTterm l := by
  have := encL_take eTterm l l.length
  rw [List.take_length] at this
  exact this

theorem takeS3 {l : List _} {i : Nat} {x : _} : (encL eTterm (l.set i x)).take (l.length * 5) = encL eTterm (l.set i x) := by
  have := @takeE3 (l.set i x)
  rwa [List.length_set] at this

theorem vme : type_of% (And.intro @eI_cells <| And.intro @eBool_cells <| And.intro @eStr_cells <| And.intro @eSl_cells <| And.intro @eI_size <| And.intro @eBool_size <| And.intro @eStr_size <| And.intro @eSl_size <| And.intro @encL_nil <| And.intro @eTBig_cells <| And.intro @eTBig_size <| And.intro @eTFrac_cells <| And.intro @eTFrac_size <| And.intro @eTTake_cells <| And.intro @eTTake_size <| And.intro @eTNet_cells <| And.intro @eTNet_size <| And.intro @eTterm_cells <| And.intro @eTterm_size <| And.intro @eTequation_cells <| @eTequation_size) := And.intro @eI_cells <| And.intro @eBool_cells <| And.intro @eStr_cells <| And.intro @eSl_cells <| And.intro @eI_size <| And.intro @eBool_size <| And.intro @eStr_size <| And.intro @eSl_size <| And.intro @encL_nil <| And.intro @eTBig_cells <| And.intro @eTBig_size <| And.intro @eTFrac_cells <| And.intro @eTFrac_size <| And.intro @eTTake_cells <| And.intro @eTTake_size <| And.intro @eTNet_cells <| And.intro @eTNet_size <| And.intro @eTterm_cells <| And.intro @eTterm_size <| And.intro @eTequation_cells <| @eTequation_size

theorem vml : type_of% (And.intro @encL_cons <| And.intro @eta_TBig <| And.intro @eta_TFrac <| And.intro @eta_TTake <| And.intro @eta_TNet <| And.intro @eta_Tterm <| And.intro @eta_Tequation <| And.intro @lenE0 <| And.intro @takeE0 <| And.intro @takeS0 <| And.intro @lenE1 <| And.intro @takeE1 <| And.intro @takeS1 <| And.intro @lenE2 <| And.intro @takeE2 <| And.intro @takeS2 <| And.intro @lenE3 <| And.intro @takeE3 <| @takeS3) := And.intro @encL_cons <| And.intro @eta_TBig <| And.intro @eta_TFrac <| And.intro @eta_TTake <| And.intro @eta_TNet <| And.intro @eta_Tterm <| And.intro @eta_Tequation <| And.intro @lenE0 <| And.intro @takeE0 <| And.intro @takeS0 <| And.intro @lenE1 <| And.intro @takeE1 <| And.intro @takeS1 <| And.intro @lenE2 <| And.intro @takeE2 <| And.intro @takeS2 <| And.intro @lenE3 <| And.intro @takeE3 <| @takeS3

theorem w : type_of% (And.intro @v <| And.intro @vmt <| And.intro @vme <| @vml) := And.intro @v <| And.intro @vmt <| And.intro @vme <| @vml

theorem vmz : type_of% (And.intro @vme <| And.intro @List.cons_append.{0} <| And.intro @List.nil_append.{0} <| And.intro @List.length_nil.{0} <| And.intro @List.drop_succ_cons.{0} <| @List.drop_zero.{0}) := And.intro @vme <| And.intro @List.cons_append.{0} <| And.intro @List.nil_append.{0} <| And.intro @List.length_nil.{0} <| And.intro @List.drop_succ_cons.{0} <| @List.drop_zero.{0}

noncomputable def G_r04_trim := mkG (as1 (aSl (eI .i64))) (fun x : (List Int) => r04_trim x) (fun r : (List Int) => .clean (.sl false false r.length (encL (eI .i64) r)))

theorem q_r04_trim (p0 : (List Int)) : G_r04_trim none [.sl false false p0.length (encL (eI .i64) p0)] = (r04_trim p0).map fun r : (List Int) => (.clean (.sl false false r.length (encL (eI .i64) r)), none) := mkG_eq _ _ _ (p0)

theorem m_r04_trim (p0 : (List Int)) (r : (List Int)) (hh : r04_trim p0 = some r) : vfunc .clean tab noEnv FU Try.f125 none [.sl false false p0.length (encL (eI .i64) p0)] = some (.clean (.sl false false r.length (encL (eI .i64) r)), none) := by
  refine vfunc_of rfl Try.ntmps125 Try.results125 ?_
  unfold r04_trim at hh
  try simp only [w, seval, -Int.reduceToNat]
  obtain ⟨o4, ho4, hh⟩ := bindS hh
  refine runLoop_sim (fun s t H e => match s with | s3a => t 0 = .sl false false p0.length (encL (eI .i64) p0) ∧ t 3 = .int .i64 s3a) (fun o x t H e => match o with | s3ax => x = .exit 0 ∧ t 0 = .sl false false p0.length (encL (eI .i64) p0) ∧ t 3 = .int .i64 s3ax) ho4 ?_ ?_ ?_
  ·
    refine ⟨?_, ?_⟩
    all_goals (first | rfl | (simp only [w, seval, -Int.reduceToNat] <;> rfl))
  · rintro s3a t H e ⟨t0a, t3a⟩ c hh
    simp only [r04_trim_L1] at hh
    try simp only [w, seval, -Int.reduceToNat, t0a, t3a]
    refine tstO_br (fun hb5 => ?_) (fun hb5 => ?_)
    · replace hh := ite_t hb5 hh
      obtain ⟨x6, hx6, hh⟩ := bindS hh
      have bx6 := idx_bd hx6
      have ax6 := idx_enc (eI .i64) hx6
      have fx6 := idx_fit (eI .i64) hx6
      simp only [vmz] at ax6 fx6
      skip
      try simp only [w, seval, -Int.reduceToNat, t0a, t3a, bx6, ax6, fx6]
      refine tstC_br (fun hb7 => ?_) (fun hb7 => ?_)
      · replace hh := ite_t hb7 hh
        cases hh
        try simp only [w, seval, -Int.reduceToNat, t0a, t3a, bx6, ax6, fx6]
        rw [LK_normal]
        refine ⟨_, rfl, ?_⟩
        refine ⟨?_, ?_⟩
        all_goals (first | rfl | (simp only [w, seval, -Int.reduceToNat, t0a, t3a, bx6, ax6, fx6] <;> rfl))
      · replace hh := ite_f hb7 hh
        cases hh
        try simp only [w, seval, -Int.reduceToNat, t0a, t3a, bx6, ax6, fx6]
        rw [LK_exit]
        refine ⟨_, rfl, ?_⟩
        refine ⟨rfl, ⟨?_, ?_⟩⟩
        all_goals (first | rfl | (simp only [w, seval, -Int.reduceToNat, t0a, t3a, bx6, ax6, fx6] <;> rfl))
    · replace hh := ite_f hb5 hh
      cases hh
      try simp only [w, seval, -Int.reduceToNat, t0a, t3a]
      rw [LK_exit]
      refine ⟨_, rfl, ?_⟩
      refine ⟨rfl, ⟨?_, ?_⟩⟩
      all_goals (first | rfl | (simp only [w, seval, -Int.reduceToNat, t0a, t3a] <;> rfl))
  · rintro x t H e hx
    obtain ⟨s3ax, rfl⟩ : ∃ z, z = o4 := ⟨_, rfl⟩
    dsimp only at hx hh
    obtain ⟨rfl, ⟨t0ax, t3ax⟩⟩ := hx
    obtain ⟨x8, hx8, hh⟩ := bindS hh
    obtain ⟨q9a, q9b, q9c, q9d, q9e⟩ := slc_nh (eI .i64) hx8
    simp only [vmz] at q9e
    obtain ⟨x10, hx10, hh⟩ := bindS hh
    obtain ⟨q11a, q11b, q11c⟩ := app_nil hx10
    subst q11a
    cases hh
    try simp only [w, seval, -Int.reduceToNat, t0ax, t3ax, q9a, q9b, q9c, q9d, q9e, q11b, q11c]

theorem ok_r04_trim : COk Try.prog 125 G_r04_trim := COk.of (mode := .clean) tok GOk.none mixed Try.func125 (by kernel_rfl) ⟨by kernel_rfl, by kernel_rfl⟩ (fun _ => Nat.le_of_ble_eq_true (by kernel_rfl)) (fun x r h => m_r04_trim x r h)

noncomputable def G_r04_made := mkG (asC (aI .i64) (as1 (aSl (eI .i64)))) (fun x : Int × (List Int) => r04_made x.1 x.2) (fun r : TBig => .clean (.agg [.int .i64 r.f_Sign, .sl false false r.f_Digits.length (encL (eI .i64) r.f_Digits)]))

theorem q_r04_made (p0 : Int) (p1 : (List Int)) : G_r04_made none [.int .i64 p0, .sl false false p1.length (encL (eI .i64) p1)] = (r04_made p0 p1).map fun r : TBig => (.clean (.agg [.int .i64 r.f_Sign, .sl false false r.f_Digits.length (encL (eI .i64) r.f_Digits)]), none) := mkG_eq _ _ _ (p0, p1)

noncomputable def g_r04_made : Env := (Am.ext noEnv 125 false G_r04_trim)

theorem ge_r04_made : GOk Try.prog g_r04_made := (GOk.none.add ok_r04_trim false)

theorem gg_r04_made : g_r04_made = (Am.ext noEnv 125 false G_r04_trim) := Eq.trans rfl rfl

theorem x_r04_made : type_of% (And.intro @w <| And.intro @q_r04_trim <| @gg_r04_made) := And.intro @w <| And.intro @q_r04_trim <| @gg_r04_made

theorem m_r04_made (p0 : Int) (p1 : (List Int)) (r : TBig) (hh : r04_made p0 p1 = some r) : vfunc .clean tab g_r04_made FU Try.f110 none [.int .i64 p0, .sl false false p1.length (encL (eI .i64) p1)] = some (.clean (.agg [.int .i64 r.f_Sign, .sl false false r.f_Digits.length (encL (eI .i64) r.f_Digits)]), none) := by
  refine vfunc_of rfl Try.ntmps110 Try.results110 ?_
  unfold r04_made at hh
  obtain ⟨r1, hr1, hh⟩ := bindS hh
  try simp only [x_r04_made, seval, -Int.reduceToNat, hr1]
  refine tstC_br (fun hb2 => ?_) (fun hb2 => ?_)
  · replace hh := ite_t hb2 hh
    cases hh
    try simp only [x_r04_made, seval, -Int.reduceToNat, hr1]
  · replace hh := ite_f hb2 hh
    cases hh
    try simp only [x_r04_made, seval, -Int.reduceToNat, hr1]

theorem ok_r04_made : COk Try.prog 110 G_r04_made := COk.of (mode := .clean) tok ge_r04_made mixed Try.func110 (by kernel_rfl) ⟨by kernel_rfl, by kernel_rfl⟩ (fun _ => Nat.le_of_ble_eq_true (by kernel_rfl)) (fun x r h => m_r04_made x.1 x.2 r h)

noncomputable def G_r04_Of := mkG (as1 (aI .i64)) (fun x : Int => r04_Of x) (fun r : TBig => .clean (.agg [.int .i64 r.f_Sign, .sl false false r.f_Digits.length (encL (eI .i64) r.f_Digits)]))

theorem q_r04_Of (p0 : Int) : G_r04_Of none [.int .i64 p0] = (r04_Of p0).map fun r : TBig => (.clean (.agg [.int .i64 r.f_Sign, .sl false false r.f_Digits.length (encL (eI .i64) r.f_Digits)]), none) := mkG_eq _ _ _ (p0)

noncomputable def g_r04_Of : Env := (Am.ext noEnv 110 false G_r04_made)

theorem ge_r04_Of : GOk Try.prog g_r04_Of := (GOk.none.add ok_r04_made false)

theorem gg_r04_Of : g_r04_Of = (Am.ext noEnv 110 false G_r04_made) := Eq.trans rfl rfl

theorem x_r04_Of : type_of% (And.intro @w <| And.intro @q_r04_made <| @gg_r04_Of) := And.intro @w <| And.intro @q_r04_made <| @gg_r04_Of

theorem m_r04_Of (p0 : Int) (r : TBig) (hh : r04_Of p0 = some r) : vfunc .clean tab g_r04_Of FU Try.f84 none [.int .i64 p0] = some (.clean (.agg [.int .i64 r.f_Sign, .sl false false r.f_Digits.length (encL (eI .i64) r.f_Digits)]), none) := by
  refine vfunc_of rfl Try.ntmps84 Try.results84 ?_
  unfold r04_Of at hh
  try simp only [x_r04_Of, seval, -Int.reduceToNat]
  refine tstC_br (fun hb1 => ?_) (fun hb1 => ?_)
  · replace hh := ite_t hb1 hh
    cases hh
    try simp only [x_r04_Of, seval, -Int.reduceToNat]
  · replace hh := ite_f hb1 hh
    try simp only [x_r04_Of, seval, -Int.reduceToNat]
    obtain ⟨o2, ho2, hh⟩ := bindS hh
    refine tstC_cut 0 (fun s t H e => match s with | s3j1 => ∃ v2j1 : Nat, t 0 = .int .i64 p0 ∧ t 2 = .ptr 2 v2j1 0 ∧ t 3 = .int .i64 s3j1 ∧ H 2 = some ⟨v2j1, 32, [.int .i64 0, .sl true true 0 []], false, false⟩) (fun s => s = o2) ?_ ?_
    · rintro s3j1 t H e ⟨v2j1, t0j1, t2j1, t3j1, H2j1⟩ rfl
      try dsimp only at hh
      try simp only [x_r04_Of, seval, -Int.reduceToNat, t0j1, t2j1, t3j1, H2j1]
      obtain ⟨o15, ho15, hh⟩ := bindS hh
      refine runLoop_sim (fun s t H e => match s with | (s0b, l4b) => ∃ v2b : Nat, ∃ v4b : Nat, t 0 = .int .i64 s0b ∧ t 2 = .ptr 2 v2b 0 ∧ t 3 = .int .i64 s3j1 ∧ t 4 = .buf 4 v4b 1 0 (l4b).length ∧ H 2 = some ⟨v2b, 32, [.int .i64 0, .sl true true 0 []], false, false⟩ ∧ H 4 = some ⟨v4b, 3, encL (eI .i64) l4b, false, true⟩) (fun o x t H e => match o with | l4bx => x = .exit 0 ∧ ∃ v2bx : Nat, ∃ v4bx : Nat, t 2 = .ptr 2 v2bx 0 ∧ t 3 = .int .i64 s3j1 ∧ t 4 = .buf 4 v4bx 1 0 (l4bx).length ∧ H 2 = some ⟨v2bx, 32, [.int .i64 0, .sl true true 0 []], false, false⟩ ∧ H 4 = some ⟨v4bx, 3, encL (eI .i64) l4bx, false, true⟩) ho15 ?_ ?_ ?_
      ·
        refine ⟨v2j1, e, ?_, ?_, ?_, ?_, ?_, ?_⟩
        all_goals (first | rfl | (simp only [x_r04_Of, seval, -Int.reduceToNat, t0j1, t2j1, t3j1, H2j1] <;> rfl))
      · rintro ⟨s0b, l4b⟩ t H e ⟨v2b, v4b, t0b, t2b, t3b, t4b, H2b, H4b⟩ c hh
        simp only [r04_Of_L2] at hh
        try simp only [x_r04_Of, seval, -Int.reduceToNat, t0b, t2b, t3b, t4b, H2b, H4b]
        refine tstC_br (fun hb16 => ?_) (fun hb16 => ?_)
        · replace hh := ite_t hb16 hh
          obtain ⟨x17, hx17, hh⟩ := bindS hh
          obtain ⟨q18a, q18b⟩ := modI_ok hx17
          try simp only [x_r04_Of, seval, -Int.reduceToNat, t0b, t2b, t3b, t4b, H2b, H4b, q18a, q18b]
          refine tstC_br (fun hb19 => ?_) (fun hb19 => ?_)
          · replace hh := ite_t hb19 hh
            obtain ⟨x20, hx20, hh⟩ := bindS hh
            obtain ⟨q21a, q21b, q21c, q21d⟩ := app_one (eI .i64) hx20
            simp only [vmz] at q21b
            obtain ⟨x22, hx22, hh⟩ := bindS hh
            obtain ⟨q23a, q23b⟩ := divI_ok hx22
            cases hh
            try simp only [x_r04_Of, seval, -Int.reduceToNat, t0b, t2b, t3b, t4b, H2b, H4b, q18a, q18b, q21a, q21b, q21c, q21d, q23a, q23b]
            rw [LK_normal]
            refine ⟨_, rfl, ?_⟩
            refine ⟨v2b, e + 1 + 1 + 1 + 1, ?_, ?_, ?_, ?_, ?_, ?_⟩
            all_goals (first | rfl | (simp only [x_r04_Of, seval, -Int.reduceToNat, t0b, t2b, t3b, t4b, H2b, H4b, q18a, q18b, q21a, q21b, q21c, q21d, q23a, q23b] <;> rfl))
          · replace hh := ite_f hb19 hh
            obtain ⟨x24, hx24, hh⟩ := bindS hh
            obtain ⟨q25a, q25b, q25c, q25d⟩ := app_one (eI .i64) hx24
            simp only [vmz] at q25b
            obtain ⟨x26, hx26, hh⟩ := bindS hh
            obtain ⟨q27a, q27b⟩ := divI_ok hx26
            cases hh
            try simp only [x_r04_Of, seval, -Int.reduceToNat, t0b, t2b, t3b, t4b, H2b, H4b, q18a, q18b, q25a, q25b, q25c, q25d, q27a, q27b]
            rw [LK_normal]
            refine ⟨_, rfl, ?_⟩
            refine ⟨v2b, e + 1 + 1 + 1, ?_, ?_, ?_, ?_, ?_, ?_⟩
            all_goals (first | rfl | (simp only [x_r04_Of, seval, -Int.reduceToNat, t0b, t2b, t3b, t4b, H2b, H4b, q18a, q18b, q25a, q25b, q25c, q25d, q27a, q27b] <;> rfl))
        · replace hh := ite_f hb16 hh
          cases hh
          try simp only [x_r04_Of, seval, -Int.reduceToNat, t0b, t2b, t3b, t4b, H2b, H4b]
          rw [LK_exit]
          refine ⟨_, rfl, ?_⟩
          refine ⟨rfl, ⟨v2b, v4b, ?_, ?_, ?_, ?_, ?_⟩⟩
          all_goals (first | rfl | (simp only [x_r04_Of, seval, -Int.reduceToNat, t0b, t2b, t3b, t4b, H2b, H4b] <;> rfl))
      · rintro x t H e hx
        obtain ⟨l4bx, rfl⟩ : ∃ z, z = o15 := ⟨_, rfl⟩
        dsimp only at hx hh
        obtain ⟨rfl, ⟨v2bx, v4bx, t2bx, t3bx, t4bx, H2bx, H4bx⟩⟩ := hx
        obtain ⟨r28, hr28, hh⟩ := bindS hh
        cases hh
        try simp only [x_r04_Of, seval, -Int.reduceToNat, t2bx, t3bx, t4bx, H2bx, H4bx, hr28]
    ·
      clear hh
      have hh := ho2
      try simp only [x_r04_Of, seval, -Int.reduceToNat]
      refine tstC_br (fun hb29 => ?_) (fun hb29 => ?_)
      · replace hh := ite_t hb29 hh
        cases hh
        try simp only [x_r04_Of, seval, -Int.reduceToNat]
        rw [CK_normal]
        refine ⟨_, rfl, ?_⟩
        refine ⟨0, ?_, ?_, ?_, ?_⟩
        all_goals (first | rfl | (simp only [x_r04_Of, seval, -Int.reduceToNat] <;> rfl))
      · replace hh := ite_f hb29 hh
        cases hh
        try simp only [x_r04_Of, seval, -Int.reduceToNat]
        rw [CK_normal]
        refine ⟨_, rfl, ?_⟩
        refine ⟨0, ?_, ?_, ?_, ?_⟩
        all_goals (first | rfl | (simp only [x_r04_Of, seval, -Int.reduceToNat] <;> rfl))

theorem ok_r04_Of : COk Try.prog 84 G_r04_Of := COk.of (mode := .clean) tok ge_r04_Of mixed Try.func84 (by kernel_rfl) ⟨by kernel_rfl, by kernel_rfl⟩ (fun _ => Nat.le_of_ble_eq_true (by kernel_rfl)) (fun x r h => m_r04_Of x r h)

noncomputable def G_r04_Right := mkG (as1 (aAgg eTBig)) (fun x : TBig => r04_Right x) (fun r : Bool => .clean (.bool r))

theorem q_r04_Right (p0_0 : Int) (p0_1 : (List Int)) : G_r04_Right none [.agg [.int .i64 p0_0, .sl false false p0_1.length (encL (eI .i64) p0_1)]] = (r04_Right (TBig.mk p0_0 p0_1)).map fun r : Bool => (.clean (.bool r), none) := mkG_eq _ _ _ ((TBig.mk p0_0 p0_1))

theorem m_r04_Right (p0 : TBig) (r : Bool) (hh : r04_Right p0 = some r) : vfunc .clean tab noEnv FU Try.f81 none [.agg [.int .i64 p0.f_Sign, .sl false false p0.f_Digits.length (encL (eI .i64) p0.f_Digits)]] = some (.clean (.bool r), none) := by
  refine vfunc_of rfl Try.ntmps81 Try.results81 ?_
  unfold r04_Right at hh
  try simp only [w, seval, -Int.reduceToNat]
  obtain ⟨o5, ho5, hh⟩ := bindS hh
  refine runLoop_sim (fun s t H e => match s with | s3a => ∃ v1a : Nat, t 1 = .ptr 1 v1a 0 ∧ t 3 = .int .i64 s3a ∧ H 1 = some ⟨v1a, 32, [.int .i64 p0.f_Sign, .sl false false p0.f_Digits.length (encL (eI .i64) p0.f_Digits)], false, false⟩) (fun o x t H e => match o with | (.inl _) => x = .exit 0 ∧ ∃ v1ax : Nat, t 1 = .ptr 1 v1ax 0 ∧ H 1 = some ⟨v1ax, 32, [.int .i64 p0.f_Sign, .sl false false p0.f_Digits.length (encL (eI .i64) p0.f_Digits)], false, false⟩ | (.inr r) => x = .ret ∧ endM .clean tab none [.tmp 2] ⟨t, H, e⟩ = some (.clean (.bool r), none)) ho5 ?_ ?_ ?_
  ·
    refine ⟨0, ?_, ?_, ?_⟩
    all_goals (first | rfl | (simp only [w, seval, -Int.reduceToNat] <;> rfl))
  · rintro s3a t H e ⟨v1a, t1a, t3a, H1a⟩ c hh
    simp only [r04_Right_L1] at hh
    try simp only [w, seval, -Int.reduceToNat, t1a, t3a, H1a]
    refine tstC_br (fun hb6 => ?_) (fun hb6 => ?_)
    · replace hh := ite_t hb6 hh
      obtain ⟨x7, hx7, hh⟩ := bindS hh
      have bx7 := idx_bd hx7
      have ax7 := idx_enc (eI .i64) hx7
      have fx7 := idx_fit (eI .i64) hx7
      simp only [vmz] at ax7 fx7
      skip
      try simp only [w, seval, -Int.reduceToNat, t1a, t3a, H1a, bx7, ax7, fx7]
      refine tstO_br' (fun hb8 => ?_) (fun hb8 => ?_)
      · replace hh := ite_t hb8 hh
        cases hh
        try simp only [w, seval, -Int.reduceToNat, t1a, t3a, H1a, bx7, ax7, fx7]
        rw [LK_ret]
        refine ⟨_, rfl, ?_⟩
        refine ⟨rfl, ?_⟩
        try simp only [w, seval, -Int.reduceToNat, t1a, t3a, H1a, bx7, ax7, fx7]
      · replace hh := ite_f hb8 hh
        have bx7 := idx_bd hx7
        have ax7 := idx_enc (eI .i64) hx7
        have fx7 := idx_fit (eI .i64) hx7
        simp only [vmz] at ax7 fx7
        skip
        try simp only [w, seval, -Int.reduceToNat, t1a, t3a, H1a, bx7, ax7, fx7, bx7, ax7, fx7]
        refine tstC_br (fun hb9 => ?_) (fun hb9 => ?_)
        · replace hh := ite_t hb9 hh
          cases hh
          try simp only [w, seval, -Int.reduceToNat, t1a, t3a, H1a, bx7, ax7, fx7, bx7, ax7, fx7]
          rw [LK_ret]
          refine ⟨_, rfl, ?_⟩
          refine ⟨rfl, ?_⟩
          try simp only [w, seval, -Int.reduceToNat, t1a, t3a, H1a, bx7, ax7, fx7, bx7, ax7, fx7]
        · replace hh := ite_f hb9 hh
          cases hh
          try simp only [w, seval, -Int.reduceToNat, t1a, t3a, H1a, bx7, ax7, fx7, bx7, ax7, fx7]
          rw [LK_normal]
          refine ⟨_, rfl, ?_⟩
          refine ⟨v1a, ?_, ?_, ?_⟩
          all_goals (first | rfl | (simp only [w, seval, -Int.reduceToNat, t1a, t3a, H1a, bx7, ax7, fx7, bx7, ax7, fx7] <;> rfl))
    · replace hh := ite_f hb6 hh
      cases hh
      try simp only [w, seval, -Int.reduceToNat, t1a, t3a, H1a]
      rw [LK_exit]
      refine ⟨_, rfl, ?_⟩
      refine ⟨rfl, ⟨v1a, ?_, ?_⟩⟩
      all_goals (first | rfl | (simp only [w, seval, -Int.reduceToNat, t1a, t3a, H1a] <;> rfl))
  · rintro x t H e hx
    rcases o5 with _ | ra
    ·
      dsimp only at hx hh
      obtain ⟨rfl, ⟨v1ax, t1ax, H1ax⟩⟩ := hx
      try simp only [w, seval, -Int.reduceToNat, t1ax, H1ax]
      obtain ⟨o10, ho10, hh⟩ := bindS hh
      refine tstO_cut 0 (fun s t H e => match s with | s44j2 => ∃ v1j2 : Nat, t 1 = .ptr 1 v1j2 0 ∧ t 4 = .int .i64 (p0.f_Digits.length : Int) ∧ t 44 = .bool s44j2 ∧ H 1 = some ⟨v1j2, 32, [.int .i64 p0.f_Sign, .sl false false p0.f_Digits.length (encL (eI .i64) p0.f_Digits)], false, false⟩) (fun s => s = o10) ?_ ?_
      · rintro s44j2 t H e ⟨v1j2, t1j2, t4j2, t44j2, H1j2⟩ rfl
        try dsimp only at hh
        try simp only [w, seval, -Int.reduceToNat, t1j2, t4j2, t44j2, H1j2]
        refine tstC_br (fun hb11 => ?_) (fun hb11 => ?_)
        · replace hh := ite_t hb11 hh
          cases hh
          try simp only [w, seval, -Int.reduceToNat, t1j2, t4j2, t44j2, H1j2]
        · replace hh := ite_f hb11 hh
          try simp only [w, seval, -Int.reduceToNat, t1j2, t4j2, t44j2, H1j2]
          refine tstO_br' (fun hb12 => ?_) (fun hb12 => ?_)
          · replace hh := ite_t hb12 hh
            cases hh
            try simp only [w, seval, -Int.reduceToNat, t1j2, t4j2, t44j2, H1j2]
          · replace hh := ite_f hb12 hh
            obtain ⟨x13, hx13, hh⟩ := bindS hh
            have bx13 := idx_bd hx13
            have ax13 := idx_enc (eI .i64) hx13
            have fx13 := idx_fit (eI .i64) hx13
            simp only [vmz] at ax13 fx13
            skip
            cases hh
            try simp only [w, seval, -Int.reduceToNat, t1j2, t4j2, t44j2, H1j2, bx13, ax13, fx13]
      ·
        clear hh
        have hh := ho10
        try simp only [w, seval, -Int.reduceToNat, t1ax, H1ax]
        refine tstO_br' (fun hb14 => ?_) (fun hb14 => ?_)
        · replace hh := ite_t hb14 hh
          cases hh
          try simp only [w, seval, -Int.reduceToNat, t1ax, H1ax]
          rw [CK_normal]
          refine ⟨_, rfl, ?_⟩
          refine ⟨v1ax, ?_, ?_, ?_, ?_⟩
          all_goals (first | rfl | (simp only [w, seval, -Int.reduceToNat, t1ax, H1ax] <;> rfl))
        · replace hh := ite_f hb14 hh
          try simp only [w, seval, -Int.reduceToNat, t1ax, H1ax]
          refine tstO_br' (fun hb15 => ?_) (fun hb15 => ?_)
          · replace hh := ite_t hb15 hh
            cases hh
            try simp only [w, seval, -Int.reduceToNat, t1ax, H1ax]
            rw [CK_normal]
            refine ⟨_, rfl, ?_⟩
            refine ⟨v1ax, ?_, ?_, ?_, ?_⟩
            all_goals (first | rfl | (simp only [w, seval, -Int.reduceToNat, t1ax, H1ax] <;> rfl))
          · replace hh := ite_f hb15 hh
            cases hh
            try simp only [w, seval, -Int.reduceToNat, t1ax, H1ax]
            rw [CK_normal]
            refine ⟨_, rfl, ?_⟩
            refine ⟨v1ax, ?_, ?_, ?_, ?_⟩
            all_goals (first | rfl | (simp only [w, seval, -Int.reduceToNat, t1ax, H1ax] <;> rfl))
    ·
      dsimp only at hx hh
      obtain ⟨rfl, hE⟩ := hx
      cases hh
      try simp only [runW_pass_ret, runW_pass_exit, runW_blk_ret, runW_nil, endW_ret]
      exact hE

theorem ok_r04_Right : COk Try.prog 81 G_r04_Right := COk.of (mode := .clean) tok GOk.none mixed Try.func81 (by kernel_rfl) ⟨by kernel_rfl, by kernel_rfl⟩ (fun _ => Nat.le_of_ble_eq_true (by kernel_rfl)) (fun x r h => m_r04_Right x r h)

noncomputable def G_r04_Neg := mkG (as1 (aAgg eTBig)) (fun x : TBig => r04_Neg x) (fun r : TBig => .clean (.agg [.int .i64 r.f_Sign, .sl false false r.f_Digits.length (encL (eI .i64) r.f_Digits)]))

theorem q_r04_Neg (p0_0 : Int) (p0_1 : (List Int)) : G_r04_Neg none [.agg [.int .i64 p0_0, .sl false false p0_1.length (encL (eI .i64) p0_1)]] = (r04_Neg (TBig.mk p0_0 p0_1)).map fun r : TBig => (.clean (.agg [.int .i64 r.f_Sign, .sl false false r.f_Digits.length (encL (eI .i64) r.f_Digits)]), none) := mkG_eq _ _ _ ((TBig.mk p0_0 p0_1))

noncomputable def g_r04_Neg : Env := (Am.ext (Am.ext noEnv 81 false G_r04_Right) 110 false G_r04_made)

theorem ge_r04_Neg : GOk Try.prog g_r04_Neg := ((GOk.none.add ok_r04_Right false).add ok_r04_made false)

theorem gg_r04_Neg : g_r04_Neg = (Am.ext (Am.ext noEnv 81 false G_r04_Right) 110 false G_r04_made) := Eq.trans rfl rfl

theorem x_r04_Neg : type_of% (And.intro @w <| And.intro @q_r04_Right <| And.intro @q_r04_made <| @gg_r04_Neg) := And.intro @w <| And.intro @q_r04_Right <| And.intro @q_r04_made <| @gg_r04_Neg

theorem m_r04_Neg (p0 : TBig) (r : TBig) (hh : r04_Neg p0 = some r) : vfunc .clean tab g_r04_Neg FU Try.f119 none [.agg [.int .i64 p0.f_Sign, .sl false false p0.f_Digits.length (encL (eI .i64) p0.f_Digits)]] = some (.clean (.agg [.int .i64 r.f_Sign, .sl false false r.f_Digits.length (encL (eI .i64) r.f_Digits)]), none) := by
  refine vfunc_of rfl Try.ntmps119 Try.results119 ?_
  unfold r04_Neg at hh
  obtain ⟨r1, hr1, hh⟩ := bindS hh
  try simp only [x_r04_Neg, seval, -Int.reduceToNat, hr1]
  refine tstC_br (fun hb2 => ?_) (fun hb2 => ?_)
  · replace hh := ite_t hb2 hh
    cases hh
    try simp only [x_r04_Neg, seval, -Int.reduceToNat, hr1]
  · replace hh := ite_f hb2 hh
    obtain ⟨r3, hr3, hh⟩ := bindS hh
    cases hh
    try simp only [x_r04_Neg, seval, -Int.reduceToNat, hr1, hr3]

theorem ok_r04_Neg : COk Try.prog 119 G_r04_Neg := COk.of (mode := .clean) tok ge_r04_Neg mixed Try.func119 (by kernel_rfl) ⟨by kernel_rfl, by kernel_rfl⟩ (fun _ => Nat.le_of_ble_eq_true (by kernel_rfl)) (fun x r h => m_r04_Neg x r h)

noncomputable def G_r04_digit := mkG (asC (aSl (eI .i64)) (as1 (aI .i64))) (fun x : (List Int) × Int => r04_digit x.1 x.2) (fun r : Int => .clean (.int .i64 r))

theorem q_r04_digit (p0 : (List Int)) (p1 : Int) : G_r04_digit none [.sl false false p0.length (encL (eI .i64) p0), .int .i64 p1] = (r04_digit p0 p1).map fun r : Int => (.clean (.int .i64 r), none) := mkG_eq _ _ _ (p0, p1)

theorem m_r04_digit (p0 : (List Int)) (p1 : Int) (r : Int) (hh : r04_digit p0 p1 = some r) : vfunc .clean tab noEnv FU Try.f128 none [.sl false false p0.length (encL (eI .i64) p0), .int .i64 p1] = some (.clean (.int .i64 r), none) := by
  refine vfunc_of rfl Try.ntmps128 Try.results128 ?_
  unfold r04_digit at hh
  try simp only [w, seval, -Int.reduceToNat]
  refine tstC_br (fun hb1 => ?_) (fun hb1 => ?_)
  · replace hh := ite_t hb1 hh
    obtain ⟨x2, hx2, hh⟩ := bindS hh
    have bx2 := idx_bd hx2
    have ax2 := idx_enc (eI .i64) hx2
    have fx2 := idx_fit (eI .i64) hx2
    simp only [vmz] at ax2 fx2
    skip
    cases hh
    try simp only [w, seval, -Int.reduceToNat, bx2, ax2, fx2]
  · replace hh := ite_f hb1 hh
    cases hh
    try simp only [w, seval, -Int.reduceToNat]

theorem ok_r04_digit : COk Try.prog 128 G_r04_digit := COk.of (mode := .clean) tok GOk.none mixed Try.func128 (by kernel_rfl) ⟨by kernel_rfl, by kernel_rfl⟩ (fun _ => Nat.le_of_ble_eq_true (by kernel_rfl)) (fun x r h => m_r04_digit x.1 x.2 r h)

noncomputable def G_r04_times := mkG (asC (aSl (eI .i64)) (as1 (aSl (eI .i64)))) (fun x : (List Int) × (List Int) => r04_times x.1 x.2) (fun r : (List Int) => .clean (.sl false false r.length (encL (eI .i64) r)))

theorem q_r04_times (p0 : (List Int)) (p1 : (List Int)) : G_r04_times none [.sl false false p0.length (encL (eI .i64) p0), .sl false false p1.length (encL (eI .i64) p1)] = (r04_times p0 p1).map fun r : (List Int) => (.clean (.sl false false r.length (encL (eI .i64) r)), none) := mkG_eq _ _ _ (p0, p1)

noncomputable def g_r04_times : Env := (Am.ext (Am.ext noEnv 125 false G_r04_trim) 128 false G_r04_digit)

theorem ge_r04_times : GOk Try.prog g_r04_times := ((GOk.none.add ok_r04_trim false).add ok_r04_digit false)

theorem gg_r04_times : g_r04_times = (Am.ext (Am.ext noEnv 125 false G_r04_trim) 128 false G_r04_digit) := Eq.trans rfl rfl

theorem x_r04_times : type_of% (And.intro @w <| And.intro @q_r04_trim <| And.intro @q_r04_digit <| @gg_r04_times) := And.intro @w <| And.intro @q_r04_trim <| And.intro @q_r04_digit <| @gg_r04_times

theorem m_r04_times (p0 : (List Int)) (p1 : (List Int)) (r : (List Int)) (hh : r04_times p0 p1 = some r) : vfunc .clean tab g_r04_times FU Try.f126 none [.sl false false p0.length (encL (eI .i64) p0), .sl false false p1.length (encL (eI .i64) p1)] = some (.clean (.sl false false r.length (encL (eI .i64) r)), none) := by
  refine vfunc_of rfl Try.ntmps126 Try.results126 ?_
  unfold r04_times at hh
  obtain ⟨x1, hx1, hh⟩ := bindS hh
  obtain ⟨q2a, q2b, q2c, q2d, q2e⟩ := mk_one (eI .i64) hx1
  simp only [vmz] at q2d
  try simp only [x_r04_times, seval, -Int.reduceToNat, q2a, q2b, q2c, q2d, q2e]
  obtain ⟨o27, ho27, hh⟩ := bindS hh
  refine runLoop_sim (fun s t H e => match s with | (s6a, l5a) => ∃ v5a : Nat, t 0 = .sl false false p0.length (encL (eI .i64) p0) ∧ t 1 = .sl false false p1.length (encL (eI .i64) p1) ∧ t 5 = .buf 5 v5a 1 0 (l5a).length ∧ t 6 = .int .i64 s6a ∧ H 5 = some ⟨v5a, 3, encL (eI .i64) l5a, false, true⟩) (fun o x t H e => match o with | l5ax => x = .exit 0 ∧ ∃ v5ax : Nat, t 5 = .buf 5 v5ax 1 0 (l5ax).length ∧ H 5 = some ⟨v5ax, 3, encL (eI .i64) l5ax, false, true⟩) ho27 ?_ ?_ ?_
  ·
    refine ⟨1, ?_, ?_, ?_, ?_, ?_⟩
    all_goals (first | rfl | (simp only [x_r04_times, seval, -Int.reduceToNat, q2a, q2b, q2c, q2d, q2e] <;> rfl))
  · rintro ⟨s6a, l5a⟩ t H e ⟨v5a, t0a, t1a, t5a, t6a, H5a⟩ c hh
    simp only [r04_times_L1] at hh
    try simp only [x_r04_times, seval, -Int.reduceToNat, q2a, q2b, q2c, q2d, q2e, t0a, t1a, t5a, t6a, H5a]
    refine tstC_br (fun hb28 => ?_) (fun hb28 => ?_)
    · replace hh := ite_t hb28 hh
      try simp only [x_r04_times, seval, -Int.reduceToNat, q2a, q2b, q2c, q2d, q2e, t0a, t1a, t5a, t6a, H5a]
      obtain ⟨o40, ho40, hh⟩ := bindS hh
      refine runLoop_sim (fun s t H e => match s with | (s7e, s8e, l5e) => ∃ v5e : Nat, t 0 = .sl false false p0.length (encL (eI .i64) p0) ∧ t 1 = .sl false false p1.length (encL (eI .i64) p1) ∧ t 5 = .buf 5 v5e 1 0 (l5e).length ∧ t 6 = .int .i64 s6a ∧ t 7 = .int .i64 s7e ∧ t 8 = .int .i64 s8e ∧ H 5 = some ⟨v5e, 3, encL (eI .i64) l5e, false, true⟩) (fun o x t H e => match o with | l5ex => x = .exit 2 ∧ ∃ v5ex : Nat, t 0 = .sl false false p0.length (encL (eI .i64) p0) ∧ t 1 = .sl false false p1.length (encL (eI .i64) p1) ∧ t 5 = .buf 5 v5ex 1 0 (l5ex).length ∧ t 6 = .int .i64 s6a ∧ H 5 = some ⟨v5ex, 3, encL (eI .i64) l5ex, false, true⟩) ho40 ?_ ?_ ?_
      ·
        refine ⟨v5a, ?_, ?_, ?_, ?_, ?_, ?_, ?_⟩
        all_goals (first | rfl | (simp only [x_r04_times, seval, -Int.reduceToNat, q2a, q2b, q2c, q2d, q2e, t0a, t1a, t5a, t6a, H5a] <;> rfl))
      · rintro ⟨s7e, s8e, l5e⟩ t H e ⟨v5e, t0e, t1e, t5e, t6e, t7e, t8e, H5e⟩ c hh
        simp only [r04_times_L5] at hh
        try simp only [x_r04_times, seval, -Int.reduceToNat, q2a, q2b, q2c, q2d, q2e, t0e, t1e, t5e, t6e, t7e, t8e, H5e]
        obtain ⟨o41, ho41, hh⟩ := bindS hh
        refine tstO_cut 0 (fun s t H e => match s with | s29j7 => ∃ v5j7 : Nat, t 0 = .sl false false p0.length (encL (eI .i64) p0) ∧ t 1 = .sl false false p1.length (encL (eI .i64) p1) ∧ t 5 = .buf 5 v5j7 1 0 (l5e).length ∧ t 6 = .int .i64 s6a ∧ t 7 = .int .i64 s7e ∧ t 8 = .int .i64 s8e ∧ t 29 = .bool s29j7 ∧ H 5 = some ⟨v5j7, 3, encL (eI .i64) l5e, false, true⟩) (fun s => s = o41) ?_ ?_
        · rintro s29j7 t H e ⟨v5j7, t0j7, t1j7, t5j7, t6j7, t7j7, t8j7, t29j7, H5j7⟩ rfl
          try dsimp only at hh
          try simp only [x_r04_times, seval, -Int.reduceToNat, q2a, q2b, q2c, q2d, q2e, t0j7, t1j7, t5j7, t6j7, t7j7, t8j7, t29j7, H5j7]
          refine tstC_br (fun hb42 => ?_) (fun hb42 => ?_)
          · replace hh := ite_t hb42 hh
            obtain ⟨x43, hx43, hh⟩ := bindS hh
            have bx43 := idx_bd hx43
            have ax43 := idx_enc (eI .i64) hx43
            have fx43 := idx_fit (eI .i64) hx43
            simp only [vmz] at ax43 fx43
            skip
            obtain ⟨x44, hx44, hh⟩ := bindS hh
            have bx44 := idx_bd hx44
            have ax44 := idx_enc (eI .i64) hx44
            have fx44 := idx_fit (eI .i64) hx44
            simp only [vmz] at ax44 fx44
            skip
            obtain ⟨r45, hr45, hh⟩ := bindS hh
            try simp only [x_r04_times, seval, -Int.reduceToNat, q2a, q2b, q2c, q2d, q2e, t0j7, t1j7, t5j7, t6j7, t7j7, t8j7, t29j7, H5j7, bx43, ax43, fx43, bx44, ax44, fx44, hr45]
            refine dyn_ok (by kernel_rfl) ?_
            obtain ⟨x46, hx46, hh⟩ := bindS hh
            obtain ⟨q47a, q47b⟩ := modI_ok hx46
            have bx43 := idx_bd hx43
            have ax43 := idx_enc (eI .i64) hx43
            have fx43 := idx_fit (eI .i64) hx43
            simp only [vmz] at ax43 fx43
            skip
            have p48 := put_enc (eI .i64) (x' := x46) (fo := 0) (cs := [.int .i64 x46]) hx43 rfl (Nat.le_of_ble_eq_true rfl)
            simp only [vmz, Nat.add_zero] at p48
            have up48 := p48
            simp only [putCells, List.length_cons, List.length_nil, Nat.zero_add, Nat.reduceAdd] at up48
            obtain ⟨x49, hx49, hh⟩ := bindS hh
            obtain ⟨q50a, q50b⟩ := divI_ok hx49
            cases hh
            try simp only [x_r04_times, seval, -Int.reduceToNat, q2a, q2b, q2c, q2d, q2e, t0j7, t1j7, t5j7, t6j7, t7j7, t8j7, t29j7, H5j7, bx43, ax43, fx43, bx44, ax44, fx44, hr45, q47a, q47b, bx43, ax43, fx43, p48, up48, q50a, q50b]
            rw [LK_normal]
            refine ⟨_, rfl, ?_⟩
            refine ⟨v5j7, ?_, ?_, ?_, ?_, ?_, ?_, ?_⟩
            all_goals (first | rfl | (simp only [x_r04_times, seval, -Int.reduceToNat, q2a, q2b, q2c, q2d, q2e, t0j7, t1j7, t5j7, t6j7, t7j7, t8j7, t29j7, H5j7, bx43, ax43, fx43, bx44, ax44, fx44, hr45, q47a, q47b, bx43, ax43, fx43, p48, up48, q50a, q50b] <;> rfl))
          · replace hh := ite_f hb42 hh
            cases hh
            try simp only [x_r04_times, seval, -Int.reduceToNat, q2a, q2b, q2c, q2d, q2e, t0j7, t1j7, t5j7, t6j7, t7j7, t8j7, t29j7, H5j7]
            rw [LK_exit]
            refine ⟨_, rfl, ?_⟩
            refine ⟨rfl, ⟨v5j7, ?_, ?_, ?_, ?_, ?_⟩⟩
            all_goals (first | rfl | (simp only [x_r04_times, seval, -Int.reduceToNat, q2a, q2b, q2c, q2d, q2e, t0j7, t1j7, t5j7, t6j7, t7j7, t8j7, t29j7, H5j7] <;> rfl))
        ·
          clear hh
          have hh := ho41
          try simp only [x_r04_times, seval, -Int.reduceToNat, q2a, q2b, q2c, q2d, q2e, t0e, t1e, t5e, t6e, t7e, t8e, H5e]
          refine tstO_br' (fun hb51 => ?_) (fun hb51 => ?_)
          · replace hh := ite_t hb51 hh
            cases hh
            try simp only [x_r04_times, seval, -Int.reduceToNat, q2a, q2b, q2c, q2d, q2e, t0e, t1e, t5e, t6e, t7e, t8e, H5e]
            rw [CK_normal]
            refine ⟨_, rfl, ?_⟩
            refine ⟨v5e, ?_, ?_, ?_, ?_, ?_, ?_, ?_, ?_⟩
            all_goals (first | rfl | (simp only [x_r04_times, seval, -Int.reduceToNat, q2a, q2b, q2c, q2d, q2e, t0e, t1e, t5e, t6e, t7e, t8e, H5e] <;> rfl))
          · replace hh := ite_f hb51 hh
            cases hh
            try simp only [x_r04_times, seval, -Int.reduceToNat, q2a, q2b, q2c, q2d, q2e, t0e, t1e, t5e, t6e, t7e, t8e, H5e]
            rw [CK_normal]
            refine ⟨_, rfl, ?_⟩
            refine ⟨v5e, ?_, ?_, ?_, ?_, ?_, ?_, ?_, ?_⟩
            all_goals (first | rfl | (simp only [x_r04_times, seval, -Int.reduceToNat, q2a, q2b, q2c, q2d, q2e, t0e, t1e, t5e, t6e, t7e, t8e, H5e] <;> rfl))
      · rintro x t H e hx
        obtain ⟨l5ex, rfl⟩ : ∃ z, z = o40 := ⟨_, rfl⟩
        dsimp only at hx hh
        obtain ⟨rfl, ⟨v5ex, t0ex, t1ex, t5ex, t6ex, H5ex⟩⟩ := hx
        cases hh
        try simp only [x_r04_times, seval, -Int.reduceToNat, q2a, q2b, q2c, q2d, q2e, t0ex, t1ex, t5ex, t6ex, H5ex]
        rw [LK_normal]
        refine ⟨_, rfl, ?_⟩
        refine ⟨v5ex, ?_, ?_, ?_, ?_, ?_⟩
        all_goals (first | rfl | (simp only [x_r04_times, seval, -Int.reduceToNat, q2a, q2b, q2c, q2d, q2e, t0ex, t1ex, t5ex, t6ex, H5ex] <;> rfl))
    · replace hh := ite_f hb28 hh
      cases hh
      try simp only [x_r04_times, seval, -Int.reduceToNat, q2a, q2b, q2c, q2d, q2e, t0a, t1a, t5a, t6a, H5a]
      rw [LK_exit]
      refine ⟨_, rfl, ?_⟩
      refine ⟨rfl, ⟨v5a, ?_, ?_⟩⟩
      all_goals (first | rfl | (simp only [x_r04_times, seval, -Int.reduceToNat, q2a, q2b, q2c, q2d, q2e, t0a, t1a, t5a, t6a, H5a] <;> rfl))
  · rintro x t H e hx
    obtain ⟨l5ax, rfl⟩ : ∃ z, z = o27 := ⟨_, rfl⟩
    dsimp only at hx hh
    obtain ⟨rfl, ⟨v5ax, t5ax, H5ax⟩⟩ := hx
    obtain ⟨r52, hr52, hh⟩ := bindS hh
    cases hh
    try simp only [x_r04_times, seval, -Int.reduceToNat, q2a, q2b, q2c, q2d, q2e, t5ax, H5ax, hr52]

theorem ok_r04_times : COk Try.prog 126 G_r04_times := COk.of (mode := .clean) tok ge_r04_times mixed Try.func126 (by kernel_rfl) ⟨by kernel_rfl, by kernel_rfl⟩ (fun _ => Nat.le_of_ble_eq_true (by kernel_rfl)) (fun x r h => m_r04_times x.1 x.2 r h)

noncomputable def G_r04_less := mkG (asC (aSl (eI .i64)) (as1 (aSl (eI .i64)))) (fun x : (List Int) × (List Int) => r04_less x.1 x.2) (fun r : Bool => .clean (.bool r))

theorem q_r04_less (p0 : (List Int)) (p1 : (List Int)) : G_r04_less none [.sl false false p0.length (encL (eI .i64) p0), .sl false false p1.length (encL (eI .i64) p1)] = (r04_less p0 p1).map fun r : Bool => (.clean (.bool r), none) := mkG_eq _ _ _ (p0, p1)

noncomputable def g_r04_less : Env := (Am.ext noEnv 128 false G_r04_digit)

theorem ge_r04_less : GOk Try.prog g_r04_less := (GOk.none.add ok_r04_digit false)

theorem gg_r04_less : g_r04_less = (Am.ext noEnv 128 false G_r04_digit) := Eq.trans rfl rfl

theorem x_r04_less : type_of% (And.intro @w <| And.intro @q_r04_digit <| @gg_r04_less) := And.intro @w <| And.intro @q_r04_digit <| @gg_r04_less

theorem m_r04_less (p0 : (List Int)) (p1 : (List Int)) (r : Bool) (hh : r04_less p0 p1 = some r) : vfunc .clean tab g_r04_less FU Try.f112 none [.sl false false p0.length (encL (eI .i64) p0), .sl false false p1.length (encL (eI .i64) p1)] = some (.clean (.bool r), none) := by
  refine vfunc_of rfl Try.ntmps112 Try.results112 ?_
  unfold r04_less at hh
  try simp only [x_r04_less, seval, -Int.reduceToNat]
  obtain ⟨o5, ho5, hh⟩ := bindS hh
  refine runLoop_sim (fun s t H e => match s with | s5a => t 0 = .sl false false p0.length (encL (eI .i64) p0) ∧ t 1 = .sl false false p1.length (encL (eI .i64) p1) ∧ t 5 = .int .i64 s5a) (fun o x t H e => match o with | (.inl _) => x = .exit 0 | (.inr r) => x = .ret ∧ endM .clean tab none [.tmp 4] ⟨t, H, e⟩ = some (.clean (.bool r), none)) ho5 ?_ ?_ ?_
  ·
    refine ⟨?_, ?_, ?_⟩
    all_goals (first | rfl | (simp only [x_r04_less, seval, -Int.reduceToNat] <;> rfl))
  · rintro s5a t H e ⟨t0a, t1a, t5a⟩ c hh
    simp only [r04_less_L1] at hh
    try simp only [x_r04_less, seval, -Int.reduceToNat, t0a, t1a, t5a]
    refine tstC_br (fun hb6 => ?_) (fun hb6 => ?_)
    · replace hh := ite_t hb6 hh
      obtain ⟨r7, hr7, hh⟩ := bindS hh
      obtain ⟨r8, hr8, hh⟩ := bindS hh
      try simp only [x_r04_less, seval, -Int.reduceToNat, t0a, t1a, t5a, hr7, hr8]
      refine tstC_br (fun hb9 => ?_) (fun hb9 => ?_)
      · replace hh := ite_t hb9 hh
        cases hh
        try simp only [x_r04_less, seval, -Int.reduceToNat, t0a, t1a, t5a, hr7, hr8]
        rw [LK_ret]
        refine ⟨_, rfl, ?_⟩
        refine ⟨rfl, ?_⟩
        try simp only [x_r04_less, seval, -Int.reduceToNat, t0a, t1a, t5a, hr7, hr8]
      · replace hh := ite_f hb9 hh
        cases hh
        try simp only [x_r04_less, seval, -Int.reduceToNat, t0a, t1a, t5a, hr7, hr8]
        rw [LK_normal]
        refine ⟨_, rfl, ?_⟩
        refine ⟨?_, ?_, ?_⟩
        all_goals (first | rfl | (simp only [x_r04_less, seval, -Int.reduceToNat, t0a, t1a, t5a, hr7, hr8] <;> rfl))
    · replace hh := ite_f hb6 hh
      cases hh
      try simp only [x_r04_less, seval, -Int.reduceToNat, t0a, t1a, t5a]
      rw [LK_exit]
      refine ⟨_, rfl, ?_⟩
      exact rfl
  · rintro x t H e hx
    rcases o5 with _ | ra
    ·
      dsimp only at hx hh
      subst hx
      cases hh
      try simp only [x_r04_less, seval, -Int.reduceToNat]
    ·
      dsimp only at hx hh
      obtain ⟨rfl, hE⟩ := hx
      cases hh
      try simp only [runW_pass_ret, runW_pass_exit, runW_blk_ret, runW_nil, endW_ret]
      exact hE

theorem ok_r04_less : COk Try.prog 112 G_r04_less := COk.of (mode := .clean) tok ge_r04_less mixed Try.func112 (by kernel_rfl) ⟨by kernel_rfl, by kernel_rfl⟩ (fun _ => Nat.le_of_ble_eq_true (by kernel_rfl)) (fun x r h => m_r04_less x.1 x.2 r h)

noncomputable def G_r04_minus := mkG (asC (aSl (eI .i64)) (as1 (aSl (eI .i64)))) (fun x : (List Int) × (List Int) => r04_minus x.1 x.2) (fun r : (List Int) => .clean (.sl false false r.length (encL (eI .i64) r)))

theorem q_r04_minus (p0 : (List Int)) (p1 : (List Int)) : G_r04_minus none [.sl false false p0.length (encL (eI .i64) p0), .sl false false p1.length (encL (eI .i64) p1)] = (r04_minus p0 p1).map fun r : (List Int) => (.clean (.sl false false r.length (encL (eI .i64) r)), none) := mkG_eq _ _ _ (p0, p1)

noncomputable def g_r04_minus : Env := (Am.ext (Am.ext noEnv 125 false G_r04_trim) 128 false G_r04_digit)

theorem ge_r04_minus : GOk Try.prog g_r04_minus := ((GOk.none.add ok_r04_trim false).add ok_r04_digit false)

theorem gg_r04_minus : g_r04_minus = (Am.ext (Am.ext noEnv 125 false G_r04_trim) 128 false G_r04_digit) := Eq.trans rfl rfl

theorem x_r04_minus : type_of% (And.intro @w <| And.intro @q_r04_trim <| And.intro @q_r04_digit <| @gg_r04_minus) := And.intro @w <| And.intro @q_r04_trim <| And.intro @q_r04_digit <| @gg_r04_minus

theorem m_r04_minus (p0 : (List Int)) (p1 : (List Int)) (r : (List Int)) (hh : r04_minus p0 p1 = some r) : vfunc .clean tab g_r04_minus FU Try.f127 none [.sl false false p0.length (encL (eI .i64) p0), .sl false false p1.length (encL (eI .i64) p1)] = some (.clean (.sl false false r.length (encL (eI .i64) r)), none) := by
  refine vfunc_of rfl Try.ntmps127 Try.results127 ?_
  unfold r04_minus at hh
  try simp only [x_r04_minus, seval, -Int.reduceToNat]
  obtain ⟨o9, ho9, hh⟩ := bindS hh
  refine runLoop_sim (fun s t H e => match s with | (s6a, s7a, l5a) => ∃ v5a : Nat, t 0 = .sl false false p0.length (encL (eI .i64) p0) ∧ t 1 = .sl false false p1.length (encL (eI .i64) p1) ∧ t 5 = .buf 5 v5a 1 0 (l5a).length ∧ t 6 = .int .i64 s6a ∧ t 7 = .int .i64 s7a ∧ H 5 = some ⟨v5a, 3, encL (eI .i64) l5a, false, true⟩) (fun o x t H e => match o with | l5ax => x = .exit 0 ∧ ∃ v5ax : Nat, t 5 = .buf 5 v5ax 1 0 (l5ax).length ∧ H 5 = some ⟨v5ax, 3, encL (eI .i64) l5ax, false, true⟩) ho9 ?_ ?_ ?_
  ·
    refine ⟨1, ?_, ?_, ?_, ?_, ?_, ?_⟩
    all_goals (first | rfl | (simp only [x_r04_minus, seval, -Int.reduceToNat] <;> rfl))
  · rintro ⟨s6a, s7a, l5a⟩ t H e ⟨v5a, t0a, t1a, t5a, t6a, t7a, H5a⟩ c hh
    simp only [r04_minus_L1] at hh
    try simp only [x_r04_minus, seval, -Int.reduceToNat, t0a, t1a, t5a, t6a, t7a, H5a]
    refine tstC_br (fun hb10 => ?_) (fun hb10 => ?_)
    · replace hh := ite_t hb10 hh
      obtain ⟨x11, hx11, hh⟩ := bindS hh
      have bx11 := idx_bd hx11
      have ax11 := idx_enc (eI .i64) hx11
      have fx11 := idx_fit (eI .i64) hx11
      simp only [vmz] at ax11 fx11
      skip
      obtain ⟨r12, hr12, hh⟩ := bindS hh
      try simp only [x_r04_minus, seval, -Int.reduceToNat, t0a, t1a, t5a, t6a, t7a, H5a, bx11, ax11, fx11, hr12]
      refine dyn_ok (by kernel_rfl) ?_
      try simp only [x_r04_minus, seval, -Int.reduceToNat, t0a, t1a, t5a, t6a, t7a, H5a, bx11, ax11, fx11, hr12]
      refine tstC_br (fun hb13 => ?_) (fun hb13 => ?_)
      · replace hh := ite_t hb13 hh
        obtain ⟨x14, hx14, hh⟩ := bindS hh
        obtain ⟨q15a, q15b, q15c, q15d⟩ := app_one (eI .i64) hx14
        simp only [vmz] at q15b
        cases hh
        try simp only [x_r04_minus, seval, -Int.reduceToNat, t0a, t1a, t5a, t6a, t7a, H5a, bx11, ax11, fx11, hr12, q15a, q15b, q15c, q15d]
        rw [LK_normal]
        refine ⟨_, rfl, ?_⟩
        refine ⟨e + 1 + 1 + 1 + 1 + 1 + 1, ?_, ?_, ?_, ?_, ?_, ?_⟩
        all_goals (first | rfl | (simp only [x_r04_minus, seval, -Int.reduceToNat, t0a, t1a, t5a, t6a, t7a, H5a, bx11, ax11, fx11, hr12, q15a, q15b, q15c, q15d] <;> rfl))
      · replace hh := ite_f hb13 hh
        obtain ⟨x16, hx16, hh⟩ := bindS hh
        obtain ⟨q17a, q17b, q17c, q17d⟩ := app_one (eI .i64) hx16
        simp only [vmz] at q17b
        cases hh
        try simp only [x_r04_minus, seval, -Int.reduceToNat, t0a, t1a, t5a, t6a, t7a, H5a, bx11, ax11, fx11, hr12, q17a, q17b, q17c, q17d]
        rw [LK_normal]
        refine ⟨_, rfl, ?_⟩
        refine ⟨e + 1 + 1 + 1 + 1, ?_, ?_, ?_, ?_, ?_, ?_⟩
        all_goals (first | rfl | (simp only [x_r04_minus, seval, -Int.reduceToNat, t0a, t1a, t5a, t6a, t7a, H5a, bx11, ax11, fx11, hr12, q17a, q17b, q17c, q17d] <;> rfl))
    · replace hh := ite_f hb10 hh
      cases hh
      try simp only [x_r04_minus, seval, -Int.reduceToNat, t0a, t1a, t5a, t6a, t7a, H5a]
      rw [LK_exit]
      refine ⟨_, rfl, ?_⟩
      refine ⟨rfl, ⟨v5a, ?_, ?_⟩⟩
      all_goals (first | rfl | (simp only [x_r04_minus, seval, -Int.reduceToNat, t0a, t1a, t5a, t6a, t7a, H5a] <;> rfl))
  · rintro x t H e hx
    obtain ⟨l5ax, rfl⟩ : ∃ z, z = o9 := ⟨_, rfl⟩
    dsimp only at hx hh
    obtain ⟨rfl, ⟨v5ax, t5ax, H5ax⟩⟩ := hx
    obtain ⟨r18, hr18, hh⟩ := bindS hh
    cases hh
    try simp only [x_r04_minus, seval, -Int.reduceToNat, t5ax, H5ax, hr18]

theorem ok_r04_minus : COk Try.prog 127 G_r04_minus := COk.of (mode := .clean) tok ge_r04_minus mixed Try.func127 (by kernel_rfl) ⟨by kernel_rfl, by kernel_rfl⟩ (fun _ => Nat.le_of_ble_eq_true (by kernel_rfl)) (fun x r h => m_r04_minus x.1 x.2 r h)

noncomputable def G_r04_over := mkG (asC (aSl (eI .i64)) (as1 (aSl (eI .i64)))) (fun x : (List Int) × (List Int) => r04_over x.1 x.2) (fun r : (List Int) × (List Int) => .clean (.tup [.sl false false r.1.length (encL (eI .i64) r.1), .sl false false r.2.length (encL (eI .i64) r.2)]))

theorem q_r04_over (p0 : (List Int)) (p1 : (List Int)) : G_r04_over none [.sl false false p0.length (encL (eI .i64) p0), .sl false false p1.length (encL (eI .i64) p1)] = (r04_over p0 p1).map fun r : (List Int) × (List Int) => (.clean (.tup [.sl false false r.1.length (encL (eI .i64) r.1), .sl false false r.2.length (encL (eI .i64) r.2)]), none) := mkG_eq _ _ _ (p0, p1)

noncomputable def g_r04_over : Env := (Am.keep 7 (Am.ext (Am.ext (Am.ext (Am.ext noEnv 112 false G_r04_less) 125 false G_r04_trim) 126 false G_r04_times) 127 false G_r04_minus))

theorem ge_r04_over : GOk Try.prog g_r04_over := (GOk.keep ((((GOk.none.add ok_r04_less false).add ok_r04_trim false).add ok_r04_times false).add ok_r04_minus false) 7)

theorem gg_r04_over : g_r04_over = (Am.keep 7 (Am.ext (Am.ext (Am.ext (Am.ext noEnv 112 false G_r04_less) 125 false G_r04_trim) 126 false G_r04_times) 127 false G_r04_minus)) := Eq.trans rfl rfl

theorem x_r04_over : type_of% (And.intro @w <| And.intro @q_r04_less <| And.intro @q_r04_trim <| And.intro @q_r04_times <| And.intro @q_r04_minus <| @gg_r04_over) := And.intro @w <| And.intro @q_r04_less <| And.intro @q_r04_trim <| And.intro @q_r04_times <| And.intro @q_r04_minus <| @gg_r04_over

theorem m_r04_over (p0 : (List Int)) (p1 : (List Int)) (r : (List Int) × (List Int)) (hh : r04_over p0 p1 = some r) : vfunc .clean tab g_r04_over FU Try.f109 none [.sl false false p0.length (encL (eI .i64) p0), .sl false false p1.length (encL (eI .i64) p1)] = some (.clean (.tup [.sl false false r.1.length (encL (eI .i64) r.1), .sl false false r.2.length (encL (eI .i64) r.2)]), none) := by
  refine vfunc_of rfl Try.ntmps109 Try.results109 ?_
  unfold r04_over at hh
  obtain ⟨x1, hx1, hh⟩ := bindS hh
  obtain ⟨q2a, q2b, q2c, q2d, q2e⟩ := mk_one (eI .i64) hx1
  simp only [vmz] at q2d
  try simp only [x_r04_over, seval, -Int.reduceToNat, q2a, q2b, q2c, q2d, q2e]
  obtain ⟨o29, ho29, hh⟩ := bindS hh
  refine runLoop_sim (fun s t H e => match s with | (s7a, s8a, l6a) => ∃ v6a : Nat, t 0 = .sl false false p0.length (encL (eI .i64) p0) ∧ t 1 = .sl false false p1.length (encL (eI .i64) p1) ∧ t 6 = .buf 6 v6a 1 0 (l6a).length ∧ t 7 = .sl false false s7a.length (encL (eI .i64) s7a) ∧ t 8 = .int .i64 s8a ∧ H 6 = some ⟨v6a, 3, encL (eI .i64) l6a, false, true⟩) (fun o x t H e => match o with | (s7ax, l6ax) => x = .exit 0 ∧ ∃ v6ax : Nat, t 6 = .buf 6 v6ax 1 0 (l6ax).length ∧ t 7 = .sl false false s7ax.length (encL (eI .i64) s7ax) ∧ H 6 = some ⟨v6ax, 3, encL (eI .i64) l6ax, false, true⟩) ho29 ?_ ?_ ?_
  ·
    refine ⟨1, ?_, ?_, ?_, ?_, ?_, ?_⟩
    all_goals (first | rfl | (simp only [x_r04_over, seval, -Int.reduceToNat, q2a, q2b, q2c, q2d, q2e] <;> rfl))
  · rintro ⟨s7a, s8a, l6a⟩ t H e ⟨v6a, t0a, t1a, t6a, t7a, t8a, H6a⟩ c hh
    simp only [r04_over_L1] at hh
    try simp only [x_r04_over, seval, -Int.reduceToNat, q2a, q2b, q2c, q2d, q2e, t0a, t1a, t6a, t7a, t8a, H6a]
    refine tstC_br (fun hb30 => ?_) (fun hb30 => ?_)
    · replace hh := ite_t hb30 hh
      obtain ⟨x31, hx31, hh⟩ := bindS hh
      have bx31 := idx_bd hx31
      have ax31 := idx_enc (eI .i64) hx31
      have fx31 := idx_fit (eI .i64) hx31
      simp only [vmz] at ax31 fx31
      skip
      obtain ⟨x32, hx32, hh⟩ := bindS hh
      obtain ⟨q33a, q33b, q33c, q33d⟩ := app_two (eI .i64) hx32
      simp only [encL_cons, vmz, List.length_cons, Nat.zero_add, Nat.reduceAdd] at q33a q33b
      obtain ⟨r34, hr34, hh⟩ := bindS hh
      try simp only [x_r04_over, seval, -Int.reduceToNat, q2a, q2b, q2c, q2d, q2e, t0a, t1a, t6a, t7a, t8a, H6a, bx31, ax31, fx31, q33a, q33b, q33c, q33d, hr34]
      obtain ⟨o42, ho42, hh⟩ := bindS hh
      refine runLoop_sim (fun s t H e => match s with | (s9c, s10c) => ∃ v6c : Nat, t 0 = .sl false false p0.length (encL (eI .i64) p0) ∧ t 1 = .sl false false p1.length (encL (eI .i64) p1) ∧ t 6 = .buf 6 v6c 1 0 (l6a).length ∧ t 7 = .sl false false r34.length (encL (eI .i64) r34) ∧ t 8 = .int .i64 s8a ∧ t 9 = .int .i64 s9c ∧ t 10 = .int .i64 s10c ∧ H 6 = some ⟨v6c, 3, encL (eI .i64) l6a, false, true⟩) (fun o x t H e => match o with | s9cx => x = .exit 2 ∧ ∃ v6cx : Nat, t 0 = .sl false false p0.length (encL (eI .i64) p0) ∧ t 1 = .sl false false p1.length (encL (eI .i64) p1) ∧ t 6 = .buf 6 v6cx 1 0 (l6a).length ∧ t 7 = .sl false false r34.length (encL (eI .i64) r34) ∧ t 8 = .int .i64 s8a ∧ t 9 = .int .i64 s9cx ∧ H 6 = some ⟨v6cx, 3, encL (eI .i64) l6a, false, true⟩) ho42 ?_ ?_ ?_
      ·
        refine ⟨v6a, ?_, ?_, ?_, ?_, ?_, ?_, ?_, ?_⟩
        all_goals (first | rfl | (simp only [x_r04_over, seval, -Int.reduceToNat, q2a, q2b, q2c, q2d, q2e, t0a, t1a, t6a, t7a, t8a, H6a, bx31, ax31, fx31, q33a, q33b, q33c, q33d, hr34] <;> rfl))
      · rintro ⟨s9c, s10c⟩ t H e ⟨v6c, t0c, t1c, t6c, t7c, t8c, t9c, t10c, H6c⟩ c hh
        simp only [r04_over_L3] at hh
        try simp only [x_r04_over, seval, -Int.reduceToNat, q2a, q2b, q2c, q2d, q2e, bx31, ax31, fx31, q33a, q33b, q33c, q33d, hr34, t0c, t1c, t6c, t7c, t8c, t9c, t10c, H6c]
        refine tstC_br (fun hb43 => ?_) (fun hb43 => ?_)
        · replace hh := ite_t hb43 hh
          obtain ⟨x44, hx44, hh⟩ := bindS hh
          obtain ⟨q45a, q45b⟩ := divI_ok hx44
          have i46 := q_r04_times p1 ([x44])
          simp only [encL_cons, vmz, List.length_cons, List.length_nil, Nat.zero_add, Nat.reduceAdd, List.length_set] at i46
          obtain ⟨r47, hr47, hh⟩ := bindS hh
          obtain ⟨r48, hr48, hh⟩ := bindS hh
          try simp only [x_r04_over, seval, -Int.reduceToNat, q2a, q2b, q2c, q2d, q2e, bx31, ax31, fx31, q33a, q33b, q33c, q33d, hr34, t0c, t1c, t6c, t7c, t8c, t9c, t10c, H6c, q45a, q45b, i46, hr47, hr48]
          refine tstC_br (fun hb49 => ?_) (fun hb49 => ?_)
          · replace hh := ite_t hb49 hh
            cases hh
            try simp only [x_r04_over, seval, -Int.reduceToNat, q2a, q2b, q2c, q2d, q2e, bx31, ax31, fx31, q33a, q33b, q33c, q33d, hr34, t0c, t1c, t6c, t7c, t8c, t9c, t10c, H6c, q45a, q45b, i46, hr47, hr48]
            rw [LK_normal]
            refine ⟨_, rfl, ?_⟩
            refine ⟨v6c, ?_, ?_, ?_, ?_, ?_, ?_, ?_, ?_⟩
            all_goals (first | rfl | (simp only [x_r04_over, seval, -Int.reduceToNat, q2a, q2b, q2c, q2d, q2e, bx31, ax31, fx31, q33a, q33b, q33c, q33d, hr34, t0c, t1c, t6c, t7c, t8c, t9c, t10c, H6c, q45a, q45b, i46, hr47, hr48] <;> rfl))
          · replace hh := ite_f hb49 hh
            cases hh
            try simp only [x_r04_over, seval, -Int.reduceToNat, q2a, q2b, q2c, q2d, q2e, bx31, ax31, fx31, q33a, q33b, q33c, q33d, hr34, t0c, t1c, t6c, t7c, t8c, t9c, t10c, H6c, q45a, q45b, i46, hr47, hr48]
            rw [LK_normal]
            refine ⟨_, rfl, ?_⟩
            refine ⟨v6c, ?_, ?_, ?_, ?_, ?_, ?_, ?_, ?_⟩
            all_goals (first | rfl | (simp only [x_r04_over, seval, -Int.reduceToNat, q2a, q2b, q2c, q2d, q2e, bx31, ax31, fx31, q33a, q33b, q33c, q33d, hr34, t0c, t1c, t6c, t7c, t8c, t9c, t10c, H6c, q45a, q45b, i46, hr47, hr48] <;> rfl))
        · replace hh := ite_f hb43 hh
          cases hh
          try simp only [x_r04_over, seval, -Int.reduceToNat, q2a, q2b, q2c, q2d, q2e, bx31, ax31, fx31, q33a, q33b, q33c, q33d, hr34, t0c, t1c, t6c, t7c, t8c, t9c, t10c, H6c]
          rw [LK_exit]
          refine ⟨_, rfl, ?_⟩
          refine ⟨rfl, ⟨v6c, ?_, ?_, ?_, ?_, ?_, ?_, ?_⟩⟩
          all_goals (first | rfl | (simp only [x_r04_over, seval, -Int.reduceToNat, q2a, q2b, q2c, q2d, q2e, bx31, ax31, fx31, q33a, q33b, q33c, q33d, hr34, t0c, t1c, t6c, t7c, t8c, t9c, t10c, H6c] <;> rfl))
      · rintro x t H e hx
        obtain ⟨s9cx, rfl⟩ : ∃ z, z = o42 := ⟨_, rfl⟩
        dsimp only at hx hh
        obtain ⟨rfl, ⟨v6cx, t0cx, t1cx, t6cx, t7cx, t8cx, t9cx, H6cx⟩⟩ := hx
        obtain ⟨x50, hx50, hh⟩ := bindS hh
        have bx50 := idx_bd hx50
        have ax50 := idx_enc (eI .i64) hx50
        have fx50 := idx_fit (eI .i64) hx50
        simp only [vmz] at ax50 fx50
        skip
        have p51 := put_enc (eI .i64) (x' := s9cx) (fo := 0) (cs := [.int .i64 s9cx]) hx50 rfl (Nat.le_of_ble_eq_true rfl)
        simp only [vmz, Nat.add_zero] at p51
        have up51 := p51
        simp only [putCells, List.length_cons, List.length_nil, Nat.zero_add, Nat.reduceAdd] at up51
        have i52 := q_r04_trim ([s9cx])
        simp only [encL_cons, vmz, List.length_cons, List.length_nil, Nat.zero_add, Nat.reduceAdd, List.length_set] at i52
        obtain ⟨r53, hr53, hh⟩ := bindS hh
        obtain ⟨r54, hr54, hh⟩ := bindS hh
        obtain ⟨r55, hr55, hh⟩ := bindS hh
        cases hh
        try simp only [x_r04_over, seval, -Int.reduceToNat, q2a, q2b, q2c, q2d, q2e, bx31, ax31, fx31, q33a, q33b, q33c, q33d, hr34, t0cx, t1cx, t6cx, t7cx, t8cx, t9cx, H6cx, bx50, ax50, fx50, p51, up51, i52, hr53, hr54, hr55]
        rw [LK_normal]
        refine ⟨_, rfl, ?_⟩
        refine ⟨v6cx, ?_, ?_, ?_, ?_, ?_, ?_⟩
        all_goals (first | rfl | (simp only [x_r04_over, seval, -Int.reduceToNat, q2a, q2b, q2c, q2d, q2e, bx31, ax31, fx31, q33a, q33b, q33c, q33d, hr34, t0cx, t1cx, t6cx, t7cx, t8cx, t9cx, H6cx, bx50, ax50, fx50, p51, up51, i52, hr53, hr54, hr55] <;> rfl))
    · replace hh := ite_f hb30 hh
      cases hh
      try simp only [x_r04_over, seval, -Int.reduceToNat, q2a, q2b, q2c, q2d, q2e, t0a, t1a, t6a, t7a, t8a, H6a]
      rw [LK_exit]
      refine ⟨_, rfl, ?_⟩
      refine ⟨rfl, ⟨v6a, ?_, ?_, ?_⟩⟩
      all_goals (first | rfl | (simp only [x_r04_over, seval, -Int.reduceToNat, q2a, q2b, q2c, q2d, q2e, t0a, t1a, t6a, t7a, t8a, H6a] <;> rfl))
  · rintro x t H e hx
    rcases o29 with ⟨s7ax, l6ax⟩
    dsimp only at hx hh
    obtain ⟨rfl, ⟨v6ax, t6ax, t7ax, H6ax⟩⟩ := hx
    obtain ⟨r56, hr56, hh⟩ := bindS hh
    cases hh
    try simp only [x_r04_over, seval, -Int.reduceToNat, q2a, q2b, q2c, q2d, q2e, t6ax, t7ax, H6ax, hr56]

theorem ok_r04_over : COk Try.prog 109 G_r04_over := COk.of (mode := .clean) tok ge_r04_over mixed Try.func109 (by kernel_rfl) ⟨by kernel_rfl, by kernel_rfl⟩ (fun _ => Nat.le_of_ble_eq_true (by kernel_rfl)) (fun x r h => m_r04_over x.1 x.2 r h)

noncomputable def G_r04_Gcd := mkG (asC (aAgg eTBig) (as1 (aAgg eTBig))) (fun x : TBig × TBig => r04_Gcd x.1 x.2) (fun r : TBig × Int => .clean (.tup [.agg [.int .i64 r.1.f_Sign, .sl false false r.1.f_Digits.length (encL (eI .i64) r.1.f_Digits)], .int .i64 r.2]))

theorem q_r04_Gcd (p0_0 : Int) (p0_1 : (List Int)) (p1_0 : Int) (p1_1 : (List Int)) : G_r04_Gcd none [.agg [.int .i64 p0_0, .sl false false p0_1.length (encL (eI .i64) p0_1)], .agg [.int .i64 p1_0, .sl false false p1_1.length (encL (eI .i64) p1_1)]] = (r04_Gcd (TBig.mk p0_0 p0_1) (TBig.mk p1_0 p1_1)).map fun r : TBig × Int => (.clean (.tup [.agg [.int .i64 r.1.f_Sign, .sl false false r.1.f_Digits.length (encL (eI .i64) r.1.f_Digits)], .int .i64 r.2]), none) := mkG_eq _ _ _ ((TBig.mk p0_0 p0_1), (TBig.mk p1_0 p1_1))

noncomputable def g_r04_Gcd : Env := (Am.ext (Am.ext (Am.ext noEnv 81 false G_r04_Right) 109 false G_r04_over) 110 false G_r04_made)

theorem ge_r04_Gcd : GOk Try.prog g_r04_Gcd := (((GOk.none.add ok_r04_Right false).add ok_r04_over false).add ok_r04_made false)

theorem gg_r04_Gcd : g_r04_Gcd = (Am.ext (Am.ext (Am.ext noEnv 81 false G_r04_Right) 109 false G_r04_over) 110 false G_r04_made) := Eq.trans rfl rfl

theorem x_r04_Gcd : type_of% (And.intro @w <| And.intro @q_r04_Right <| And.intro @q_r04_over <| And.intro @q_r04_made <| @gg_r04_Gcd) := And.intro @w <| And.intro @q_r04_Right <| And.intro @q_r04_over <| And.intro @q_r04_made <| @gg_r04_Gcd

theorem m_r04_Gcd (p0 : TBig) (p1 : TBig) (r : TBig × Int) (hh : r04_Gcd p0 p1 = some r) : vfunc .clean tab g_r04_Gcd FU Try.f82 none [.agg [.int .i64 p0.f_Sign, .sl false false p0.f_Digits.length (encL (eI .i64) p0.f_Digits)], .agg [.int .i64 p1.f_Sign, .sl false false p1.f_Digits.length (encL (eI .i64) p1.f_Digits)]] = some (.clean (.tup [.agg [.int .i64 r.1.f_Sign, .sl false false r.1.f_Digits.length (encL (eI .i64) r.1.f_Digits)], .int .i64 r.2]), none) := by
  refine vfunc_of rfl Try.ntmps82 Try.results82 ?_
  unfold r04_Gcd at hh
  obtain ⟨r1, hr1, hh⟩ := bindS hh
  try simp only [x_r04_Gcd, seval, -Int.reduceToNat, hr1]
  obtain ⟨o2, ho2, hh⟩ := bindS hh
  refine tstO_cut 0 (fun s t H e => match s with | s17j1 => ∃ v2j1 : Nat, ∃ v3j1 : Nat, ∃ v4j1 : Nat, t 2 = .ptr 2 v2j1 0 ∧ t 3 = .ptr 3 v3j1 0 ∧ t 4 = .ptr 4 v4j1 0 ∧ t 17 = .bool s17j1 ∧ H 2 = some ⟨v2j1, 32, [.int .i64 p0.f_Sign, .sl false false p0.f_Digits.length (encL (eI .i64) p0.f_Digits)], false, false⟩ ∧ H 3 = some ⟨v3j1, 32, [.int .i64 p1.f_Sign, .sl false false p1.f_Digits.length (encL (eI .i64) p1.f_Digits)], false, false⟩ ∧ H 4 = some ⟨v4j1, 32, [.int .i64 0, .sl true true 0 []], false, false⟩) (fun s => s = o2) ?_ ?_
  · rintro s17j1 t H e ⟨v2j1, v3j1, v4j1, t2j1, t3j1, t4j1, t17j1, H2j1, H3j1, H4j1⟩ rfl
    try dsimp only at hh
    try simp only [x_r04_Gcd, seval, -Int.reduceToNat, hr1, t2j1, t3j1, t4j1, t17j1, H2j1, H3j1, H4j1]
    refine tstC_br (fun hb3 => ?_) (fun hb3 => ?_)
    · replace hh := ite_t hb3 hh
      cases hh
      try simp only [x_r04_Gcd, seval, -Int.reduceToNat, hr1, t2j1, t3j1, t4j1, t17j1, H2j1, H3j1, H4j1]
    · replace hh := ite_f hb3 hh
      try simp only [x_r04_Gcd, seval, -Int.reduceToNat, hr1, t2j1, t3j1, t4j1, t17j1, H2j1, H3j1, H4j1]
      obtain ⟨o6, ho6, hh⟩ := bindS hh
      refine runLoop_sim (fun s t H e => match s with | (s6b, s7b) => ∃ v4b : Nat, t 4 = .ptr 4 v4b 0 ∧ t 6 = .sl false false s6b.length (encL (eI .i64) s6b) ∧ t 7 = .sl false false s7b.length (encL (eI .i64) s7b) ∧ H 4 = some ⟨v4b, 32, [.int .i64 0, .sl true true 0 []], false, false⟩) (fun o x t H e => match o with | s6bx => x = .exit 0 ∧ ∃ v4bx : Nat, t 4 = .ptr 4 v4bx 0 ∧ t 6 = .sl false false s6bx.length (encL (eI .i64) s6bx) ∧ H 4 = some ⟨v4bx, 32, [.int .i64 0, .sl true true 0 []], false, false⟩) ho6 ?_ ?_ ?_
      ·
        refine ⟨v4j1, ?_, ?_, ?_, ?_⟩
        all_goals (first | rfl | (simp only [x_r04_Gcd, seval, -Int.reduceToNat, hr1, t2j1, t3j1, t4j1, t17j1, H2j1, H3j1, H4j1] <;> rfl))
      · rintro ⟨s6b, s7b⟩ t H e ⟨v4b, t4b, t6b, t7b, H4b⟩ c hh
        simp only [r04_Gcd_L2] at hh
        try simp only [x_r04_Gcd, seval, -Int.reduceToNat, hr1, t4b, t6b, t7b, H4b]
        refine tstC_br (fun hb7 => ?_) (fun hb7 => ?_)
        · replace hh := ite_t hb7 hh
          obtain ⟨r8, hr8, hh⟩ := bindS hh
          cases hh
          try simp only [x_r04_Gcd, seval, -Int.reduceToNat, hr1, t4b, t6b, t7b, H4b, hr8]
          rw [LK_normal]
          refine ⟨_, rfl, ?_⟩
          refine ⟨v4b, ?_, ?_, ?_, ?_⟩
          all_goals (first | rfl | (simp only [x_r04_Gcd, seval, -Int.reduceToNat, hr1, t4b, t6b, t7b, H4b, hr8] <;> rfl))
        · replace hh := ite_f hb7 hh
          cases hh
          try simp only [x_r04_Gcd, seval, -Int.reduceToNat, hr1, t4b, t6b, t7b, H4b]
          rw [LK_exit]
          refine ⟨_, rfl, ?_⟩
          refine ⟨rfl, ⟨v4b, ?_, ?_, ?_⟩⟩
          all_goals (first | rfl | (simp only [x_r04_Gcd, seval, -Int.reduceToNat, hr1, t4b, t6b, t7b, H4b] <;> rfl))
      · rintro x t H e hx
        obtain ⟨s6bx, rfl⟩ : ∃ z, z = o6 := ⟨_, rfl⟩
        dsimp only at hx hh
        obtain ⟨rfl, ⟨v4bx, t4bx, t6bx, H4bx⟩⟩ := hx
        obtain ⟨r9, hr9, hh⟩ := bindS hh
        cases hh
        try simp only [x_r04_Gcd, seval, -Int.reduceToNat, hr1, t4bx, t6bx, H4bx, hr9]
  ·
    clear hh
    have hh := ho2
    try simp only [x_r04_Gcd, seval, -Int.reduceToNat, hr1]
    refine tstO_br' (fun hb10 => ?_) (fun hb10 => ?_)
    · replace hh := ite_t hb10 hh
      cases hh
      try simp only [x_r04_Gcd, seval, -Int.reduceToNat, hr1]
      rw [CK_normal]
      refine ⟨_, rfl, ?_⟩
      refine ⟨0, 0, 0, ?_, ?_, ?_, ?_, ?_, ?_, ?_⟩
      all_goals (first | rfl | (simp only [x_r04_Gcd, seval, -Int.reduceToNat, hr1] <;> rfl))
    · replace hh := ite_f hb10 hh
      obtain ⟨r11, hr11, hh⟩ := bindS hh
      cases hh
      try simp only [x_r04_Gcd, seval, -Int.reduceToNat, hr1, hr11]
      rw [CK_normal]
      refine ⟨_, rfl, ?_⟩
      refine ⟨0, 0, 0, ?_, ?_, ?_, ?_, ?_, ?_, ?_⟩
      all_goals (first | rfl | (simp only [x_r04_Gcd, seval, -Int.reduceToNat, hr1, hr11] <;> rfl))

theorem ok_r04_Gcd : COk Try.prog 82 G_r04_Gcd := COk.of (mode := .clean) tok ge_r04_Gcd mixed Try.func82 (by kernel_rfl) ⟨by kernel_rfl, by kernel_rfl⟩ (fun _ => Nat.le_of_ble_eq_true (by kernel_rfl)) (fun x r h => m_r04_Gcd x.1 x.2 r h)

noncomputable def G_r04_plus := mkG (asC (aSl (eI .i64)) (as1 (aSl (eI .i64)))) (fun x : (List Int) × (List Int) => r04_plus x.1 x.2) (fun r : (List Int) => .clean (.sl false false r.length (encL (eI .i64) r)))

theorem q_r04_plus (p0 : (List Int)) (p1 : (List Int)) : G_r04_plus none [.sl false false p0.length (encL (eI .i64) p0), .sl false false p1.length (encL (eI .i64) p1)] = (r04_plus p0 p1).map fun r : (List Int) => (.clean (.sl false false r.length (encL (eI .i64) r)), none) := mkG_eq _ _ _ (p0, p1)

noncomputable def g_r04_plus : Env := (Am.ext (Am.ext noEnv 125 false G_r04_trim) 128 false G_r04_digit)

theorem ge_r04_plus : GOk Try.prog g_r04_plus := ((GOk.none.add ok_r04_trim false).add ok_r04_digit false)

theorem gg_r04_plus : g_r04_plus = (Am.ext (Am.ext noEnv 125 false G_r04_trim) 128 false G_r04_digit) := Eq.trans rfl rfl

theorem x_r04_plus : type_of% (And.intro @w <| And.intro @q_r04_trim <| And.intro @q_r04_digit <| @gg_r04_plus) := And.intro @w <| And.intro @q_r04_trim <| And.intro @q_r04_digit <| @gg_r04_plus

theorem m_r04_plus (p0 : (List Int)) (p1 : (List Int)) (r : (List Int)) (hh : r04_plus p0 p1 = some r) : vfunc .clean tab g_r04_plus FU Try.f129 none [.sl false false p0.length (encL (eI .i64) p0), .sl false false p1.length (encL (eI .i64) p1)] = some (.clean (.sl false false r.length (encL (eI .i64) r)), none) := by
  refine vfunc_of rfl Try.ntmps129 Try.results129 ?_
  unfold r04_plus at hh
  try simp only [x_r04_plus, seval, -Int.reduceToNat]
  obtain ⟨o13, ho13, hh⟩ := bindS hh
  refine runLoop_sim (fun s t H e => match s with | (s6a, s7a, l5a) => ∃ v5a : Nat, t 0 = .sl false false p0.length (encL (eI .i64) p0) ∧ t 1 = .sl false false p1.length (encL (eI .i64) p1) ∧ t 5 = .buf 5 v5a 1 0 (l5a).length ∧ t 6 = .int .i64 s6a ∧ t 7 = .int .i64 s7a ∧ H 5 = some ⟨v5a, 3, encL (eI .i64) l5a, false, true⟩) (fun o x t H e => match o with | l5ax => x = .exit 0 ∧ ∃ v5ax : Nat, t 5 = .buf 5 v5ax 1 0 (l5ax).length ∧ H 5 = some ⟨v5ax, 3, encL (eI .i64) l5ax, false, true⟩) ho13 ?_ ?_ ?_
  ·
    refine ⟨1, ?_, ?_, ?_, ?_, ?_, ?_⟩
    all_goals (first | rfl | (simp only [x_r04_plus, seval, -Int.reduceToNat] <;> rfl))
  · rintro ⟨s6a, s7a, l5a⟩ t H e ⟨v5a, t0a, t1a, t5a, t6a, t7a, H5a⟩ c hh
    simp only [r04_plus_L1] at hh
    try simp only [x_r04_plus, seval, -Int.reduceToNat, t0a, t1a, t5a, t6a, t7a, H5a]
    obtain ⟨o14, ho14, hh⟩ := bindS hh
    refine tstO_cut 0 (fun s t H e => match s with | s22j3 => ∃ v5j3 : Nat, t 0 = .sl false false p0.length (encL (eI .i64) p0) ∧ t 1 = .sl false false p1.length (encL (eI .i64) p1) ∧ t 5 = .buf 5 v5j3 1 0 (l5a).length ∧ t 6 = .int .i64 s6a ∧ t 7 = .int .i64 s7a ∧ t 22 = .bool s22j3 ∧ H 5 = some ⟨v5j3, 3, encL (eI .i64) l5a, false, true⟩) (fun s => s = o14) ?_ ?_
    · rintro s22j3 t H e ⟨v5j3, t0j3, t1j3, t5j3, t6j3, t7j3, t22j3, H5j3⟩ rfl
      try dsimp only at hh
      try simp only [x_r04_plus, seval, -Int.reduceToNat, t0j3, t1j3, t5j3, t6j3, t7j3, t22j3, H5j3]
      refine tstC_br (fun hb15 => ?_) (fun hb15 => ?_)
      · replace hh := ite_t hb15 hh
        obtain ⟨r16, hr16, hh⟩ := bindS hh
        obtain ⟨r17, hr17, hh⟩ := bindS hh
        obtain ⟨x18, hx18, hh⟩ := bindS hh
        obtain ⟨q19a, q19b⟩ := modI_ok hx18
        obtain ⟨x20, hx20, hh⟩ := bindS hh
        obtain ⟨q21a, q21b, q21c, q21d⟩ := app_one (eI .i64) hx20
        simp only [vmz] at q21b
        obtain ⟨x22, hx22, hh⟩ := bindS hh
        obtain ⟨q23a, q23b⟩ := divI_ok hx22
        cases hh
        try simp only [x_r04_plus, seval, -Int.reduceToNat, t0j3, t1j3, t5j3, t6j3, t7j3, t22j3, H5j3, hr16, hr17, q19a, q19b, q21a, q21b, q21c, q21d, q23a, q23b]
        rw [LK_normal]
        refine ⟨_, rfl, ?_⟩
        refine ⟨e + 1, ?_, ?_, ?_, ?_, ?_, ?_⟩
        all_goals (first | rfl | (simp only [x_r04_plus, seval, -Int.reduceToNat, t0j3, t1j3, t5j3, t6j3, t7j3, t22j3, H5j3, hr16, hr17, q19a, q19b, q21a, q21b, q21c, q21d, q23a, q23b] <;> rfl))
      · replace hh := ite_f hb15 hh
        cases hh
        try simp only [x_r04_plus, seval, -Int.reduceToNat, t0j3, t1j3, t5j3, t6j3, t7j3, t22j3, H5j3]
        rw [LK_exit]
        refine ⟨_, rfl, ?_⟩
        refine ⟨rfl, ⟨v5j3, ?_, ?_⟩⟩
        all_goals (first | rfl | (simp only [x_r04_plus, seval, -Int.reduceToNat, t0j3, t1j3, t5j3, t6j3, t7j3, t22j3, H5j3] <;> rfl))
    ·
      clear hh
      have hh := ho14
      try simp only [x_r04_plus, seval, -Int.reduceToNat, t0a, t1a, t5a, t6a, t7a, H5a]
      refine tstO_br' (fun hb24 => ?_) (fun hb24 => ?_)
      · replace hh := ite_t hb24 hh
        cases hh
        try simp only [x_r04_plus, seval, -Int.reduceToNat, t0a, t1a, t5a, t6a, t7a, H5a]
        rw [CK_normal]
        refine ⟨_, rfl, ?_⟩
        refine ⟨v5a, ?_, ?_, ?_, ?_, ?_, ?_, ?_⟩
        all_goals (first | rfl | (simp only [x_r04_plus, seval, -Int.reduceToNat, t0a, t1a, t5a, t6a, t7a, H5a] <;> rfl))
      · replace hh := ite_f hb24 hh
        try simp only [x_r04_plus, seval, -Int.reduceToNat, t0a, t1a, t5a, t6a, t7a, H5a]
        refine tstO_br' (fun hb25 => ?_) (fun hb25 => ?_)
        · replace hh := ite_t hb25 hh
          cases hh
          try simp only [x_r04_plus, seval, -Int.reduceToNat, t0a, t1a, t5a, t6a, t7a, H5a]
          rw [CK_normal]
          refine ⟨_, rfl, ?_⟩
          refine ⟨v5a, ?_, ?_, ?_, ?_, ?_, ?_, ?_⟩
          all_goals (first | rfl | (simp only [x_r04_plus, seval, -Int.reduceToNat, t0a, t1a, t5a, t6a, t7a, H5a] <;> rfl))
        · replace hh := ite_f hb25 hh
          cases hh
          try simp only [x_r04_plus, seval, -Int.reduceToNat, t0a, t1a, t5a, t6a, t7a, H5a]
          rw [CK_normal]
          refine ⟨_, rfl, ?_⟩
          refine ⟨v5a, ?_, ?_, ?_, ?_, ?_, ?_, ?_⟩
          all_goals (first | rfl | (simp only [x_r04_plus, seval, -Int.reduceToNat, t0a, t1a, t5a, t6a, t7a, H5a] <;> rfl))
  · rintro x t H e hx
    obtain ⟨l5ax, rfl⟩ : ∃ z, z = o13 := ⟨_, rfl⟩
    dsimp only at hx hh
    obtain ⟨rfl, ⟨v5ax, t5ax, H5ax⟩⟩ := hx
    obtain ⟨r26, hr26, hh⟩ := bindS hh
    cases hh
    try simp only [x_r04_plus, seval, -Int.reduceToNat, t5ax, H5ax, hr26]

theorem ok_r04_plus : COk Try.prog 129 G_r04_plus := COk.of (mode := .clean) tok ge_r04_plus mixed Try.func129 (by kernel_rfl) ⟨by kernel_rfl, by kernel_rfl⟩ (fun _ => Nat.le_of_ble_eq_true (by kernel_rfl)) (fun x r h => m_r04_plus x.1 x.2 r h)

noncomputable def G_r04_Div := mkG (asC (aAgg eTBig) (as1 (aAgg eTBig))) (fun x : TBig × TBig => r04_Div x.1 x.2) (fun r : TBig × TBig × Int => .clean (.tup [.agg [.int .i64 r.1.f_Sign, .sl false false r.1.f_Digits.length (encL (eI .i64) r.1.f_Digits)], .agg [.int .i64 r.2.1.f_Sign, .sl false false r.2.1.f_Digits.length (encL (eI .i64) r.2.1.f_Digits)], .int .i64 r.2.2]))

theorem q_r04_Div (p0_0 : Int) (p0_1 : (List Int)) (p1_0 : Int) (p1_1 : (List Int)) : G_r04_Div none [.agg [.int .i64 p0_0, .sl false false p0_1.length (encL (eI .i64) p0_1)], .agg [.int .i64 p1_0, .sl false false p1_1.length (encL (eI .i64) p1_1)]] = (r04_Div (TBig.mk p0_0 p0_1) (TBig.mk p1_0 p1_1)).map fun r : TBig × TBig × Int => (.clean (.tup [.agg [.int .i64 r.1.f_Sign, .sl false false r.1.f_Digits.length (encL (eI .i64) r.1.f_Digits)], .agg [.int .i64 r.2.1.f_Sign, .sl false false r.2.1.f_Digits.length (encL (eI .i64) r.2.1.f_Digits)], .int .i64 r.2.2]), none) := mkG_eq _ _ _ ((TBig.mk p0_0 p0_1), (TBig.mk p1_0 p1_1))

noncomputable def g_r04_Div : Env := (Am.ext (Am.ext (Am.ext (Am.ext (Am.ext noEnv 81 false G_r04_Right) 109 false G_r04_over) 110 false G_r04_made) 127 false G_r04_minus) 129 false G_r04_plus)

theorem ge_r04_Div : GOk Try.prog g_r04_Div := (((((GOk.none.add ok_r04_Right false).add ok_r04_over false).add ok_r04_made false).add ok_r04_minus false).add ok_r04_plus false)

theorem gg_r04_Div : g_r04_Div = (Am.ext (Am.ext (Am.ext (Am.ext (Am.ext noEnv 81 false G_r04_Right) 109 false G_r04_over) 110 false G_r04_made) 127 false G_r04_minus) 129 false G_r04_plus) := Eq.trans rfl rfl

theorem x_r04_Div : type_of% (And.intro @w <| And.intro @q_r04_Right <| And.intro @q_r04_over <| And.intro @q_r04_made <| And.intro @q_r04_minus <| And.intro @q_r04_plus <| @gg_r04_Div) := And.intro @w <| And.intro @q_r04_Right <| And.intro @q_r04_over <| And.intro @q_r04_made <| And.intro @q_r04_minus <| And.intro @q_r04_plus <| @gg_r04_Div

theorem m_r04_Div (p0 : TBig) (p1 : TBig) (r : TBig × TBig × Int) (hh : r04_Div p0 p1 = some r) : vfunc .clean tab g_r04_Div FU Try.f120 none [.agg [.int .i64 p0.f_Sign, .sl false false p0.f_Digits.length (encL (eI .i64) p0.f_Digits)], .agg [.int .i64 p1.f_Sign, .sl false false p1.f_Digits.length (encL (eI .i64) p1.f_Digits)]] = some (.clean (.tup [.agg [.int .i64 r.1.f_Sign, .sl false false r.1.f_Digits.length (encL (eI .i64) r.1.f_Digits)], .agg [.int .i64 r.2.1.f_Sign, .sl false false r.2.1.f_Digits.length (encL (eI .i64) r.2.1.f_Digits)], .int .i64 r.2.2]), none) := by
  refine vfunc_of rfl Try.ntmps120 Try.results120 ?_
  unfold r04_Div at hh
  obtain ⟨r1, hr1, hh⟩ := bindS hh
  try simp only [x_r04_Div, seval, -Int.reduceToNat, hr1]
  obtain ⟨o2, ho2, hh⟩ := bindS hh
  refine tstO_cut 0 (fun s t H e => match s with | s16j1 => ∃ v2j1 : Nat, ∃ v3j1 : Nat, ∃ v4j1 : Nat, ∃ v5j1 : Nat, t 2 = .ptr 2 v2j1 0 ∧ t 3 = .ptr 3 v3j1 0 ∧ t 4 = .ptr 4 v4j1 0 ∧ t 5 = .ptr 5 v5j1 0 ∧ t 16 = .bool s16j1 ∧ H 2 = some ⟨v2j1, 32, [.int .i64 p0.f_Sign, .sl false false p0.f_Digits.length (encL (eI .i64) p0.f_Digits)], false, false⟩ ∧ H 3 = some ⟨v3j1, 32, [.int .i64 p1.f_Sign, .sl false false p1.f_Digits.length (encL (eI .i64) p1.f_Digits)], false, false⟩ ∧ H 4 = some ⟨v4j1, 32, [.int .i64 0, .sl true true 0 []], false, false⟩ ∧ H 5 = some ⟨v5j1, 32, [.int .i64 0, .sl true true 0 []], false, false⟩) (fun s => s = o2) ?_ ?_
  · rintro s16j1 t H e ⟨v2j1, v3j1, v4j1, v5j1, t2j1, t3j1, t4j1, t5j1, t16j1, H2j1, H3j1, H4j1, H5j1⟩ rfl
    try dsimp only at hh
    try simp only [x_r04_Div, seval, -Int.reduceToNat, hr1, t2j1, t3j1, t4j1, t5j1, t16j1, H2j1, H3j1, H4j1, H5j1]
    refine tstC_br (fun hb3 => ?_) (fun hb3 => ?_)
    · replace hh := ite_t hb3 hh
      cases hh
      try simp only [x_r04_Div, seval, -Int.reduceToNat, hr1, t2j1, t3j1, t4j1, t5j1, t16j1, H2j1, H3j1, H4j1, H5j1]
    · replace hh := ite_f hb3 hh
      try simp only [x_r04_Div, seval, -Int.reduceToNat, hr1, t2j1, t3j1, t4j1, t5j1, t16j1, H2j1, H3j1, H4j1, H5j1]
      refine tstC_br (fun hb4 => ?_) (fun hb4 => ?_)
      · replace hh := ite_t hb4 hh
        cases hh
        try simp only [x_r04_Div, seval, -Int.reduceToNat, hr1, t2j1, t3j1, t4j1, t5j1, t16j1, H2j1, H3j1, H4j1, H5j1]
      · replace hh := ite_f hb4 hh
        obtain ⟨r5, hr5, hh⟩ := bindS hh
        try simp only [x_r04_Div, seval, -Int.reduceToNat, hr1, t2j1, t3j1, t4j1, t5j1, t16j1, H2j1, H3j1, H4j1, H5j1, hr5]
        obtain ⟨o6, ho6, hh⟩ := bindS hh
        refine tstO_cut 0 (fun s t H e => match s with | s42j2 => ∃ v2j2 : Nat, ∃ v3j2 : Nat, ∃ v4j2 : Nat, ∃ v5j2 : Nat, t 2 = .ptr 2 v2j2 0 ∧ t 3 = .ptr 3 v3j2 0 ∧ t 4 = .ptr 4 v4j2 0 ∧ t 5 = .ptr 5 v5j2 0 ∧ t 7 = .sl false false r5.1.length (encL (eI .i64) r5.1) ∧ t 8 = .sl false false r5.2.length (encL (eI .i64) r5.2) ∧ t 42 = .bool s42j2 ∧ H 2 = some ⟨v2j2, 32, [.int .i64 p0.f_Sign, .sl false false p0.f_Digits.length (encL (eI .i64) p0.f_Digits)], false, false⟩ ∧ H 3 = some ⟨v3j2, 32, [.int .i64 p1.f_Sign, .sl false false p1.f_Digits.length (encL (eI .i64) p1.f_Digits)], false, false⟩ ∧ H 4 = some ⟨v4j2, 32, [.int .i64 0, .sl true true 0 []], false, false⟩ ∧ H 5 = some ⟨v5j2, 32, [.int .i64 0, .sl true true 0 []], false, false⟩) (fun s => s = o6) ?_ ?_
        · rintro s42j2 t H e ⟨v2j2, v3j2, v4j2, v5j2, t2j2, t3j2, t4j2, t5j2, t7j2, t8j2, t42j2, H2j2, H3j2, H4j2, H5j2⟩ rfl
          try dsimp only at hh
          try simp only [x_r04_Div, seval, -Int.reduceToNat, hr1, hr5, t2j2, t3j2, t4j2, t5j2, t7j2, t8j2, t42j2, H2j2, H3j2, H4j2, H5j2]
          refine tstC_br (fun hb7 => ?_) (fun hb7 => ?_)
          · replace hh := ite_t hb7 hh
            obtain ⟨r8, hr8, hh⟩ := bindS hh
            obtain ⟨r9, hr9, hh⟩ := bindS hh
            try simp only [x_r04_Div, seval, -Int.reduceToNat, hr1, hr5, t2j2, t3j2, t4j2, t5j2, t7j2, t8j2, t42j2, H2j2, H3j2, H4j2, H5j2, hr8, hr9]
            refine dyn_ok (by kernel_rfl) ?_
            cases hh
            try simp only [x_r04_Div, seval, -Int.reduceToNat, hr1, hr5, t2j2, t3j2, t4j2, t5j2, t7j2, t8j2, t42j2, H2j2, H3j2, H4j2, H5j2, hr8, hr9]
          · replace hh := ite_f hb7 hh
            have i10 := q_r04_plus r5.1 ([1])
            simp only [encL_cons, vmz, List.length_cons, List.length_nil, Nat.zero_add, Nat.reduceAdd, List.length_set] at i10
            obtain ⟨r11, hr11, hh⟩ := bindS hh
            obtain ⟨r12, hr12, hh⟩ := bindS hh
            obtain ⟨r13, hr13, hh⟩ := bindS hh
            obtain ⟨r14, hr14, hh⟩ := bindS hh
            try simp only [x_r04_Div, seval, -Int.reduceToNat, hr1, hr5, t2j2, t3j2, t4j2, t5j2, t7j2, t8j2, t42j2, H2j2, H3j2, H4j2, H5j2, i10, hr11, hr12, hr13, hr14]
            refine dyn_ok (by kernel_rfl) ?_
            cases hh
            try simp only [x_r04_Div, seval, -Int.reduceToNat, hr1, hr5, t2j2, t3j2, t4j2, t5j2, t7j2, t8j2, t42j2, H2j2, H3j2, H4j2, H5j2, i10, hr11, hr12, hr13, hr14]
        ·
          clear hh
          have hh := ho6
          try simp only [x_r04_Div, seval, -Int.reduceToNat, hr1, t2j1, t3j1, t4j1, t5j1, t16j1, H2j1, H3j1, H4j1, H5j1, hr5]
          refine tstO_br' (fun hb15 => ?_) (fun hb15 => ?_)
          · replace hh := ite_t hb15 hh
            cases hh
            try simp only [x_r04_Div, seval, -Int.reduceToNat, hr1, t2j1, t3j1, t4j1, t5j1, t16j1, H2j1, H3j1, H4j1, H5j1, hr5]
            rw [CK_normal]
            refine ⟨_, rfl, ?_⟩
            refine ⟨v2j1, v3j1, v4j1, v5j1, ?_, ?_, ?_, ?_, ?_, ?_, ?_, ?_, ?_, ?_, ?_⟩
            all_goals (first | rfl | (simp only [x_r04_Div, seval, -Int.reduceToNat, hr1, t2j1, t3j1, t4j1, t5j1, t16j1, H2j1, H3j1, H4j1, H5j1, hr5] <;> rfl))
          · replace hh := ite_f hb15 hh
            cases hh
            try simp only [x_r04_Div, seval, -Int.reduceToNat, hr1, t2j1, t3j1, t4j1, t5j1, t16j1, H2j1, H3j1, H4j1, H5j1, hr5]
            rw [CK_normal]
            refine ⟨_, rfl, ?_⟩
            refine ⟨v2j1, v3j1, v4j1, v5j1, ?_, ?_, ?_, ?_, ?_, ?_, ?_, ?_, ?_, ?_, ?_⟩
            all_goals (first | rfl | (simp only [x_r04_Div, seval, -Int.reduceToNat, hr1, t2j1, t3j1, t4j1, t5j1, t16j1, H2j1, H3j1, H4j1, H5j1, hr5] <;> rfl))
  ·
    clear hh
    have hh := ho2
    try simp only [x_r04_Div, seval, -Int.reduceToNat, hr1]
    refine tstO_br' (fun hb16 => ?_) (fun hb16 => ?_)
    · replace hh := ite_t hb16 hh
      cases hh
      try simp only [x_r04_Div, seval, -Int.reduceToNat, hr1]
      rw [CK_normal]
      refine ⟨_, rfl, ?_⟩
      refine ⟨0, 0, 0, 0, ?_, ?_, ?_, ?_, ?_, ?_, ?_, ?_, ?_⟩
      all_goals (first | rfl | (simp only [x_r04_Div, seval, -Int.reduceToNat, hr1] <;> rfl))
    · replace hh := ite_f hb16 hh
      obtain ⟨r17, hr17, hh⟩ := bindS hh
      cases hh
      try simp only [x_r04_Div, seval, -Int.reduceToNat, hr1, hr17]
      rw [CK_normal]
      refine ⟨_, rfl, ?_⟩
      refine ⟨0, 0, 0, 0, ?_, ?_, ?_, ?_, ?_, ?_, ?_, ?_, ?_⟩
      all_goals (first | rfl | (simp only [x_r04_Div, seval, -Int.reduceToNat, hr1, hr17] <;> rfl))

theorem ok_r04_Div : COk Try.prog 120 G_r04_Div := COk.of (mode := .clean) tok ge_r04_Div mixed Try.func120 (by kernel_rfl) ⟨by kernel_rfl, by kernel_rfl⟩ (fun _ => Nat.le_of_ble_eq_true (by kernel_rfl)) (fun x r h => m_r04_Div x.1 x.2 r h)

noncomputable def G_r05_New := mkG (asC (aAgg eTBig) (as1 (aAgg eTBig))) (fun x : TBig × TBig => r05_New x.1 x.2) (fun r : TFrac × Int => .clean (.tup [.agg [.int .i64 r.1.f_P.f_Sign, .sl false false r.1.f_P.f_Digits.length (encL (eI .i64) r.1.f_P.f_Digits), .int .i64 r.1.f_Q.f_Sign, .sl false false r.1.f_Q.f_Digits.length (encL (eI .i64) r.1.f_Q.f_Digits)], .int .i64 r.2]))

theorem q_r05_New (p0_0 : Int) (p0_1 : (List Int)) (p1_0 : Int) (p1_1 : (List Int)) : G_r05_New none [.agg [.int .i64 p0_0, .sl false false p0_1.length (encL (eI .i64) p0_1)], .agg [.int .i64 p1_0, .sl false false p1_1.length (encL (eI .i64) p1_1)]] = (r05_New (TBig.mk p0_0 p0_1) (TBig.mk p1_0 p1_1)).map fun r : TFrac × Int => (.clean (.tup [.agg [.int .i64 r.1.f_P.f_Sign, .sl false false r.1.f_P.f_Digits.length (encL (eI .i64) r.1.f_P.f_Digits), .int .i64 r.1.f_Q.f_Sign, .sl false false r.1.f_Q.f_Digits.length (encL (eI .i64) r.1.f_Q.f_Digits)], .int .i64 r.2]), none) := mkG_eq _ _ _ ((TBig.mk p0_0 p0_1), (TBig.mk p1_0 p1_1))

noncomputable def g_r05_New : Env := (Am.ext (Am.ext (Am.ext (Am.ext noEnv 81 false G_r04_Right) 82 false G_r04_Gcd) 119 false G_r04_Neg) 120 false G_r04_Div)

theorem ge_r05_New : GOk Try.prog g_r05_New := ((((GOk.none.add ok_r04_Right false).add ok_r04_Gcd false).add ok_r04_Neg false).add ok_r04_Div false)

theorem gg_r05_New : g_r05_New = (Am.ext (Am.ext (Am.ext (Am.ext noEnv 81 false G_r04_Right) 82 false G_r04_Gcd) 119 false G_r04_Neg) 120 false G_r04_Div) := Eq.trans rfl rfl

theorem x_r05_New : type_of% (And.intro @w <| And.intro @q_r04_Right <| And.intro @q_r04_Gcd <| And.intro @q_r04_Neg <| And.intro @q_r04_Div <| @gg_r05_New) := And.intro @w <| And.intro @q_r04_Right <| And.intro @q_r04_Gcd <| And.intro @q_r04_Neg <| And.intro @q_r04_Div <| @gg_r05_New

theorem m_r05_New (p0 : TBig) (p1 : TBig) (r : TFrac × Int) (hh : r05_New p0 p1 = some r) : vfunc .clean tab g_r05_New FU Try.f101 none [.agg [.int .i64 p0.f_Sign, .sl false false p0.f_Digits.length (encL (eI .i64) p0.f_Digits)], .agg [.int .i64 p1.f_Sign, .sl false false p1.f_Digits.length (encL (eI .i64) p1.f_Digits)]] = some (.clean (.tup [.agg [.int .i64 r.1.f_P.f_Sign, .sl false false r.1.f_P.f_Digits.length (encL (eI .i64) r.1.f_P.f_Digits), .int .i64 r.1.f_Q.f_Sign, .sl false false r.1.f_Q.f_Digits.length (encL (eI .i64) r.1.f_Q.f_Digits)], .int .i64 r.2]), none) := by
  refine vfunc_of rfl Try.ntmps101 Try.results101 ?_
  unfold r05_New at hh
  obtain ⟨r1, hr1, hh⟩ := bindS hh
  try simp only [x_r05_New, seval, -Int.reduceToNat, hr1]
  obtain ⟨o2, ho2, hh⟩ := bindS hh
  refine tstO_cut 0 (fun s t H e => match s with | s21j1 => ∃ v2j1 : Nat, ∃ v3j1 : Nat, ∃ v4j1 : Nat, t 2 = .ptr 2 v2j1 0 ∧ t 3 = .ptr 3 v3j1 0 ∧ t 4 = .ptr 4 v4j1 0 ∧ t 21 = .bool s21j1 ∧ H 2 = some ⟨v2j1, 32, [.int .i64 p0.f_Sign, .sl false false p0.f_Digits.length (encL (eI .i64) p0.f_Digits)], false, false⟩ ∧ H 3 = some ⟨v3j1, 32, [.int .i64 p1.f_Sign, .sl false false p1.f_Digits.length (encL (eI .i64) p1.f_Digits)], false, false⟩ ∧ H 4 = some ⟨v4j1, 34, [.int .i64 0, .sl true true 0 [], .int .i64 0, .sl true true 0 []], false, false⟩) (fun s => s = o2) ?_ ?_
  · rintro s21j1 t H e ⟨v2j1, v3j1, v4j1, t2j1, t3j1, t4j1, t21j1, H2j1, H3j1, H4j1⟩ rfl
    try dsimp only at hh
    try simp only [x_r05_New, seval, -Int.reduceToNat, hr1, t2j1, t3j1, t4j1, t21j1, H2j1, H3j1, H4j1]
    refine tstC_br (fun hb3 => ?_) (fun hb3 => ?_)
    · replace hh := ite_t hb3 hh
      cases hh
      try simp only [x_r05_New, seval, -Int.reduceToNat, hr1, t2j1, t3j1, t4j1, t21j1, H2j1, H3j1, H4j1]
    · replace hh := ite_f hb3 hh
      try simp only [x_r05_New, seval, -Int.reduceToNat, hr1, t2j1, t3j1, t4j1, t21j1, H2j1, H3j1, H4j1]
      refine tstC_br (fun hb4 => ?_) (fun hb4 => ?_)
      · replace hh := ite_t hb4 hh
        cases hh
        try simp only [x_r05_New, seval, -Int.reduceToNat, hr1, t2j1, t3j1, t4j1, t21j1, H2j1, H3j1, H4j1]
      · replace hh := ite_f hb4 hh
        try simp only [x_r05_New, seval, -Int.reduceToNat, hr1, t2j1, t3j1, t4j1, t21j1, H2j1, H3j1, H4j1]
        obtain ⟨o5, ho5, hh⟩ := bindS hh
        refine tstC_cut 0 (fun s t H e => match s with | (r2_0j2, r2_1j2, r3_0j2, r3_1j2) => ∃ v2j2 : Nat, ∃ v3j2 : Nat, ∃ v4j2 : Nat, t 2 = .ptr 2 v2j2 0 ∧ t 3 = .ptr 3 v3j2 0 ∧ t 4 = .ptr 4 v4j2 0 ∧ H 2 = some ⟨v2j2, 32, [.int .i64 r2_0j2, .sl false false r2_1j2.length (encL (eI .i64) r2_1j2)], false, false⟩ ∧ H 3 = some ⟨v3j2, 32, [.int .i64 r3_0j2, .sl false false r3_1j2.length (encL (eI .i64) r3_1j2)], false, false⟩ ∧ H 4 = some ⟨v4j2, 34, [.int .i64 0, .sl true true 0 [], .int .i64 0, .sl true true 0 []], false, false⟩) (fun s => s = o5) ?_ ?_
        · rintro ⟨r2_0j2, r2_1j2, r3_0j2, r3_1j2⟩ t H e ⟨v2j2, v3j2, v4j2, t2j2, t3j2, t4j2, H2j2, H3j2, H4j2⟩ rfl
          try dsimp only at hh
          obtain ⟨r6, hr6, hh⟩ := bindS hh
          obtain ⟨r7, hr7, hh⟩ := bindS hh
          obtain ⟨r8, hr8, hh⟩ := bindS hh
          cases hh
          try simp only [x_r05_New, seval, -Int.reduceToNat, hr1, t2j2, t3j2, t4j2, H2j2, H3j2, H4j2, hr6, hr7, hr8]
        ·
          clear hh
          have hh := ho5
          try simp only [x_r05_New, seval, -Int.reduceToNat, hr1, t2j1, t3j1, t4j1, t21j1, H2j1, H3j1, H4j1]
          refine tstC_br (fun hb9 => ?_) (fun hb9 => ?_)
          · replace hh := ite_t hb9 hh
            obtain ⟨r10, hr10, hh⟩ := bindS hh
            obtain ⟨r11, hr11, hh⟩ := bindS hh
            cases hh
            try simp only [x_r05_New, seval, -Int.reduceToNat, hr1, t2j1, t3j1, t4j1, t21j1, H2j1, H3j1, H4j1, hr10, hr11]
            rw [CK_normal]
            refine ⟨_, rfl, ?_⟩
            refine ⟨v2j1, v3j1, v4j1, ?_, ?_, ?_, ?_, ?_, ?_⟩
            all_goals (first | rfl | (simp only [x_r05_New, seval, -Int.reduceToNat, hr1, t2j1, t3j1, t4j1, t21j1, H2j1, H3j1, H4j1, hr10, hr11] <;> rfl))
          · replace hh := ite_f hb9 hh
            cases hh
            try simp only [x_r05_New, seval, -Int.reduceToNat, hr1, t2j1, t3j1, t4j1, t21j1, H2j1, H3j1, H4j1]
            rw [CK_normal]
            refine ⟨_, rfl, ?_⟩
            refine ⟨v2j1, v3j1, v4j1, ?_, ?_, ?_, ?_, ?_, ?_⟩
            all_goals (first | rfl | (simp only [x_r05_New, seval, -Int.reduceToNat, hr1, t2j1, t3j1, t4j1, t21j1, H2j1, H3j1, H4j1] <;> rfl))
  ·
    clear hh
    have hh := ho2
    try simp only [x_r05_New, seval, -Int.reduceToNat, hr1]
    refine tstO_br' (fun hb12 => ?_) (fun hb12 => ?_)
    · replace hh := ite_t hb12 hh
      cases hh
      try simp only [x_r05_New, seval, -Int.reduceToNat, hr1]
      rw [CK_normal]
      refine ⟨_, rfl, ?_⟩
      refine ⟨0, 0, 0, ?_, ?_, ?_, ?_, ?_, ?_, ?_⟩
      all_goals (first | rfl | (simp only [x_r05_New, seval, -Int.reduceToNat, hr1] <;> rfl))
    · replace hh := ite_f hb12 hh
      obtain ⟨r13, hr13, hh⟩ := bindS hh
      cases hh
      try simp only [x_r05_New, seval, -Int.reduceToNat, hr1, hr13]
      rw [CK_normal]
      refine ⟨_, rfl, ?_⟩
      refine ⟨0, 0, 0, ?_, ?_, ?_, ?_, ?_, ?_, ?_⟩
      all_goals (first | rfl | (simp only [x_r05_New, seval, -Int.reduceToNat, hr1, hr13] <;> rfl))

theorem ok_r05_New : COk Try.prog 101 G_r05_New := COk.of (mode := .clean) tok ge_r05_New mixed Try.func101 (by kernel_rfl) ⟨by kernel_rfl, by kernel_rfl⟩ (fun _ => Nat.le_of_ble_eq_true (by kernel_rfl)) (fun x r h => m_r05_New x.1 x.2 r h)

noncomputable def G_r05_Of := mkG (asC (aI .i64) (as1 (aI .i64))) (fun x : Int × Int => r05_Of x.1 x.2) (fun r : TFrac × Int => .clean (.tup [.agg [.int .i64 r.1.f_P.f_Sign, .sl false false r.1.f_P.f_Digits.length (encL (eI .i64) r.1.f_P.f_Digits), .int .i64 r.1.f_Q.f_Sign, .sl false false r.1.f_Q.f_Digits.length (encL (eI .i64) r.1.f_Q.f_Digits)], .int .i64 r.2]))

theorem q_r05_Of (p0 : Int) (p1 : Int) : G_r05_Of none [.int .i64 p0, .int .i64 p1] = (r05_Of p0 p1).map fun r : TFrac × Int => (.clean (.tup [.agg [.int .i64 r.1.f_P.f_Sign, .sl false false r.1.f_P.f_Digits.length (encL (eI .i64) r.1.f_P.f_Digits), .int .i64 r.1.f_Q.f_Sign, .sl false false r.1.f_Q.f_Digits.length (encL (eI .i64) r.1.f_Q.f_Digits)], .int .i64 r.2]), none) := mkG_eq _ _ _ (p0, p1)

noncomputable def g_r05_Of : Env := (Am.ext (Am.ext noEnv 84 false G_r04_Of) 101 false G_r05_New)

theorem ge_r05_Of : GOk Try.prog g_r05_Of := ((GOk.none.add ok_r04_Of false).add ok_r05_New false)

theorem gg_r05_Of : g_r05_Of = (Am.ext (Am.ext noEnv 84 false G_r04_Of) 101 false G_r05_New) := Eq.trans rfl rfl

theorem x_r05_Of : type_of% (And.intro @w <| And.intro @q_r04_Of <| And.intro @q_r05_New <| @gg_r05_Of) := And.intro @w <| And.intro @q_r04_Of <| And.intro @q_r05_New <| @gg_r05_Of

theorem m_r05_Of (p0 : Int) (p1 : Int) (r : TFrac × Int) (hh : r05_Of p0 p1 = some r) : vfunc .clean tab g_r05_Of FU Try.f64 none [.int .i64 p0, .int .i64 p1] = some (.clean (.tup [.agg [.int .i64 r.1.f_P.f_Sign, .sl false false r.1.f_P.f_Digits.length (encL (eI .i64) r.1.f_P.f_Digits), .int .i64 r.1.f_Q.f_Sign, .sl false false r.1.f_Q.f_Digits.length (encL (eI .i64) r.1.f_Q.f_Digits)], .int .i64 r.2]), none) := by
  refine vfunc_of rfl Try.ntmps64 Try.results64 ?_
  unfold r05_Of at hh
  obtain ⟨r1, hr1, hh⟩ := bindS hh
  obtain ⟨r2, hr2, hh⟩ := bindS hh
  obtain ⟨r3, hr3, hh⟩ := bindS hh
  cases hh
  try simp only [x_r05_Of, seval, -Int.reduceToNat, hr1, hr2, hr3]

theorem ok_r05_Of : COk Try.prog 64 G_r05_Of := COk.of (mode := .clean) tok ge_r05_Of mixed Try.func64 (by kernel_rfl) ⟨by kernel_rfl, by kernel_rfl⟩ (fun _ => Nat.le_of_ble_eq_true (by kernel_rfl)) (fun x r h => m_r05_Of x.1 x.2 r h)

noncomputable def G_r05_Int := mkG (as1 (aI .i64)) (fun x : Int => r05_Int x) (fun r : TFrac => .clean (.agg [.int .i64 r.f_P.f_Sign, .sl false false r.f_P.f_Digits.length (encL (eI .i64) r.f_P.f_Digits), .int .i64 r.f_Q.f_Sign, .sl false false r.f_Q.f_Digits.length (encL (eI .i64) r.f_Q.f_Digits)]))

theorem q_r05_Int (p0 : Int) : G_r05_Int none [.int .i64 p0] = (r05_Int p0).map fun r : TFrac => (.clean (.agg [.int .i64 r.f_P.f_Sign, .sl false false r.f_P.f_Digits.length (encL (eI .i64) r.f_P.f_Digits), .int .i64 r.f_Q.f_Sign, .sl false false r.f_Q.f_Digits.length (encL (eI .i64) r.f_Q.f_Digits)]), none) := mkG_eq _ _ _ (p0)

noncomputable def g_r05_Int : Env := (Am.ext noEnv 64 false G_r05_Of)

theorem ge_r05_Int : GOk Try.prog g_r05_Int := (GOk.none.add ok_r05_Of false)

theorem gg_r05_Int : g_r05_Int = (Am.ext noEnv 64 false G_r05_Of) := Eq.trans rfl rfl

theorem x_r05_Int : type_of% (And.intro @w <| And.intro @q_r05_Of <| @gg_r05_Int) := And.intro @w <| And.intro @q_r05_Of <| @gg_r05_Int

theorem m_r05_Int (p0 : Int) (r : TFrac) (hh : r05_Int p0 = some r) : vfunc .clean tab g_r05_Int FU Try.f29 none [.int .i64 p0] = some (.clean (.agg [.int .i64 r.f_P.f_Sign, .sl false false r.f_P.f_Digits.length (encL (eI .i64) r.f_P.f_Digits), .int .i64 r.f_Q.f_Sign, .sl false false r.f_Q.f_Digits.length (encL (eI .i64) r.f_Q.f_Digits)]), none) := by
  refine vfunc_of rfl Try.ntmps29 Try.results29 ?_
  unfold r05_Int at hh
  obtain ⟨r1, hr1, hh⟩ := bindS hh
  cases hh
  try simp only [x_r05_Int, seval, -Int.reduceToNat, hr1]

theorem ok_r05_Int : COk Try.prog 29 G_r05_Int := COk.of (mode := .clean) tok ge_r05_Int mixed Try.func29 (by kernel_rfl) ⟨by kernel_rfl, by kernel_rfl⟩ (fun _ => Nat.le_of_ble_eq_true (by kernel_rfl)) (fun x r h => m_r05_Int x r h)

noncomputable def G_l44_ints := mkG (as1 (aSl (eI .i64))) (fun x : (List Int) => l44_ints x) (fun r : (List TFrac) => .clean (.sl false false r.length (encL eTFrac r)))

theorem q_l44_ints (p0 : (List Int)) : G_l44_ints none [.sl false false p0.length (encL (eI .i64) p0)] = (l44_ints p0).map fun r : (List TFrac) => (.clean (.sl false false r.length (encL eTFrac r)), none) := mkG_eq _ _ _ (p0)

noncomputable def g_l44_ints : Env := (Am.ext noEnv 29 false G_r05_Int)

theorem ge_l44_ints : GOk Try.prog g_l44_ints := (GOk.none.add ok_r05_Int false)

theorem gg_l44_ints : g_l44_ints = (Am.ext noEnv 29 false G_r05_Int) := Eq.trans rfl rfl

theorem x_l44_ints : type_of% (And.intro @w <| And.intro @q_r05_Int <| @gg_l44_ints) := And.intro @w <| And.intro @q_r05_Int <| @gg_l44_ints

theorem m_l44_ints (p0 : (List Int)) (r : (List TFrac)) (hh : l44_ints p0 = some r) : vfunc .clean tab g_l44_ints FU Try.f47 none [.sl false false p0.length (encL (eI .i64) p0)] = some (.clean (.sl false false r.length (encL eTFrac r)), none) := by
  refine vfunc_of rfl Try.ntmps47 Try.results47 ?_
  unfold l44_ints at hh
  try simp only [x_l44_ints, seval, -Int.reduceToNat]
  obtain ⟨o6, ho6, hh⟩ := bindS hh
  refine runLoop_sim (fun s t H e => match s with | (s4a, l3a) => ∃ v3a : Nat, t 0 = .sl false false p0.length (encL (eI .i64) p0) ∧ t 3 = .buf 3 v3a 4 0 (l3a).length ∧ t 4 = .int .i64 s4a ∧ H 3 = some ⟨v3a, 34, encL eTFrac l3a, false, true⟩) (fun o x t H e => match o with | l3ax => x = .exit 0 ∧ ∃ v3ax : Nat, t 3 = .buf 3 v3ax 4 0 (l3ax).length ∧ H 3 = some ⟨v3ax, 34, encL eTFrac l3ax, false, true⟩) ho6 ?_ ?_ ?_
  ·
    refine ⟨1, ?_, ?_, ?_, ?_⟩
    all_goals (first | rfl | (simp only [x_l44_ints, seval, -Int.reduceToNat] <;> rfl))
  · rintro ⟨s4a, l3a⟩ t H e ⟨v3a, t0a, t3a, t4a, H3a⟩ c hh
    simp only [l44_ints_L1] at hh
    try simp only [x_l44_ints, seval, -Int.reduceToNat, t0a, t3a, t4a, H3a]
    refine tstC_br (fun hb7 => ?_) (fun hb7 => ?_)
    · replace hh := ite_t hb7 hh
      obtain ⟨x8, hx8, hh⟩ := bindS hh
      have bx8 := idx_bd hx8
      have ax8 := idx_enc (eI .i64) hx8
      have fx8 := idx_fit (eI .i64) hx8
      simp only [vmz] at ax8 fx8
      skip
      obtain ⟨r9, hr9, hh⟩ := bindS hh
      obtain ⟨x10, hx10, hh⟩ := bindS hh
      obtain ⟨q11a, q11b, q11c, q11d⟩ := app_one eTFrac hx10
      simp only [vmz] at q11b
      cases hh
      try simp only [x_l44_ints, seval, -Int.reduceToNat, t0a, t3a, t4a, H3a, bx8, ax8, fx8, hr9, q11a, q11b, q11c, q11d]
      rw [LK_normal]
      refine ⟨_, rfl, ?_⟩
      refine ⟨e + 1, ?_, ?_, ?_, ?_⟩
      all_goals (first | rfl | (simp only [x_l44_ints, seval, -Int.reduceToNat, t0a, t3a, t4a, H3a, bx8, ax8, fx8, hr9, q11a, q11b, q11c, q11d] <;> rfl))
    · replace hh := ite_f hb7 hh
      cases hh
      try simp only [x_l44_ints, seval, -Int.reduceToNat, t0a, t3a, t4a, H3a]
      rw [LK_exit]
      refine ⟨_, rfl, ?_⟩
      refine ⟨rfl, ⟨v3a, ?_, ?_⟩⟩
      all_goals (first | rfl | (simp only [x_l44_ints, seval, -Int.reduceToNat, t0a, t3a, t4a, H3a] <;> rfl))
  · rintro x t H e hx
    obtain ⟨l3ax, rfl⟩ : ∃ z, z = o6 := ⟨_, rfl⟩
    dsimp only at hx hh
    obtain ⟨rfl, ⟨v3ax, t3ax, H3ax⟩⟩ := hx
    cases hh
    try simp only [x_l44_ints, seval, -Int.reduceToNat, t3ax, H3ax]

theorem ok_l44_ints : COk Try.prog 47 G_l44_ints := COk.of (mode := .clean) tok ge_l44_ints mixed Try.func47 (by kernel_rfl) ⟨by kernel_rfl, by kernel_rfl⟩ (fun _ => Nat.le_of_ble_eq_true (by kernel_rfl)) (fun x r h => m_l44_ints x r h)

noncomputable def G_math_bits_Len32 := mkG (as1 (aI .u32)) (fun x : Int => math_bits_Len32 x) (fun r : Int => .clean (.int .i64 r))

theorem q_math_bits_Len32 (p0 : Int) : G_math_bits_Len32 none [.int .u32 p0] = (math_bits_Len32 p0).map fun r : Int => (.clean (.int .i64 r), none) := mkG_eq _ _ _ (p0)

theorem m_math_bits_Len32 (p0 : Int) (r : Int) (hh : math_bits_Len32 p0 = some r) : vfunc .clean tab noEnv FU Try.f113 none [.int .u32 p0] = some (.clean (.int .i64 r), none) := by
  refine vfunc_of rfl Try.ntmps113 Try.results113 ?_
  unfold math_bits_Len32 at hh
  try simp only [w, seval, -Int.reduceToNat]
  obtain ⟨o1, ho1, hh⟩ := bindS hh
  refine tstC_cut 0 (fun s t H e => match s with | (s0j1, s2j1) => t 0 = .int .u32 s0j1 ∧ t 2 = .int .i64 s2j1) (fun s => s = o1) ?_ ?_
  · rintro ⟨s0j1, s2j1⟩ t H e ⟨t0j1, t2j1⟩ rfl
    try dsimp only at hh
    try simp only [w, seval, -Int.reduceToNat, t0j1, t2j1]
    refine tstC_br (fun hb2 => ?_) (fun hb2 => ?_)
    · replace hh := ite_t hb2 hh
      obtain ⟨x3, hx3, hh⟩ := bindS hh
      obtain ⟨q4a, q4b⟩ := shrI_ok hx3
      try simp only [w, seval, -Int.reduceToNat, t0j1, t2j1, q4a, q4b]
      obtain ⟨x5, hx5, hh⟩ := bindS hh
      obtain ⟨q6a, q6b, q6c, q6d⟩ := sidx_ok hx5
      try simp only [w, seval, -Int.reduceToNat, t0j1, t2j1, q4a, q4b, q6a, q6d]
      erw [q6c]
      cases hh
      try simp only [w, seval, -Int.reduceToNat, t0j1, t2j1, q4a, q4b, q6a, q6d]
    · replace hh := ite_f hb2 hh
      try simp only [w, seval, -Int.reduceToNat, t0j1, t2j1]
      obtain ⟨x7, hx7, hh⟩ := bindS hh
      obtain ⟨q8a, q8b, q8c, q8d⟩ := sidx_ok hx7
      try simp only [w, seval, -Int.reduceToNat, t0j1, t2j1, q8a, q8d]
      erw [q8c]
      cases hh
      try simp only [w, seval, -Int.reduceToNat, t0j1, t2j1, q8a, q8d]
  ·
    clear hh
    have hh := ho1
    try simp only [w, seval, -Int.reduceToNat]
    refine tstC_br (fun hb9 => ?_) (fun hb9 => ?_)
    · replace hh := ite_t hb9 hh
      obtain ⟨x10, hx10, hh⟩ := bindS hh
      obtain ⟨q11a, q11b⟩ := shrI_ok hx10
      cases hh
      try simp only [w, seval, -Int.reduceToNat, q11a, q11b]
      rw [CK_normal]
      refine ⟨_, rfl, ?_⟩
      refine ⟨?_, ?_⟩
      all_goals (first | rfl | (simp only [w, seval, -Int.reduceToNat, q11a, q11b] <;> rfl))
    · replace hh := ite_f hb9 hh
      cases hh
      try simp only [w, seval, -Int.reduceToNat]
      rw [CK_normal]
      refine ⟨_, rfl, ?_⟩
      refine ⟨?_, ?_⟩
      all_goals (first | rfl | (simp only [w, seval, -Int.reduceToNat] <;> rfl))

theorem ok_math_bits_Len32 : COk Try.prog 113 G_math_bits_Len32 := COk.of (mode := .clean) tok GOk.none mixed Try.func113 (by kernel_rfl) ⟨by kernel_rfl, by kernel_rfl⟩ (fun _ => Nat.le_of_ble_eq_true (by kernel_rfl)) (fun x r h => m_math_bits_Len32 x r h)

noncomputable def G_math_bits_Len64 := mkG (as1 (aI .u64)) (fun x : Int => math_bits_Len64 x) (fun r : Int => .clean (.int .i64 r))

theorem q_math_bits_Len64 (p0 : Int) : G_math_bits_Len64 none [.int .u64 p0] = (math_bits_Len64 p0).map fun r : Int => (.clean (.int .i64 r), none) := mkG_eq _ _ _ (p0)

theorem m_math_bits_Len64 (p0 : Int) (r : Int) (hh : math_bits_Len64 p0 = some r) : vfunc .clean tab noEnv FU Try.f114 none [.int .u64 p0] = some (.clean (.int .i64 r), none) := by
  refine vfunc_of rfl Try.ntmps114 Try.results114 ?_
  unfold math_bits_Len64 at hh
  try simp only [w, seval, -Int.reduceToNat]
  obtain ⟨o1, ho1, hh⟩ := bindS hh
  refine tstC_cut 0 (fun s t H e => match s with | (s0j1, s2j1) => t 0 = .int .u64 s0j1 ∧ t 2 = .int .i64 s2j1) (fun s => s = o1) ?_ ?_
  · rintro ⟨s0j1, s2j1⟩ t H e ⟨t0j1, t2j1⟩ rfl
    try dsimp only at hh
    try simp only [w, seval, -Int.reduceToNat, t0j1, t2j1]
    obtain ⟨o2, ho2, hh⟩ := bindS hh
    refine tstC_cut 0 (fun s t H e => match s with | (s0j2, s2j2) => t 0 = .int .u64 s0j2 ∧ t 2 = .int .i64 s2j2) (fun s => s = o2) ?_ ?_
    · rintro ⟨s0j2, s2j2⟩ t H e ⟨t0j2, t2j2⟩ rfl
      try dsimp only at hh
      try simp only [w, seval, -Int.reduceToNat, t0j2, t2j2]
      refine tstC_br (fun hb3 => ?_) (fun hb3 => ?_)
      · replace hh := ite_t hb3 hh
        obtain ⟨x4, hx4, hh⟩ := bindS hh
        obtain ⟨q5a, q5b⟩ := shrI_ok hx4
        try simp only [w, seval, -Int.reduceToNat, t0j2, t2j2, q5a, q5b]
        obtain ⟨x6, hx6, hh⟩ := bindS hh
        obtain ⟨q7a, q7b, q7c, q7d⟩ := sidx_ok hx6
        try simp only [w, seval, -Int.reduceToNat, t0j2, t2j2, q5a, q5b, q7a, q7d]
        erw [q7c]
        cases hh
        try simp only [w, seval, -Int.reduceToNat, t0j2, t2j2, q5a, q5b, q7a, q7d]
      · replace hh := ite_f hb3 hh
        try simp only [w, seval, -Int.reduceToNat, t0j2, t2j2]
        obtain ⟨x8, hx8, hh⟩ := bindS hh
        obtain ⟨q9a, q9b, q9c, q9d⟩ := sidx_ok hx8
        try simp only [w, seval, -Int.reduceToNat, t0j2, t2j2, q9a, q9d]
        erw [q9c]
        cases hh
        try simp only [w, seval, -Int.reduceToNat, t0j2, t2j2, q9a, q9d]
    ·
      clear hh
      have hh := ho2
      try simp only [w, seval, -Int.reduceToNat, t0j1, t2j1]
      refine tstC_br (fun hb10 => ?_) (fun hb10 => ?_)
      · replace hh := ite_t hb10 hh
        obtain ⟨x11, hx11, hh⟩ := bindS hh
        obtain ⟨q12a, q12b⟩ := shrI_ok hx11
        cases hh
        try simp only [w, seval, -Int.reduceToNat, t0j1, t2j1, q12a, q12b]
        rw [CK_normal]
        refine ⟨_, rfl, ?_⟩
        refine ⟨?_, ?_⟩
        all_goals (first | rfl | (simp only [w, seval, -Int.reduceToNat, t0j1, t2j1, q12a, q12b] <;> rfl))
      · replace hh := ite_f hb10 hh
        cases hh
        try simp only [w, seval, -Int.reduceToNat, t0j1, t2j1]
        rw [CK_normal]
        refine ⟨_, rfl, ?_⟩
        refine ⟨?_, ?_⟩
        all_goals (first | rfl | (simp only [w, seval, -Int.reduceToNat, t0j1, t2j1] <;> rfl))
  ·
    clear hh
    have hh := ho1
    try simp only [w, seval, -Int.reduceToNat]
    refine tstC_br (fun hb13 => ?_) (fun hb13 => ?_)
    · replace hh := ite_t hb13 hh
      obtain ⟨x14, hx14, hh⟩ := bindS hh
      obtain ⟨q15a, q15b⟩ := shrI_ok hx14
      cases hh
      try simp only [w, seval, -Int.reduceToNat, q15a, q15b]
      rw [CK_normal]
      refine ⟨_, rfl, ?_⟩
      refine ⟨?_, ?_⟩
      all_goals (first | rfl | (simp only [w, seval, -Int.reduceToNat, q15a, q15b] <;> rfl))
    · replace hh := ite_f hb13 hh
      cases hh
      try simp only [w, seval, -Int.reduceToNat]
      rw [CK_normal]
      refine ⟨_, rfl, ?_⟩
      refine ⟨?_, ?_⟩
      all_goals (first | rfl | (simp only [w, seval, -Int.reduceToNat] <;> rfl))

theorem ok_math_bits_Len64 : COk Try.prog 114 G_math_bits_Len64 := COk.of (mode := .clean) tok GOk.none mixed Try.func114 (by kernel_rfl) ⟨by kernel_rfl, by kernel_rfl⟩ (fun _ => Nat.le_of_ble_eq_true (by kernel_rfl)) (fun x r h => m_math_bits_Len64 x r h)

noncomputable def G_math_bits_Len := mkG (as1 (aI .u64)) (fun x : Int => math_bits_Len x) (fun r : Int => .clean (.int .i64 r))

theorem q_math_bits_Len (p0 : Int) : G_math_bits_Len none [.int .u64 p0] = (math_bits_Len p0).map fun r : Int => (.clean (.int .i64 r), none) := mkG_eq _ _ _ (p0)

noncomputable def g_math_bits_Len : Env := (Am.ext noEnv 114 false G_math_bits_Len64)

theorem ge_math_bits_Len : GOk Try.prog g_math_bits_Len := (GOk.none.add ok_math_bits_Len64 false)

theorem gg_math_bits_Len : g_math_bits_Len = (Am.ext noEnv 114 false G_math_bits_Len64) := Eq.trans rfl rfl

theorem x_math_bits_Len : type_of% (And.intro @w <| And.intro @q_math_bits_Len64 <| @gg_math_bits_Len) := And.intro @w <| And.intro @q_math_bits_Len64 <| @gg_math_bits_Len

theorem m_math_bits_Len (p0 : Int) (r : Int) (hh : math_bits_Len p0 = some r) : vfunc .clean tab g_math_bits_Len FU Try.f86 none [.int .u64 p0] = some (.clean (.int .i64 r), none) := by
  refine vfunc_of rfl Try.ntmps86 Try.results86 ?_
  unfold math_bits_Len at hh
  obtain ⟨r1, hr1, hh⟩ := bindS hh
  cases hh
  try simp only [x_math_bits_Len, seval, -Int.reduceToNat, hr1]

theorem ok_math_bits_Len : COk Try.prog 86 G_math_bits_Len := COk.of (mode := .clean) tok ge_math_bits_Len mixed Try.func86 (by kernel_rfl) ⟨by kernel_rfl, by kernel_rfl⟩ (fun _ => Nat.le_of_ble_eq_true (by kernel_rfl)) (fun x r h => m_math_bits_Len x r h)

noncomputable def G_big_Right := mkG (as1 (aAgg eTBig)) (fun x : TBig => big_Right x) (fun r : Bool => .clean (.bool r))

theorem q_big_Right (p0_0 : Int) (p0_1 : (List Int)) : G_big_Right none [.agg [.int .i64 p0_0, .sl false false p0_1.length (encL (eI .i64) p0_1)]] = (big_Right (TBig.mk p0_0 p0_1)).map fun r : Bool => (.clean (.bool r), none) := mkG_eq _ _ _ ((TBig.mk p0_0 p0_1))

theorem m_big_Right (p0 : TBig) (r : Bool) (hh : big_Right p0 = some r) : vfunc .clean tab noEnv FU Try.f58 none [.agg [.int .i64 p0.f_Sign, .sl false false p0.f_Digits.length (encL (eI .i64) p0.f_Digits)]] = some (.clean (.bool r), none) := by
  refine vfunc_of rfl Try.ntmps58 Try.results58 ?_
  unfold big_Right at hh
  try simp only [w, seval, -Int.reduceToNat]
  obtain ⟨o5, ho5, hh⟩ := bindS hh
  refine runLoop_sim (fun s t H e => match s with | s12a => ∃ v1a : Nat, t 1 = .ptr 1 v1a 0 ∧ t 3 = .int .i64 (p0.f_Digits.length : Int) ∧ t 10 = .sl false false p0.f_Digits.length (encL (eI .i64) p0.f_Digits) ∧ t 11 = .int .i64 (p0.f_Digits.length : Int) ∧ t 12 = .int .i64 s12a ∧ H 1 = some ⟨v1a, 32, [.int .i64 p0.f_Sign, .sl false false p0.f_Digits.length (encL (eI .i64) p0.f_Digits)], false, false⟩) (fun o x t H e => match o with | (.inl _) => x = .exit 0 ∧ ∃ v1ax : Nat, t 1 = .ptr 1 v1ax 0 ∧ t 3 = .int .i64 (p0.f_Digits.length : Int) ∧ H 1 = some ⟨v1ax, 32, [.int .i64 p0.f_Sign, .sl false false p0.f_Digits.length (encL (eI .i64) p0.f_Digits)], false, false⟩ | (.inr r) => x = .ret ∧ endM .clean tab none [.tmp 2] ⟨t, H, e⟩ = some (.clean (.bool r), none)) ho5 ?_ ?_ ?_
  ·
    refine ⟨0, ?_, ?_, ?_, ?_, ?_, ?_⟩
    all_goals (first | rfl | (simp only [w, seval, -Int.reduceToNat] <;> rfl))
  · rintro s12a t H e ⟨v1a, t1a, t3a, t10a, t11a, t12a, H1a⟩ c hh
    simp only [big_Right_L1] at hh
    try simp only [w, seval, -Int.reduceToNat, t1a, t3a, t10a, t11a, t12a, H1a]
    refine tstC_br (fun hb6 => ?_) (fun hb6 => ?_)
    · replace hh := ite_t hb6 hh
      obtain ⟨x7, hx7, hh⟩ := bindS hh
      have bx7 := idx_bd hx7
      have ax7 := idx_enc (eI .i64) hx7
      have fx7 := idx_fit (eI .i64) hx7
      simp only [vmz] at ax7 fx7
      skip
      try simp only [w, seval, -Int.reduceToNat, t1a, t3a, t10a, t11a, t12a, H1a, bx7, ax7, fx7]
      refine tstO_br' (fun hb8 => ?_) (fun hb8 => ?_)
      · replace hh := ite_t hb8 hh
        cases hh
        try simp only [w, seval, -Int.reduceToNat, t1a, t3a, t10a, t11a, t12a, H1a, bx7, ax7, fx7]
        rw [LK_ret]
        refine ⟨_, rfl, ?_⟩
        refine ⟨rfl, ?_⟩
        try simp only [w, seval, -Int.reduceToNat, t1a, t3a, t10a, t11a, t12a, H1a, bx7, ax7, fx7]
      · replace hh := ite_f hb8 hh
        try simp only [w, seval, -Int.reduceToNat, t1a, t3a, t10a, t11a, t12a, H1a, bx7, ax7, fx7]
        refine tstC_br (fun hb9 => ?_) (fun hb9 => ?_)
        · replace hh := ite_t hb9 hh
          cases hh
          try simp only [w, seval, -Int.reduceToNat, t1a, t3a, t10a, t11a, t12a, H1a, bx7, ax7, fx7]
          rw [LK_ret]
          refine ⟨_, rfl, ?_⟩
          refine ⟨rfl, ?_⟩
          try simp only [w, seval, -Int.reduceToNat, t1a, t3a, t10a, t11a, t12a, H1a, bx7, ax7, fx7]
        · replace hh := ite_f hb9 hh
          cases hh
          try simp only [w, seval, -Int.reduceToNat, t1a, t3a, t10a, t11a, t12a, H1a, bx7, ax7, fx7]
          rw [LK_normal]
          refine ⟨_, rfl, ?_⟩
          refine ⟨v1a, ?_, ?_, ?_, ?_, ?_, ?_⟩
          all_goals (first | rfl | (simp only [w, seval, -Int.reduceToNat, t1a, t3a, t10a, t11a, t12a, H1a, bx7, ax7, fx7] <;> rfl))
    · replace hh := ite_f hb6 hh
      cases hh
      try simp only [w, seval, -Int.reduceToNat, t1a, t3a, t10a, t11a, t12a, H1a]
      rw [LK_exit]
      refine ⟨_, rfl, ?_⟩
      refine ⟨rfl, ⟨v1a, ?_, ?_, ?_⟩⟩
      all_goals (first | rfl | (simp only [w, seval, -Int.reduceToNat, t1a, t3a, t10a, t11a, t12a, H1a] <;> rfl))
  · rintro x t H e hx
    rcases o5 with _ | ra
    ·
      dsimp only at hx hh
      obtain ⟨rfl, ⟨v1ax, t1ax, t3ax, H1ax⟩⟩ := hx
      try simp only [w, seval, -Int.reduceToNat, t1ax, t3ax, H1ax]
      refine tstC_br (fun hb10 => ?_) (fun hb10 => ?_)
      · replace hh := ite_t hb10 hh
        cases hh
        try simp only [w, seval, -Int.reduceToNat, t1ax, t3ax, H1ax]
      · replace hh := ite_f hb10 hh
        try simp only [w, seval, -Int.reduceToNat, t1ax, t3ax, H1ax]
        refine tstO_br' (fun hb11 => ?_) (fun hb11 => ?_)
        · replace hh := ite_t hb11 hh
          obtain ⟨x12, hx12, hh⟩ := bindS hh
          have bx12 := idx_bd hx12
          have ax12 := idx_enc (eI .i64) hx12
          have fx12 := idx_fit (eI .i64) hx12
          simp only [vmz] at ax12 fx12
          skip
          cases hh
          try simp only [w, seval, -Int.reduceToNat, t1ax, t3ax, H1ax, bx12, ax12, fx12]
        · replace hh := ite_f hb11 hh
          try simp only [w, seval, -Int.reduceToNat, t1ax, t3ax, H1ax]
          refine tstO_br (fun hb13 => ?_) (fun hb13 => ?_)
          · replace hh := ite_t hb13 hh
            obtain ⟨x14, hx14, hh⟩ := bindS hh
            have bx14 := idx_bd hx14
            have ax14 := idx_enc (eI .i64) hx14
            have fx14 := idx_fit (eI .i64) hx14
            simp only [vmz] at ax14 fx14
            skip
            cases hh
            try simp only [w, seval, -Int.reduceToNat, t1ax, t3ax, H1ax, bx14, ax14, fx14]
          · replace hh := ite_f hb13 hh
            cases hh
            try simp only [w, seval, -Int.reduceToNat, t1ax, t3ax, H1ax]
    ·
      dsimp only at hx hh
      obtain ⟨rfl, hE⟩ := hx
      cases hh
      try simp only [runW_pass_ret, runW_pass_exit, runW_blk_ret, runW_nil, endW_ret]
      exact hE

theorem ok_big_Right : COk Try.prog 58 G_big_Right := COk.of (mode := .clean) tok GOk.none mixed Try.func58 (by kernel_rfl) ⟨by kernel_rfl, by kernel_rfl⟩ (fun _ => Nat.le_of_ble_eq_true (by kernel_rfl)) (fun x r h => m_big_Right x r h)

noncomputable def G_big_checked := mkG (asC aBool (as1 (aAgg eTBig))) (fun x : Bool × TBig => big_checked x.1 x.2) (fun r : TBig × Int => .clean (.tup [.agg [.int .i64 r.1.f_Sign, .sl false false r.1.f_Digits.length (encL (eI .i64) r.1.f_Digits)], .int .i64 r.2]))

theorem q_big_checked (p0 : Bool) (p1_0 : Int) (p1_1 : (List Int)) : G_big_checked none [.bool p0, .agg [.int .i64 p1_0, .sl false false p1_1.length (encL (eI .i64) p1_1)]] = (big_checked p0 (TBig.mk p1_0 p1_1)).map fun r : TBig × Int => (.clean (.tup [.agg [.int .i64 r.1.f_Sign, .sl false false r.1.f_Digits.length (encL (eI .i64) r.1.f_Digits)], .int .i64 r.2]), none) := mkG_eq _ _ _ (p0, (TBig.mk p1_0 p1_1))

theorem m_big_checked (p0 : Bool) (p1 : TBig) (r : TBig × Int) (hh : big_checked p0 p1 = some r) : vfunc .clean tab noEnv FU Try.f92 none [.bool p0, .agg [.int .i64 p1.f_Sign, .sl false false p1.f_Digits.length (encL (eI .i64) p1.f_Digits)]] = some (.clean (.tup [.agg [.int .i64 r.1.f_Sign, .sl false false r.1.f_Digits.length (encL (eI .i64) r.1.f_Digits)], .int .i64 r.2]), none) := by
  refine vfunc_of rfl Try.ntmps92 Try.results92 ?_
  unfold big_checked at hh
  try simp only [w, seval, -Int.reduceToNat]
  refine tstC_br (fun hb1 => ?_) (fun hb1 => ?_)
  · replace hh := ite_t hb1 hh
    cases hh
    try simp only [w, seval, -Int.reduceToNat]
  · replace hh := ite_f hb1 hh
    cases hh
    try simp only [w, seval, -Int.reduceToNat]

theorem ok_big_checked : COk Try.prog 92 G_big_checked := COk.of (mode := .clean) tok GOk.none mixed Try.func92 (by kernel_rfl) ⟨by kernel_rfl, by kernel_rfl⟩ (fun _ => Nat.le_of_ble_eq_true (by kernel_rfl)) (fun x r h => m_big_checked x.1 x.2 r h)

theorem m_slices_Clone_0 (r : (List Int)) (hh : slices_Clone [] = some r) : vfunc (.fresh 3 1) tab noEnv FU Try.f91 none [.sl true true 0 []] = some (.fresh 3 1 r.length (encL (eI .i64) r), none) := by
  unfold slices_Clone at hh
  obtain ⟨qa, qb, qc⟩ := app_nil hh
  subst qa
  refine vfunc_of rfl Try.ntmps91 Try.results91 ?_
  simp only [w, seval, -Int.reduceToNat, Nat.lt_irrefl]

theorem m_slices_Clone_1 (r : (List Int)) (hh : slices_Clone [] = some r) : vfunc (.fresh 3 1) tab noEnv FU Try.f91 none [.sl true false 0 []] = some (.fresh 3 1 r.length (encL (eI .i64) r), none) := by
  unfold slices_Clone at hh
  obtain ⟨qa, qb, qc⟩ := app_nil hh
  subst qa
  refine vfunc_of rfl Try.ntmps91 Try.results91 ?_
  simp only [w, seval, -Int.reduceToNat, Nat.lt_irrefl]

theorem m_slices_Clone_2 (p0 r : (List Int)) (hp : 0 < p0.length) (hh : slices_Clone p0 = some r) : vfunc (.fresh 3 1) tab noEnv FU Try.f91 none [.sl false false p0.length (encL (eI .i64) p0)] = some (.fresh 3 1 r.length (encL (eI .i64) r), none) := by
  unfold slices_Clone at hh
  have hz : ¬ p0.length = 0 := by omega
  obtain ⟨qa, qb, qc⟩ := app_nil hh
  subst qa
  refine vfunc_of rfl Try.ntmps91 Try.results91 ?_
  simp only [w, seval, -Int.reduceToNat, hp, hz, qb, qc]

noncomputable def G_slices_Clone := mkG (as1 (aSl (eI .i64))) (fun x : (List Int) => slices_Clone x) (fun r : (List Int) => .fresh 3 1 r.length (encL (eI .i64) r))

theorem q_slices_Clone (p0 : (List Int)) : G_slices_Clone none [.sl false false p0.length (encL (eI .i64) p0)] = (slices_Clone p0).map fun r : (List Int) => (.fresh 3 1 r.length (encL (eI .i64) r), none) := mkG_eq _ _ _ p0

theorem ok_slices_Clone : COk Try.prog 91 G_slices_Clone := COk.list3 (mode := (.fresh 3 1)) tok GOk.none mixed Try.func91 (by kernel_rfl) ⟨by kernel_rfl, by kernel_rfl⟩ (Nat.le_of_ble_eq_true (by kernel_rfl)) m_slices_Clone_0 m_slices_Clone_1 m_slices_Clone_2

noncomputable def G_cmp_isNaN := mkG (as1 (aI .i64)) (fun x : Int => cmp_isNaN x) (fun r : Bool => .clean (.bool r))

theorem q_cmp_isNaN (p0 : Int) : G_cmp_isNaN none [.int .i64 p0] = (cmp_isNaN p0).map fun r : Bool => (.clean (.bool r), none) := mkG_eq _ _ _ (p0)

theorem m_cmp_isNaN (p0 : Int) (r : Bool) (hh : cmp_isNaN p0 = some r) : vfunc .clean tab noEnv FU Try.f121 none [.int .i64 p0] = some (.clean (.bool r), none) := by
  refine vfunc_of rfl Try.ntmps121 Try.results121 ?_
  unfold cmp_isNaN at hh
  cases hh
  try simp only [w, seval, -Int.reduceToNat]

theorem ok_cmp_isNaN : COk Try.prog 121 G_cmp_isNaN := COk.of (mode := .clean) tok GOk.none mixed Try.func121 (by kernel_rfl) ⟨by kernel_rfl, by kernel_rfl⟩ (fun _ => Nat.le_of_ble_eq_true (by kernel_rfl)) (fun x r h => m_cmp_isNaN x r h)

noncomputable def G_cmp_Compare := mkG (asC (aI .i64) (as1 (aI .i64))) (fun x : Int × Int => cmp_Compare x.1 x.2) (fun r : Int => .clean (.int .i64 r))

theorem q_cmp_Compare (p0 : Int) (p1 : Int) : G_cmp_Compare none [.int .i64 p0, .int .i64 p1] = (cmp_Compare p0 p1).map fun r : Int => (.clean (.int .i64 r), none) := mkG_eq _ _ _ (p0, p1)

noncomputable def g_cmp_Compare : Env := (Am.ext noEnv 121 false G_cmp_isNaN)

theorem ge_cmp_Compare : GOk Try.prog g_cmp_Compare := (GOk.none.add ok_cmp_isNaN false)

theorem gg_cmp_Compare : g_cmp_Compare = (Am.ext noEnv 121 false G_cmp_isNaN) := Eq.trans rfl rfl

theorem x_cmp_Compare : type_of% (And.intro @w <| And.intro @q_cmp_isNaN <| @gg_cmp_Compare) := And.intro @w <| And.intro @q_cmp_isNaN <| @gg_cmp_Compare

theorem m_cmp_Compare (p0 : Int) (p1 : Int) (r : Int) (hh : cmp_Compare p0 p1 = some r) : vfunc .clean tab g_cmp_Compare FU Try.f103 none [.int .i64 p0, .int .i64 p1] = some (.clean (.int .i64 r), none) := by
  refine vfunc_of rfl Try.ntmps103 Try.results103 ?_
  unfold cmp_Compare at hh
  obtain ⟨r1, hr1, hh⟩ := bindS hh
  obtain ⟨r2, hr2, hh⟩ := bindS hh
  try simp only [x_cmp_Compare, seval, -Int.reduceToNat, hr1, hr2]
  refine tstC_br (fun hb3 => ?_) (fun hb3 => ?_)
  · replace hh := ite_t hb3 hh
    try simp only [x_cmp_Compare, seval, -Int.reduceToNat, hr1, hr2]
    refine tstC_br (fun hb4 => ?_) (fun hb4 => ?_)
    · replace hh := ite_t hb4 hh
      cases hh
      try simp only [x_cmp_Compare, seval, -Int.reduceToNat, hr1, hr2]
    · replace hh := ite_f hb4 hh
      cases hh
      try simp only [x_cmp_Compare, seval, -Int.reduceToNat, hr1, hr2]
  · replace hh := ite_f hb3 hh
    try simp only [x_cmp_Compare, seval, -Int.reduceToNat, hr1, hr2]
    refine tstC_br (fun hb5 => ?_) (fun hb5 => ?_)
    · replace hh := ite_t hb5 hh
      cases hh
      try simp only [x_cmp_Compare, seval, -Int.reduceToNat, hr1, hr2]
    · replace hh := ite_f hb5 hh
      try simp only [x_cmp_Compare, seval, -Int.reduceToNat, hr1, hr2]
      refine tstC_br (fun hb6 => ?_) (fun hb6 => ?_)
      · replace hh := ite_t hb6 hh
        cases hh
        try simp only [x_cmp_Compare, seval, -Int.reduceToNat, hr1, hr2]
      · replace hh := ite_f hb6 hh
        try simp only [x_cmp_Compare, seval, -Int.reduceToNat, hr1, hr2]
        refine tstC_br (fun hb7 => ?_) (fun hb7 => ?_)
        · replace hh := ite_t hb7 hh
          cases hh
          try simp only [x_cmp_Compare, seval, -Int.reduceToNat, hr1, hr2]
        · replace hh := ite_f hb7 hh
          cases hh
          try simp only [x_cmp_Compare, seval, -Int.reduceToNat, hr1, hr2]

theorem ok_cmp_Compare : COk Try.prog 103 G_cmp_Compare := COk.of (mode := .clean) tok ge_cmp_Compare mixed Try.func103 (by kernel_rfl) ⟨by kernel_rfl, by kernel_rfl⟩ (fun _ => Nat.le_of_ble_eq_true (by kernel_rfl)) (fun x r h => m_cmp_Compare x.1 x.2 r h)

noncomputable def G_big_compare := mkG (asC (aSl (eI .i64)) (as1 (aSl (eI .i64)))) (fun x : (List Int) × (List Int) => big_compare x.1 x.2) (fun r : Int => .clean (.int .i64 r))

theorem q_big_compare (p0 : (List Int)) (p1 : (List Int)) : G_big_compare none [.sl false false p0.length (encL (eI .i64) p0), .sl false false p1.length (encL (eI .i64) p1)] = (big_compare p0 p1).map fun r : Int => (.clean (.int .i64 r), none) := mkG_eq _ _ _ (p0, p1)

noncomputable def g_big_compare : Env := (Am.ext noEnv 103 false G_cmp_Compare)

theorem ge_big_compare : GOk Try.prog g_big_compare := (GOk.none.add ok_cmp_Compare false)

theorem gg_big_compare : g_big_compare = (Am.ext noEnv 103 false G_cmp_Compare) := Eq.trans rfl rfl

theorem x_big_compare : type_of% (And.intro @w <| And.intro @q_cmp_Compare <| @gg_big_compare) := And.intro @w <| And.intro @q_cmp_Compare <| @gg_big_compare

theorem m_big_compare (p0 : (List Int)) (p1 : (List Int)) (r : Int) (hh : big_compare p0 p1 = some r) : vfunc .clean tab g_big_compare FU Try.f97 none [.sl false false p0.length (encL (eI .i64) p0), .sl false false p1.length (encL (eI .i64) p1)] = some (.clean (.int .i64 r), none) := by
  refine vfunc_of rfl Try.ntmps97 Try.results97 ?_
  unfold big_compare at hh
  try simp only [x_big_compare, seval, -Int.reduceToNat]
  refine tstC_br (fun hb1 => ?_) (fun hb1 => ?_)
  · replace hh := ite_t hb1 hh
    obtain ⟨r2, hr2, hh⟩ := bindS hh
    cases hh
    try simp only [x_big_compare, seval, -Int.reduceToNat, hr2]
  · replace hh := ite_f hb1 hh
    try simp only [x_big_compare, seval, -Int.reduceToNat]
    obtain ⟨o8, ho8, hh⟩ := bindS hh
    refine runLoop_sim (fun s t H e => match s with | s5a => t 0 = .sl false false p0.length (encL (eI .i64) p0) ∧ t 1 = .sl false false p1.length (encL (eI .i64) p1) ∧ t 5 = .int .i64 s5a) (fun o x t H e => match o with | (.inl _) => x = .exit 0 | (.inr r) => x = .ret ∧ endM .clean tab none [.tmp 4] ⟨t, H, e⟩ = some (.clean (.int .i64 r), none)) ho8 ?_ ?_ ?_
    ·
      refine ⟨?_, ?_, ?_⟩
      all_goals (first | rfl | (simp only [x_big_compare, seval, -Int.reduceToNat] <;> rfl))
    · rintro s5a t H e ⟨t0a, t1a, t5a⟩ c hh
      simp only [big_compare_L1] at hh
      try simp only [x_big_compare, seval, -Int.reduceToNat, t0a, t1a, t5a]
      refine tstC_br (fun hb9 => ?_) (fun hb9 => ?_)
      · replace hh := ite_t hb9 hh
        obtain ⟨x10, hx10, hh⟩ := bindS hh
        have bx10 := idx_bd hx10
        have ax10 := idx_enc (eI .i64) hx10
        have fx10 := idx_fit (eI .i64) hx10
        simp only [vmz] at ax10 fx10
        skip
        obtain ⟨x11, hx11, hh⟩ := bindS hh
        have bx11 := idx_bd hx11
        have ax11 := idx_enc (eI .i64) hx11
        have fx11 := idx_fit (eI .i64) hx11
        simp only [vmz] at ax11 fx11
        skip
        try simp only [x_big_compare, seval, -Int.reduceToNat, t0a, t1a, t5a, bx10, ax10, fx10, bx11, ax11, fx11]
        refine dyn_ok (by kernel_rfl) ?_
        try simp only [x_big_compare, seval, -Int.reduceToNat, t0a, t1a, t5a, bx10, ax10, fx10, bx11, ax11, fx11]
        refine tstC_br (fun hb12 => ?_) (fun hb12 => ?_)
        · replace hh := ite_t hb12 hh
          have bx10 := idx_bd hx10
          have ax10 := idx_enc (eI .i64) hx10
          have fx10 := idx_fit (eI .i64) hx10
          simp only [vmz] at ax10 fx10
          skip
          have bx11 := idx_bd hx11
          have ax11 := idx_enc (eI .i64) hx11
          have fx11 := idx_fit (eI .i64) hx11
          simp only [vmz] at ax11 fx11
          skip
          obtain ⟨r13, hr13, hh⟩ := bindS hh
          try simp only [x_big_compare, seval, -Int.reduceToNat, t0a, t1a, t5a, bx10, ax10, fx10, bx11, ax11, fx11, bx10, ax10, fx10, bx11, ax11, fx11, hr13]
          refine dyn_ok (by kernel_rfl) ?_
          cases hh
          try simp only [x_big_compare, seval, -Int.reduceToNat, t0a, t1a, t5a, bx10, ax10, fx10, bx11, ax11, fx11, bx10, ax10, fx10, bx11, ax11, fx11, hr13]
          rw [LK_ret]
          refine ⟨_, rfl, ?_⟩
          refine ⟨rfl, ?_⟩
          try simp only [x_big_compare, seval, -Int.reduceToNat, t0a, t1a, t5a, bx10, ax10, fx10, bx11, ax11, fx11, bx10, ax10, fx10, bx11, ax11, fx11, hr13]
        · replace hh := ite_f hb12 hh
          cases hh
          try simp only [x_big_compare, seval, -Int.reduceToNat, t0a, t1a, t5a, bx10, ax10, fx10, bx11, ax11, fx11]
          rw [LK_normal]
          refine ⟨_, rfl, ?_⟩
          refine ⟨?_, ?_, ?_⟩
          all_goals (first | rfl | (simp only [x_big_compare, seval, -Int.reduceToNat, t0a, t1a, t5a, bx10, ax10, fx10, bx11, ax11, fx11] <;> rfl))
      · replace hh := ite_f hb9 hh
        cases hh
        try simp only [x_big_compare, seval, -Int.reduceToNat, t0a, t1a, t5a]
        rw [LK_exit]
        refine ⟨_, rfl, ?_⟩
        exact rfl
    · rintro x t H e hx
      rcases o8 with _ | ra
      ·
        dsimp only at hx hh
        subst hx
        cases hh
        try simp only [x_big_compare, seval, -Int.reduceToNat]
      ·
        dsimp only at hx hh
        obtain ⟨rfl, hE⟩ := hx
        cases hh
        try simp only [runW_pass_ret, runW_pass_exit, runW_blk_ret, runW_nil, endW_ret]
        exact hE

theorem ok_big_compare : COk Try.prog 97 G_big_compare := COk.of (mode := .clean) tok ge_big_compare mixed Try.func97 (by kernel_rfl) ⟨by kernel_rfl, by kernel_rfl⟩ (fun _ => Nat.le_of_ble_eq_true (by kernel_rfl)) (fun x r h => m_big_compare x.1 x.2 r h)

noncomputable def G_big_trim := mkG (as1 (aSl (eI .i64))) (fun x : (List Int) => big_trim x) (fun r : (List Int) => .clean (.sl false false r.length (encL (eI .i64) r)))

theorem q_big_trim (p0 : (List Int)) : G_big_trim none [.sl false false p0.length (encL (eI .i64) p0)] = (big_trim p0).map fun r : (List Int) => (.clean (.sl false false r.length (encL (eI .i64) r)), none) := mkG_eq _ _ _ (p0)

theorem m_big_trim (p0 : (List Int)) (r : (List Int)) (hh : big_trim p0 = some r) : vfunc .clean tab noEnv FU Try.f115 none [.sl false false p0.length (encL (eI .i64) p0)] = some (.clean (.sl false false r.length (encL (eI .i64) r)), none) := by
  refine vfunc_of rfl Try.ntmps115 Try.results115 ?_
  unfold big_trim at hh
  try simp only [w, seval, -Int.reduceToNat]
  obtain ⟨o4, ho4, hh⟩ := bindS hh
  refine runLoop_sim (fun s t H e => match s with | s3a => t 0 = .sl false false p0.length (encL (eI .i64) p0) ∧ t 3 = .int .i64 s3a) (fun o x t H e => match o with | s3ax => x = .exit 0 ∧ t 0 = .sl false false p0.length (encL (eI .i64) p0) ∧ t 3 = .int .i64 s3ax) ho4 ?_ ?_ ?_
  ·
    refine ⟨?_, ?_⟩
    all_goals (first | rfl | (simp only [w, seval, -Int.reduceToNat] <;> rfl))
  · rintro s3a t H e ⟨t0a, t3a⟩ c hh
    simp only [big_trim_L1] at hh
    try simp only [w, seval, -Int.reduceToNat, t0a, t3a]
    refine tstO_br (fun hb5 => ?_) (fun hb5 => ?_)
    · replace hh := ite_t hb5 hh
      obtain ⟨x6, hx6, hh⟩ := bindS hh
      have bx6 := idx_bd hx6
      have ax6 := idx_enc (eI .i64) hx6
      have fx6 := idx_fit (eI .i64) hx6
      simp only [vmz] at ax6 fx6
      skip
      try simp only [w, seval, -Int.reduceToNat, t0a, t3a, bx6, ax6, fx6]
      refine tstC_br (fun hb7 => ?_) (fun hb7 => ?_)
      · replace hh := ite_t hb7 hh
        cases hh
        try simp only [w, seval, -Int.reduceToNat, t0a, t3a, bx6, ax6, fx6]
        rw [LK_normal]
        refine ⟨_, rfl, ?_⟩
        refine ⟨?_, ?_⟩
        all_goals (first | rfl | (simp only [w, seval, -Int.reduceToNat, t0a, t3a, bx6, ax6, fx6] <;> rfl))
      · replace hh := ite_f hb7 hh
        cases hh
        try simp only [w, seval, -Int.reduceToNat, t0a, t3a, bx6, ax6, fx6]
        rw [LK_exit]
        refine ⟨_, rfl, ?_⟩
        refine ⟨rfl, ⟨?_, ?_⟩⟩
        all_goals (first | rfl | (simp only [w, seval, -Int.reduceToNat, t0a, t3a, bx6, ax6, fx6] <;> rfl))
    · replace hh := ite_f hb5 hh
      cases hh
      try simp only [w, seval, -Int.reduceToNat, t0a, t3a]
      rw [LK_exit]
      refine ⟨_, rfl, ?_⟩
      refine ⟨rfl, ⟨?_, ?_⟩⟩
      all_goals (first | rfl | (simp only [w, seval, -Int.reduceToNat, t0a, t3a] <;> rfl))
  · rintro x t H e hx
    obtain ⟨s3ax, rfl⟩ : ∃ z, z = o4 := ⟨_, rfl⟩
    dsimp only at hx hh
    obtain ⟨rfl, ⟨t0ax, t3ax⟩⟩ := hx
    obtain ⟨x8, hx8, hh⟩ := bindS hh
    obtain ⟨q9a, q9b, q9c, q9d, q9e⟩ := slc_nh (eI .i64) hx8
    simp only [vmz] at q9e
    cases hh
    try simp only [w, seval, -Int.reduceToNat, t0ax, t3ax, q9a, q9b, q9c, q9d, q9e]

theorem ok_big_trim : COk Try.prog 115 G_big_trim := COk.of (mode := .clean) tok GOk.none mixed Try.func115 (by kernel_rfl) ⟨by kernel_rfl, by kernel_rfl⟩ (fun _ => Nat.le_of_ble_eq_true (by kernel_rfl)) (fun x r h => m_big_trim x r h)

noncomputable def G_big_trim_w := mkE 3 (eI .i64) (as0) (fun (l : (List Int)) (x : Unit) => big_trim l)

theorem q_big_trim_w (pre post : List D) (p0 : (List Int)) : G_big_trim_w (some (.buf 0 0 1 pre.length p0.length, ⟨0, 3, pre ++ (encL (eI .i64) p0 ++ post), false, true⟩)) [] = (big_trim p0).map fun r => (.fresh 3 1 r.length (encL (eI .i64) r), none) := mkE_eq _ _ _ _ pre post p0 ()

theorem m_big_trim_w (pre post : List D) (p0 : (List Int)) (r : (List Int)) (hh : big_trim p0 = some r) : vfunc (.fresh 3 1) tab noEnv FU Try.f115 (some (.buf 0 0 1 pre.length p0.length, ⟨0, 3, pre ++ (encL (eI .i64) p0 ++ post), false, true⟩)) [] = some (.fresh 3 1 r.length (encL (eI .i64) r), none) := by
  refine vfunc_lent rfl Try.ntmps115 Try.results115 ?_
  unfold big_trim at hh
  try simp only [w, seval, -Int.reduceToNat]
  obtain ⟨o4, ho4, hh⟩ := bindS hh
  refine runLoop_sim (fun s t H e => match s with | s3a => ∃ v0a : Nat, t 0 = .buf 0 v0a 1 pre.length (p0).length ∧ t 3 = .int .i64 s3a ∧ H 0 = some ⟨v0a, 3, pre ++ (encL (eI .i64) p0 ++ post), false, true⟩) (fun o x t H e => match o with | s3ax => x = .exit 0 ∧ ∃ v0ax : Nat, t 0 = .buf 0 v0ax 1 pre.length (p0).length ∧ t 3 = .int .i64 s3ax ∧ H 0 = some ⟨v0ax, 3, pre ++ (encL (eI .i64) p0 ++ post), false, true⟩) ho4 ?_ ?_ ?_
  ·
    refine ⟨0, ?_, ?_, ?_⟩
    all_goals (first | rfl | (simp only [w, seval, -Int.reduceToNat] <;> rfl))
  · rintro s3a t H e ⟨v0a, t0a, t3a, H0a⟩ c hh
    simp only [big_trim_L1] at hh
    try simp only [w, seval, -Int.reduceToNat, t0a, t3a, H0a]
    refine tstO_br (fun hb5 => ?_) (fun hb5 => ?_)
    · replace hh := ite_t hb5 hh
      obtain ⟨x6, hx6, hh⟩ := bindS hh
      have bx6 := idx_bd hx6
      have ax6 := idxW_enc (pre := pre) (post := post) (eI .i64) hx6
      have fx6 := idxW_fit (pre := pre) (post := post) (eI .i64) hx6
      simp only [vmz] at ax6 fx6
      skip
      try simp only [w, seval, -Int.reduceToNat, t0a, t3a, H0a, bx6, ax6, fx6]
      refine tstC_br (fun hb7 => ?_) (fun hb7 => ?_)
      · replace hh := ite_t hb7 hh
        cases hh
        try simp only [w, seval, -Int.reduceToNat, t0a, t3a, H0a, bx6, ax6, fx6]
        rw [LK_normal]
        refine ⟨_, rfl, ?_⟩
        refine ⟨v0a, ?_, ?_, ?_⟩
        all_goals (first | rfl | (simp only [w, seval, -Int.reduceToNat, t0a, t3a, H0a, bx6, ax6, fx6] <;> rfl))
      · replace hh := ite_f hb7 hh
        cases hh
        try simp only [w, seval, -Int.reduceToNat, t0a, t3a, H0a, bx6, ax6, fx6]
        rw [LK_exit]
        refine ⟨_, rfl, ?_⟩
        refine ⟨rfl, ⟨v0a, ?_, ?_, ?_⟩⟩
        all_goals (first | rfl | (simp only [w, seval, -Int.reduceToNat, t0a, t3a, H0a, bx6, ax6, fx6] <;> rfl))
    · replace hh := ite_f hb5 hh
      cases hh
      try simp only [w, seval, -Int.reduceToNat, t0a, t3a, H0a]
      rw [LK_exit]
      refine ⟨_, rfl, ?_⟩
      refine ⟨rfl, ⟨v0a, ?_, ?_, ?_⟩⟩
      all_goals (first | rfl | (simp only [w, seval, -Int.reduceToNat, t0a, t3a, H0a] <;> rfl))
  · rintro x t H e hx
    obtain ⟨s3ax, rfl⟩ : ∃ z, z = o4 := ⟨_, rfl⟩
    dsimp only at hx hh
    obtain ⟨rfl, ⟨v0ax, t0ax, t3ax, H0ax⟩⟩ := hx
    obtain ⟨x8, hx8, hh⟩ := bindS hh
    obtain ⟨q9a, q9b, q9c, q9d, q9e⟩ := slc_nh (eI .i64) hx8
    simp only [vmz] at q9e
    skip
    obtain ⟨q9f, q9g⟩ := slcW_nh (pre := pre) (post := post) (eI .i64) hx8
    simp only [vmz] at q9f q9g
    cases hh
    try simp only [w, seval, -Int.reduceToNat, t0ax, t3ax, H0ax, q9a, q9b, q9c, q9f, q9g, q9d]

theorem ok_big_trim_w : COk Try.prog 115 G_big_trim_w := COk.lentE tok GOk.none mixed Try.func115 (by kernel_rfl) ⟨by kernel_rfl, by kernel_rfl⟩ (fun _ => Nat.le_of_ble_eq_true (by kernel_rfl)) (fun pre post l x r h => m_big_trim_w pre post l r h)

noncomputable def G_big_short := mkG (asC (aSl (eI .i64)) (as1 (aI .i64))) (fun x : (List Int) × Int => big_short x.1 x.2) (fun r : (List Int) × Int => .clean (.tup [.sl false false r.1.length (encL (eI .i64) r.1), .int .i64 r.2]))

theorem q_big_short (p0 : (List Int)) (p1 : Int) : G_big_short none [.sl false false p0.length (encL (eI .i64) p0), .int .i64 p1] = (big_short p0 p1).map fun r : (List Int) × Int => (.clean (.tup [.sl false false r.1.length (encL (eI .i64) r.1), .int .i64 r.2]), none) := mkG_eq _ _ _ (p0, p1)

noncomputable def g_big_short : Env := (Am.ext noEnv 115 false G_big_trim)

theorem ge_big_short : GOk Try.prog g_big_short := (GOk.none.add ok_big_trim false)

theorem gg_big_short : g_big_short = (Am.ext noEnv 115 false G_big_trim) := Eq.trans rfl rfl

theorem x_big_short : type_of% (And.intro @w <| And.intro @q_big_trim <| @gg_big_short) := And.intro @w <| And.intro @q_big_trim <| @gg_big_short

theorem m_big_short (p0 : (List Int)) (p1 : Int) (r : (List Int) × Int) (hh : big_short p0 p1 = some r) : vfunc .clean tab g_big_short FU Try.f116 none [.sl false false p0.length (encL (eI .i64) p0), .int .i64 p1] = some (.clean (.tup [.sl false false r.1.length (encL (eI .i64) r.1), .int .i64 r.2]), none) := by
  refine vfunc_of rfl Try.ntmps116 Try.results116 ?_
  unfold big_short at hh
  obtain ⟨x1, hx1, hh⟩ := bindS hh
  obtain ⟨q2a, q2b, q2c, q2d, q2e⟩ := mk_one (eI .i64) hx1
  simp only [vmz] at q2d
  try simp only [x_big_short, seval, -Int.reduceToNat, q2a, q2b, q2c, q2d, q2e]
  obtain ⟨o13, ho13, hh⟩ := bindS hh
  refine runLoop_sim (fun s t H e => match s with | (s7a, s8a, l6a) => ∃ v6a : Nat, t 0 = .sl false false p0.length (encL (eI .i64) p0) ∧ t 1 = .int .i64 p1 ∧ t 6 = .buf 6 v6a 1 0 (l6a).length ∧ t 7 = .int .i64 s7a ∧ t 8 = .int .i64 s8a ∧ H 6 = some ⟨v6a, 3, encL (eI .i64) l6a, false, true⟩) (fun o x t H e => match o with | (s7ax, l6ax) => x = .exit 0 ∧ ∃ v6ax : Nat, t 6 = .buf 6 v6ax 1 0 (l6ax).length ∧ t 7 = .int .i64 s7ax ∧ H 6 = some ⟨v6ax, 3, encL (eI .i64) l6ax, false, true⟩) ho13 ?_ ?_ ?_
  ·
    refine ⟨1, ?_, ?_, ?_, ?_, ?_, ?_⟩
    all_goals (first | rfl | (simp only [x_big_short, seval, -Int.reduceToNat, q2a, q2b, q2c, q2d, q2e] <;> rfl))
  · rintro ⟨s7a, s8a, l6a⟩ t H e ⟨v6a, t0a, t1a, t6a, t7a, t8a, H6a⟩ c hh
    simp only [big_short_L1] at hh
    try simp only [x_big_short, seval, -Int.reduceToNat, q2a, q2b, q2c, q2d, q2e, t0a, t1a, t6a, t7a, t8a, H6a]
    refine tstC_br (fun hb14 => ?_) (fun hb14 => ?_)
    · replace hh := ite_t hb14 hh
      obtain ⟨x15, hx15, hh⟩ := bindS hh
      obtain ⟨q16a, q16b⟩ := shlI_ok hx15
      obtain ⟨x17, hx17, hh⟩ := bindS hh
      have bx17 := idx_bd hx17
      have ax17 := idx_enc (eI .i64) hx17
      have fx17 := idx_fit (eI .i64) hx17
      simp only [vmz] at ax17 fx17
      skip
      obtain ⟨x18, hx18, hh⟩ := bindS hh
      obtain ⟨q19a, q19b⟩ := divI_ok hx18
      obtain ⟨x20, hx20, hh⟩ := bindS hh
      have bx20 := idx_bd hx20
      have ax20 := idx_enc (eI .i64) hx20
      have fx20 := idx_fit (eI .i64) hx20
      simp only [vmz] at ax20 fx20
      skip
      have p21 := put_enc (eI .i64) (x' := x18) (fo := 0) (cs := [.int .i64 x18]) hx20 rfl (Nat.le_of_ble_eq_true rfl)
      simp only [vmz, Nat.add_zero] at p21
      have up21 := p21
      simp only [putCells, List.length_cons, List.length_nil, Nat.zero_add, Nat.reduceAdd] at up21
      obtain ⟨x22, hx22, hh⟩ := bindS hh
      obtain ⟨q23a, q23b⟩ := modI_ok hx22
      cases hh
      try simp only [x_big_short, seval, -Int.reduceToNat, q2a, q2b, q2c, q2d, q2e, t0a, t1a, t6a, t7a, t8a, H6a, q16a, q16b, bx17, ax17, fx17, q19a, q19b, bx20, ax20, fx20, p21, up21, q23a, q23b]
      rw [LK_normal]
      refine ⟨_, rfl, ?_⟩
      refine ⟨v6a, ?_, ?_, ?_, ?_, ?_, ?_⟩
      all_goals (first | rfl | (simp only [x_big_short, seval, -Int.reduceToNat, q2a, q2b, q2c, q2d, q2e, t0a, t1a, t6a, t7a, t8a, H6a, q16a, q16b, bx17, ax17, fx17, q19a, q19b, bx20, ax20, fx20, p21, up21, q23a, q23b] <;> rfl))
    · replace hh := ite_f hb14 hh
      cases hh
      try simp only [x_big_short, seval, -Int.reduceToNat, q2a, q2b, q2c, q2d, q2e, t0a, t1a, t6a, t7a, t8a, H6a]
      rw [LK_exit]
      refine ⟨_, rfl, ?_⟩
      refine ⟨rfl, ⟨v6a, ?_, ?_, ?_⟩⟩
      all_goals (first | rfl | (simp only [x_big_short, seval, -Int.reduceToNat, q2a, q2b, q2c, q2d, q2e, t0a, t1a, t6a, t7a, t8a, H6a] <;> rfl))
  · rintro x t H e hx
    rcases o13 with ⟨s7ax, l6ax⟩
    dsimp only at hx hh
    obtain ⟨rfl, ⟨v6ax, t6ax, t7ax, H6ax⟩⟩ := hx
    obtain ⟨r24, hr24, hh⟩ := bindS hh
    cases hh
    try simp only [x_big_short, seval, -Int.reduceToNat, q2a, q2b, q2c, q2d, q2e, t6ax, t7ax, H6ax, hr24]

theorem ok_big_short : COk Try.prog 116 G_big_short := COk.of (mode := .clean) tok ge_big_short mixed Try.func116 (by kernel_rfl) ⟨by kernel_rfl, by kernel_rfl⟩ (fun _ => Nat.le_of_ble_eq_true (by kernel_rfl)) (fun x r h => m_big_short x.1 x.2 r h)

noncomputable def G_big_mul := mkG (asC (aSl (eI .i64)) (as1 (aSl (eI .i64)))) (fun x : (List Int) × (List Int) => big_mul x.1 x.2) (fun r : (List Int) => .fresh 3 1 r.length (encL (eI .i64) r))

theorem q_big_mul (p0 : (List Int)) (p1 : (List Int)) : G_big_mul none [.sl false false p0.length (encL (eI .i64) p0), .sl false false p1.length (encL (eI .i64) p1)] = (big_mul p0 p1).map fun r : (List Int) => (.fresh 3 1 r.length (encL (eI .i64) r), none) := mkG_eq _ _ _ (p0, p1)

noncomputable def g_big_mul : Env := (Am.ext noEnv 115 true G_big_trim_w)

theorem ge_big_mul : GOk Try.prog g_big_mul := (GOk.none.add ok_big_trim_w true)

theorem gg_big_mul : g_big_mul = (Am.ext noEnv 115 true G_big_trim_w) := Eq.trans rfl rfl

theorem x_big_mul : type_of% (And.intro @w <| @gg_big_mul) := And.intro @w <| @gg_big_mul

theorem m_big_mul (p0 : (List Int)) (p1 : (List Int)) (r : (List Int)) (hh : big_mul p0 p1 = some r) : vfunc (.fresh 3 1) tab g_big_mul FU Try.f117 none [.sl false false p0.length (encL (eI .i64) p0), .sl false false p1.length (encL (eI .i64) p1)] = some (.fresh 3 1 r.length (encL (eI .i64) r), none) := by
  refine vfunc_of rfl Try.ntmps117 Try.results117 ?_
  unfold big_mul at hh
  obtain ⟨x1, hx1, hh⟩ := bindS hh
  obtain ⟨q2a, q2b, q2c, q2d, q2e⟩ := mk_one (eI .i64) hx1
  simp only [vmz] at q2d
  try simp only [x_big_mul, seval, -Int.reduceToNat, q2a, q2b, q2c, q2d, q2e]
  obtain ⟨o20, ho20, hh⟩ := bindS hh
  refine runLoop_sim (fun s t H e => match s with | (s20a, l5a) => ∃ v5a : Nat, t 1 = .sl false false p1.length (encL (eI .i64) p1) ∧ t 5 = .buf 5 v5a 1 0 (l5a).length ∧ t 18 = .sl false false p0.length (encL (eI .i64) p0) ∧ t 19 = .int .i64 (p0.length : Int) ∧ t 20 = .int .i64 s20a ∧ H 5 = some ⟨v5a, 3, encL (eI .i64) l5a, false, true⟩) (fun o x t H e => match o with | l5ax => x = .exit 0 ∧ ∃ v5ax : Nat, t 5 = .buf 5 v5ax 1 0 (l5ax).length ∧ H 5 = some ⟨v5ax, 3, encL (eI .i64) l5ax, false, true⟩) ho20 ?_ ?_ ?_
  ·
    refine ⟨1, ?_, ?_, ?_, ?_, ?_, ?_⟩
    all_goals (first | rfl | (simp only [x_big_mul, seval, -Int.reduceToNat, q2a, q2b, q2c, q2d, q2e] <;> rfl))
  · rintro ⟨s20a, l5a⟩ t H e ⟨v5a, t1a, t5a, t18a, t19a, t20a, H5a⟩ c hh
    simp only [big_mul_L1] at hh
    try simp only [x_big_mul, seval, -Int.reduceToNat, q2a, q2b, q2c, q2d, q2e, t1a, t5a, t18a, t19a, t20a, H5a]
    refine tstC_br (fun hb21 => ?_) (fun hb21 => ?_)
    · replace hh := ite_t hb21 hh
      obtain ⟨x22, hx22, hh⟩ := bindS hh
      have bx22 := idx_bd hx22
      have ax22 := idx_enc (eI .i64) hx22
      have fx22 := idx_fit (eI .i64) hx22
      simp only [vmz] at ax22 fx22
      skip
      try simp only [x_big_mul, seval, -Int.reduceToNat, q2a, q2b, q2c, q2d, q2e, t1a, t5a, t18a, t19a, t20a, H5a, bx22, ax22, fx22]
      obtain ⟨o29, ho29, hh⟩ := bindS hh
      refine runLoop_sim (fun s t H e => match s with | (s8c, s27c, l5c) => ∃ v5c : Nat, t 1 = .sl false false p1.length (encL (eI .i64) p1) ∧ t 5 = .buf 5 v5c 1 0 (l5c).length ∧ t 6 = .int .i64 s20a ∧ t 7 = .int .i64 x22 ∧ t 8 = .int .i64 s8c ∧ t 18 = .sl false false p0.length (encL (eI .i64) p0) ∧ t 19 = .int .i64 (p0.length : Int) ∧ t 20 = .int .i64 s20a ∧ t 25 = .sl false false p1.length (encL (eI .i64) p1) ∧ t 26 = .int .i64 (p1.length : Int) ∧ t 27 = .int .i64 s27c ∧ H 5 = some ⟨v5c, 3, encL (eI .i64) l5c, false, true⟩) (fun o x t H e => match o with | (s8cx, l5cx) => x = .exit 2 ∧ ∃ v5cx : Nat, t 1 = .sl false false p1.length (encL (eI .i64) p1) ∧ t 5 = .buf 5 v5cx 1 0 (l5cx).length ∧ t 6 = .int .i64 s20a ∧ t 8 = .int .i64 s8cx ∧ t 18 = .sl false false p0.length (encL (eI .i64) p0) ∧ t 19 = .int .i64 (p0.length : Int) ∧ t 20 = .int .i64 s20a ∧ H 5 = some ⟨v5cx, 3, encL (eI .i64) l5cx, false, true⟩) ho29 ?_ ?_ ?_
      ·
        refine ⟨v5a, ?_, ?_, ?_, ?_, ?_, ?_, ?_, ?_, ?_, ?_, ?_, ?_⟩
        all_goals (first | rfl | (simp only [x_big_mul, seval, -Int.reduceToNat, q2a, q2b, q2c, q2d, q2e, t1a, t5a, t18a, t19a, t20a, H5a, bx22, ax22, fx22] <;> rfl))
      · rintro ⟨s8c, s27c, l5c⟩ t H e ⟨v5c, t1c, t5c, t6c, t7c, t8c, t18c, t19c, t20c, t25c, t26c, t27c, H5c⟩ c hh
        simp only [big_mul_L3] at hh
        try simp only [x_big_mul, seval, -Int.reduceToNat, q2a, q2b, q2c, q2d, q2e, bx22, ax22, fx22, t1c, t5c, t6c, t7c, t8c, t18c, t19c, t20c, t25c, t26c, t27c, H5c]
        refine tstC_br (fun hb30 => ?_) (fun hb30 => ?_)
        · replace hh := ite_t hb30 hh
          obtain ⟨x31, hx31, hh⟩ := bindS hh
          have bx31 := idx_bd hx31
          have ax31 := idx_enc (eI .i64) hx31
          have fx31 := idx_fit (eI .i64) hx31
          simp only [vmz] at ax31 fx31
          skip
          obtain ⟨x32, hx32, hh⟩ := bindS hh
          have bx32 := idx_bd hx32
          have ax32 := idx_enc (eI .i64) hx32
          have fx32 := idx_fit (eI .i64) hx32
          simp only [vmz] at ax32 fx32
          skip
          obtain ⟨x33, hx33, hh⟩ := bindS hh
          obtain ⟨q34a, q34b⟩ := shrI_ok hx33
          have bx32 := idx_bd hx32
          have ax32 := idx_enc (eI .i64) hx32
          have fx32 := idx_fit (eI .i64) hx32
          simp only [vmz] at ax32 fx32
          skip
          have p35 := put_enc (eI .i64) (x' := bitI .and .i64 (IntKind.i64.wrap ((IntKind.i64.wrap (x32 + (IntKind.i64.wrap (x22 * x31)))) + s8c)) 1048575) (fo := 0) (cs := [.int .i64 (bitI .and .i64 (IntKind.i64.wrap ((IntKind.i64.wrap (x32 + (IntKind.i64.wrap (x22 * x31)))) + s8c)) 1048575)]) hx32 rfl (Nat.le_of_ble_eq_true rfl)
          simp only [vmz, Nat.add_zero] at p35
          have up35 := p35
          simp only [putCells, List.length_cons, List.length_nil, Nat.zero_add, Nat.reduceAdd] at up35
          cases hh
          try simp only [x_big_mul, seval, -Int.reduceToNat, q2a, q2b, q2c, q2d, q2e, bx22, ax22, fx22, t1c, t5c, t6c, t7c, t8c, t18c, t19c, t20c, t25c, t26c, t27c, H5c, bx31, ax31, fx31, bx32, ax32, fx32, q34a, q34b, bx32, ax32, fx32, p35, up35]
          rw [LK_normal]
          refine ⟨_, rfl, ?_⟩
          refine ⟨v5c, ?_, ?_, ?_, ?_, ?_, ?_, ?_, ?_, ?_, ?_, ?_, ?_⟩
          all_goals (first | rfl | (simp only [x_big_mul, seval, -Int.reduceToNat, q2a, q2b, q2c, q2d, q2e, bx22, ax22, fx22, t1c, t5c, t6c, t7c, t8c, t18c, t19c, t20c, t25c, t26c, t27c, H5c, bx31, ax31, fx31, bx32, ax32, fx32, q34a, q34b, bx32, ax32, fx32, p35, up35] <;> rfl))
        · replace hh := ite_f hb30 hh
          cases hh
          try simp only [x_big_mul, seval, -Int.reduceToNat, q2a, q2b, q2c, q2d, q2e, bx22, ax22, fx22, t1c, t5c, t6c, t7c, t8c, t18c, t19c, t20c, t25c, t26c, t27c, H5c]
          rw [LK_exit]
          refine ⟨_, rfl, ?_⟩
          refine ⟨rfl, ⟨v5c, ?_, ?_, ?_, ?_, ?_, ?_, ?_, ?_⟩⟩
          all_goals (first | rfl | (simp only [x_big_mul, seval, -Int.reduceToNat, q2a, q2b, q2c, q2d, q2e, bx22, ax22, fx22, t1c, t5c, t6c, t7c, t8c, t18c, t19c, t20c, t25c, t26c, t27c, H5c] <;> rfl))
      · rintro x t H e hx
        rcases o29 with ⟨s8cx, l5cx⟩
        dsimp only at hx hh
        obtain ⟨rfl, ⟨v5cx, t1cx, t5cx, t6cx, t8cx, t18cx, t19cx, t20cx, H5cx⟩⟩ := hx
        obtain ⟨x36, hx36, hh⟩ := bindS hh
        have bx36 := idx_bd hx36
        have ax36 := idx_enc (eI .i64) hx36
        have fx36 := idx_fit (eI .i64) hx36
        simp only [vmz] at ax36 fx36
        skip
        have bx36 := idx_bd hx36
        have ax36 := idx_enc (eI .i64) hx36
        have fx36 := idx_fit (eI .i64) hx36
        simp only [vmz] at ax36 fx36
        skip
        have p37 := put_enc (eI .i64) (x' := IntKind.i64.wrap (x36 + s8cx)) (fo := 0) (cs := [.int .i64 (IntKind.i64.wrap (x36 + s8cx))]) hx36 rfl (Nat.le_of_ble_eq_true rfl)
        simp only [vmz, Nat.add_zero] at p37
        have up37 := p37
        simp only [putCells, List.length_cons, List.length_nil, Nat.zero_add, Nat.reduceAdd] at up37
        cases hh
        try simp only [x_big_mul, seval, -Int.reduceToNat, q2a, q2b, q2c, q2d, q2e, bx22, ax22, fx22, t1cx, t5cx, t6cx, t8cx, t18cx, t19cx, t20cx, H5cx, bx36, ax36, fx36, bx36, ax36, fx36, p37, up37]
        rw [LK_normal]
        refine ⟨_, rfl, ?_⟩
        refine ⟨v5cx, ?_, ?_, ?_, ?_, ?_, ?_⟩
        all_goals (first | rfl | (simp only [x_big_mul, seval, -Int.reduceToNat, q2a, q2b, q2c, q2d, q2e, bx22, ax22, fx22, t1cx, t5cx, t6cx, t8cx, t18cx, t19cx, t20cx, H5cx, bx36, ax36, fx36, bx36, ax36, fx36, p37, up37] <;> rfl))
    · replace hh := ite_f hb21 hh
      cases hh
      try simp only [x_big_mul, seval, -Int.reduceToNat, q2a, q2b, q2c, q2d, q2e, t1a, t5a, t18a, t19a, t20a, H5a]
      rw [LK_exit]
      refine ⟨_, rfl, ?_⟩
      refine ⟨rfl, ⟨v5a, ?_, ?_⟩⟩
      all_goals (first | rfl | (simp only [x_big_mul, seval, -Int.reduceToNat, q2a, q2b, q2c, q2d, q2e, t1a, t5a, t18a, t19a, t20a, H5a] <;> rfl))
  · rintro x t H e hx
    obtain ⟨l5ax, rfl⟩ : ∃ z, z = o20 := ⟨_, rfl⟩
    dsimp only at hx hh
    obtain ⟨rfl, ⟨v5ax, t5ax, H5ax⟩⟩ := hx
    have i38 := q_big_trim_w [] [] l5ax
    simp only [List.nil_append, List.append_nil, List.length_nil, encL_cons, List.length_set, vmz] at i38
    obtain ⟨r39, hr39, hh⟩ := bindS hh
    cases hh
    try simp only [x_big_mul, seval, -Int.reduceToNat, q2a, q2b, q2c, q2d, q2e, t5ax, H5ax, i38, hr39]

theorem ok_big_mul : COk Try.prog 117 G_big_mul := COk.of (mode := (.fresh 3 1)) tok ge_big_mul mixed Try.func117 (by kernel_rfl) ⟨by kernel_rfl, by kernel_rfl⟩ (fun _ => Nat.le_of_ble_eq_true (by kernel_rfl)) (fun x r h => m_big_mul x.1 x.2 r h)
end Go.Proofs.Ytoclpeomlofcjaa.Am
