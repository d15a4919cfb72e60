/- The machine computes the plain functions (written by wip/dec.py). -/
import Derived.Test.YtadpbhbkdnfbpaaTab2
import Derived.Test.YtadpbhbkdnfbpaaCh
import Derived.Test.YtadpbhbkdnfbpaaDp
namespace Go.Proofs.Ytadpbhbkdnfbpaa.Am
open Go.RowKit Go.Proofs.Ytadpbhbkdnfbpaa.P
set_option maxRecDepth 100000
set_option maxHeartbeats 4000000
set_option linter.unusedSimpArgs false
set_option linter.unusedVariables false

theorem vmt : type_of% (And.intro @tab_2 <| And.intro @tab_3 <| And.intro @tab_4 <| And.intro @tab_5 <| And.intro @tab_9 <| And.intro @tab_12 <| And.intro @tab_21 <| And.intro @tab_22 <| And.intro @tab_23 <| And.intro @tab_24 <| And.intro @tab_25 <| And.intro @tab_26 <| And.intro @tab_27 <| And.intro @tab_28 <| And.intro @tab_32 <| And.intro @tab_52 <| And.intro @tab_53 <| And.intro @tab_60 <| And.intro @tab_73 <| And.intro @tab_75 <| And.intro @tab_93 <| @tab_99) := And.intro @tab_2 <| And.intro @tab_3 <| And.intro @tab_4 <| And.intro @tab_5 <| And.intro @tab_9 <| And.intro @tab_12 <| And.intro @tab_21 <| And.intro @tab_22 <| And.intro @tab_23 <| And.intro @tab_24 <| And.intro @tab_25 <| And.intro @tab_26 <| And.intro @tab_27 <| And.intro @tab_28 <| And.intro @tab_32 <| And.intro @tab_52 <| And.intro @tab_53 <| And.intro @tab_60 <| And.intro @tab_73 <| And.intro @tab_75 <| And.intro @tab_93 <| @tab_99

def eTBig : Enc TBig := eVia (ePair (eI .i64) (eSl (eI .i64))) (fun x => (x.f_Sign, x.f_Digits)) (by rintro ⟨⟩ ⟨⟩ h; simpa using h)

theorem eTBig_cells (x : TBig) : eTBig.cells x = [.int .i64 x.f_Sign, .sl false false x.f_Digits.length (encL (eI .i64) x.f_Digits)] := Eq.trans rfl rfl

theorem eTBig_size : eTBig.size = 2 := Eq.trans rfl rfl

theorem eta_TBig (x : TBig) : TBig.mk x.f_Sign x.f_Digits = x := Eq.trans rfl rfl

def eTFrac : Enc TFrac := eVia (ePair eTBig eTBig) (fun x => (x.f_P, x.f_Q)) (by rintro ⟨⟩ ⟨⟩ h; simpa using h)

theorem eTFrac_cells (x : TFrac) : eTFrac.cells x = [.int .i64 x.f_P.f_Sign, .sl false false x.f_P.f_Digits.length (encL (eI .i64) x.f_P.f_Digits), .int .i64 x.f_Q.f_Sign, .sl false false x.f_Q.f_Digits.length (encL (eI .i64) x.f_Q.f_Digits)] := Eq.trans rfl rfl

theorem eTFrac_size : eTFrac.size = 4 := Eq.trans rfl rfl

theorem eta_TFrac (x : TFrac) : TFrac.mk x.f_P x.f_Q = x := Eq.trans rfl rfl

def eTgoal : Enc Tgoal := eVia (ePair (eSl eTFrac) eTFrac) (fun x => (x.f_values, x.f_target)) (by rintro ⟨⟩ ⟨⟩ h; simpa using h)

theorem eTgoal_cells (x : Tgoal) : eTgoal.cells x = [.sl false false x.f_values.length (encL eTFrac x.f_values), .int .i64 x.f_target.f_P.f_Sign, .sl false false x.f_target.f_P.f_Digits.length (encL (eI .i64) x.f_target.f_P.f_Digits), .int .i64 x.f_target.f_Q.f_Sign, .sl false false x.f_target.f_Q.f_Digits.length (encL (eI .i64) x.f_target.f_Q.f_Digits)] := Eq.trans rfl rfl

theorem eTgoal_size : eTgoal.size = 5 := Eq.trans rfl rfl

theorem eta_Tgoal (x : Tgoal) : Tgoal.mk x.f_values x.f_target = x := Eq.trans rfl rfl

theorem lenE0 {l : List _} : (encL (eI .i64) l).length = l.length * 1 := encL_len _ l

theorem takeE0 {l : List _} : (encL (eI .i64) l).take (l.length * 1) = encL (eI .i64) l := by
  have := encL_take (eI .i64) l l.length
  rw [List.take_length] at this
  exact this

theorem takeS0 {l : List _} {i : Nat} {x : _} : (encL (eI .i64) (l.set i x)).take (l.length * 1) = encL (eI .i64) (l.set i x) := by
  have := @takeE0 (l.set i x)
  rwa [List.length_set] at this

theorem lenE1 {l : List _} : (encL (eSl (eI .i64)) l).length = l.length * 1 := encL_len _ l

theorem takeE1 {l : List _} : (encL (eSl (eI .i64)) l).take (l.length * 1) = encL (eSl (eI .i64)) l := by
  have := encL_take (eSl (eI .i64)) l l.length
  rw [List.take_length] at this
  exact this

theorem takeS1 {l : List _} {i : Nat} {x : _} : (encL (eSl (eI .i64)) (l.set i x)).take (l.length * 1) = encL (eSl (eI .i64)) (l.set i x) := by
  have := @takeE1 (l.set i x)
  rwa [List.length_set] at this

theorem lenE2 {l : List _} : (encL eTFrac l).length = l.length * 4 := encL_len _ l

theorem takeE2 {l : List _} : (encL eTFrac l).take (l.length * 4) = encL eTFrac l := by
  have := encL_take eTFrac l l.length
  rw [List.take_length] at this
  exact this

theorem takeS2 {l : List _} {i : Nat} {x : _} : (encL eTFrac (l.set i x)).take (l.length * 4) = encL eTFrac (l.set i x) := by
  have := @takeE2 (l.set i x)
  rwa [List.length_set] at this

theorem vme : type_of% (And.intro @eI_cells <| And.intro @eBool_cells <| And.intro @eStr_cells <| And.intro @eSl_cells <| And.intro @eI_size <| And.intro @eBool_size <| And.intro @eStr_size <| And.intro @eSl_size <| And.intro @encL_nil <| And.intro @eTBig_cells <| And.intro @eTBig_size <| And.intro @eTFrac_cells <| And.intro @eTFrac_size <| And.intro @eTgoal_cells <| @eTgoal_size) := And.intro @eI_cells <| And.intro @eBool_cells <| And.intro @eStr_cells <| And.intro @eSl_cells <| And.intro @eI_size <| And.intro @eBool_size <| And.intro @eStr_size <| And.intro @eSl_size <| And.intro @encL_nil <| And.intro @eTBig_cells <| And.intro @eTBig_size <| And.intro @eTFrac_cells <| And.intro @eTFrac_size <| And.intro @eTgoal_cells <| @eTgoal_size

theorem vml : type_of% (And.intro @encL_cons <| And.intro @eta_TBig <| And.intro @eta_TFrac <| And.intro @eta_Tgoal <| And.intro @lenE0 <| And.intro @takeE0 <| And.intro @takeS0 <| And.intro @lenE1 <| And.intro @takeE1 <| And.intro @takeS1 <| And.intro @lenE2 <| And.intro @takeE2 <| @takeS2) := And.intro @encL_cons <| And.intro @eta_TBig <| And.intro @eta_TFrac <| And.intro @eta_Tgoal <| And.intro @lenE0 <| And.intro @takeE0 <| And.intro @takeS0 <| And.intro @lenE1 <| And.intro @takeE1 <| And.intro @takeS1 <| And.intro @lenE2 <| And.intro @takeE2 <| @takeS2

theorem w : type_of% (And.intro @v <| And.intro @vmt <| And.intro @vme <| @vml) := And.intro @v <| And.intro @vmt <| And.intro @vme <| @vml

theorem vmz : type_of% (And.intro @vme <| And.intro @List.cons_append.{0} <| And.intro @List.nil_append.{0} <| And.intro @List.length_nil.{0} <| And.intro @List.drop_succ_cons.{0} <| @List.drop_zero.{0}) := And.intro @vme <| And.intro @List.cons_append.{0} <| And.intro @List.nil_append.{0} <| And.intro @List.length_nil.{0} <| And.intro @List.drop_succ_cons.{0} <| @List.drop_zero.{0}

noncomputable def G_big_trim := mkG (as1 (aSl (eI .i64))) (fun x : (List Int) => big_trim x) (fun r : (List Int) => .clean (.sl false false r.length (encL (eI .i64) r)))

theorem q_big_trim (p0 : (List Int)) : G_big_trim none [.sl false false p0.length (encL (eI .i64) p0)] = (big_trim p0).map fun r : (List Int) => (.clean (.sl false false r.length (encL (eI .i64) r)), none) := mkG_eq _ _ _ (p0)

theorem m_big_trim (p0 : (List Int)) (r : (List Int)) (hh : big_trim p0 = some r) : vfunc .clean tab noEnv FU Try.f76 none [.sl false false p0.length (encL (eI .i64) p0)] = some (.clean (.sl false false r.length (encL (eI .i64) r)), none) := by
  refine vfunc_of rfl Try.ntmps76 Try.results76 ?_
  unfold big_trim at hh
  try simp only [w, seval, -Int.reduceToNat]
  obtain ⟨o4, ho4, hh⟩ := bindS hh
  refine runLoop_sim (fun s t H e => match s with | s3a => t 0 = .sl false false p0.length (encL (eI .i64) p0) ∧ t 3 = .int .i64 s3a) (fun o x t H e => match o with | s3ax => x = .exit 0 ∧ t 0 = .sl false false p0.length (encL (eI .i64) p0) ∧ t 3 = .int .i64 s3ax) ho4 ?_ ?_ ?_
  ·
    refine ⟨?_, ?_⟩
    all_goals (first | rfl | (simp only [w, seval, -Int.reduceToNat] <;> rfl))
  · rintro s3a t H e ⟨t0a, t3a⟩ c hh
    simp only [big_trim_L1] at hh
    try simp only [w, seval, -Int.reduceToNat, t0a, t3a]
    refine tstO_br (fun hb5 => ?_) (fun hb5 => ?_)
    · replace hh := ite_t hb5 hh
      obtain ⟨x6, hx6, hh⟩ := bindS hh
      have bx6 := idx_bd hx6
      have ax6 := idx_enc (eI .i64) hx6
      have fx6 := idx_fit (eI .i64) hx6
      simp only [vmz] at ax6 fx6
      skip
      try simp only [w, seval, -Int.reduceToNat, t0a, t3a, bx6, ax6, fx6]
      refine tstC_br (fun hb7 => ?_) (fun hb7 => ?_)
      · replace hh := ite_t hb7 hh
        cases hh
        try simp only [w, seval, -Int.reduceToNat, t0a, t3a, bx6, ax6, fx6]
        rw [LK_normal]
        refine ⟨_, rfl, ?_⟩
        refine ⟨?_, ?_⟩
        all_goals (first | rfl | (simp only [w, seval, -Int.reduceToNat, t0a, t3a, bx6, ax6, fx6] <;> rfl))
      · replace hh := ite_f hb7 hh
        cases hh
        try simp only [w, seval, -Int.reduceToNat, t0a, t3a, bx6, ax6, fx6]
        rw [LK_exit]
        refine ⟨_, rfl, ?_⟩
        refine ⟨rfl, ⟨?_, ?_⟩⟩
        all_goals (first | rfl | (simp only [w, seval, -Int.reduceToNat, t0a, t3a, bx6, ax6, fx6] <;> rfl))
    · replace hh := ite_f hb5 hh
      cases hh
      try simp only [w, seval, -Int.reduceToNat, t0a, t3a]
      rw [LK_exit]
      refine ⟨_, rfl, ?_⟩
      refine ⟨rfl, ⟨?_, ?_⟩⟩
      all_goals (first | rfl | (simp only [w, seval, -Int.reduceToNat, t0a, t3a] <;> rfl))
  · rintro x t H e hx
    obtain ⟨s3ax, rfl⟩ : ∃ z, z = o4 := ⟨_, rfl⟩
    dsimp only at hx hh
    obtain ⟨rfl, ⟨t0ax, t3ax⟩⟩ := hx
    obtain ⟨x8, hx8, hh⟩ := bindS hh
    obtain ⟨q9a, q9b, q9c, q9d, q9e⟩ := slc_nh (eI .i64) hx8
    simp only [vmz] at q9e
    cases hh
    try simp only [w, seval, -Int.reduceToNat, t0ax, t3ax, q9a, q9b, q9c, q9d, q9e]

theorem ok_big_trim : COk Try.prog 76 G_big_trim := COk.of (mode := .clean) tok GOk.none mixed Try.func76 (by kernel_rfl) ⟨by kernel_rfl, by kernel_rfl⟩ (fun _ => Nat.le_of_ble_eq_true (by kernel_rfl)) (fun x r h => m_big_trim x r h)

noncomputable def G_big_trim_w := mkE 3 (eI .i64) (as0) (fun (l : (List Int)) (x : Unit) => big_trim l)

theorem q_big_trim_w (pre post : List D) (p0 : (List Int)) : G_big_trim_w (some (.buf 0 0 1 pre.length p0.length, ⟨0, 3, pre ++ (encL (eI .i64) p0 ++ post), false, true⟩)) [] = (big_trim p0).map fun r => (.fresh 3 1 r.length (encL (eI .i64) r), none) := mkE_eq _ _ _ _ pre post p0 ()

theorem m_big_trim_w (pre post : List D) (p0 : (List Int)) (r : (List Int)) (hh : big_trim p0 = some r) : vfunc (.fresh 3 1) tab noEnv FU Try.f76 (some (.buf 0 0 1 pre.length p0.length, ⟨0, 3, pre ++ (encL (eI .i64) p0 ++ post), false, true⟩)) [] = some (.fresh 3 1 r.length (encL (eI .i64) r), none) := by
  refine vfunc_lent rfl Try.ntmps76 Try.results76 ?_
  unfold big_trim at hh
  try simp only [w, seval, -Int.reduceToNat]
  obtain ⟨o4, ho4, hh⟩ := bindS hh
  refine runLoop_sim (fun s t H e => match s with | s3a => ∃ v0a : Nat, t 0 = .buf 0 v0a 1 pre.length (p0).length ∧ t 3 = .int .i64 s3a ∧ H 0 = some ⟨v0a, 3, pre ++ (encL (eI .i64) p0 ++ post), false, true⟩) (fun o x t H e => match o with | s3ax => x = .exit 0 ∧ ∃ v0ax : Nat, t 0 = .buf 0 v0ax 1 pre.length (p0).length ∧ t 3 = .int .i64 s3ax ∧ H 0 = some ⟨v0ax, 3, pre ++ (encL (eI .i64) p0 ++ post), false, true⟩) ho4 ?_ ?_ ?_
  ·
    refine ⟨0, ?_, ?_, ?_⟩
    all_goals (first | rfl | (simp only [w, seval, -Int.reduceToNat] <;> rfl))
  · rintro s3a t H e ⟨v0a, t0a, t3a, H0a⟩ c hh
    simp only [big_trim_L1] at hh
    try simp only [w, seval, -Int.reduceToNat, t0a, t3a, H0a]
    refine tstO_br (fun hb5 => ?_) (fun hb5 => ?_)
    · replace hh := ite_t hb5 hh
      obtain ⟨x6, hx6, hh⟩ := bindS hh
      have bx6 := idx_bd hx6
      have ax6 := idxW_enc (pre := pre) (post := post) (eI .i64) hx6
      have fx6 := idxW_fit (pre := pre) (post := post) (eI .i64) hx6
      simp only [vmz] at ax6 fx6
      skip
      try simp only [w, seval, -Int.reduceToNat, t0a, t3a, H0a, bx6, ax6, fx6]
      refine tstC_br (fun hb7 => ?_) (fun hb7 => ?_)
      · replace hh := ite_t hb7 hh
        cases hh
        try simp only [w, seval, -Int.reduceToNat, t0a, t3a, H0a, bx6, ax6, fx6]
        rw [LK_normal]
        refine ⟨_, rfl, ?_⟩
        refine ⟨v0a, ?_, ?_, ?_⟩
        all_goals (first | rfl | (simp only [w, seval, -Int.reduceToNat, t0a, t3a, H0a, bx6, ax6, fx6] <;> rfl))
      · replace hh := ite_f hb7 hh
        cases hh
        try simp only [w, seval, -Int.reduceToNat, t0a, t3a, H0a, bx6, ax6, fx6]
        rw [LK_exit]
        refine ⟨_, rfl, ?_⟩
        refine ⟨rfl, ⟨v0a, ?_, ?_, ?_⟩⟩
        all_goals (first | rfl | (simp only [w, seval, -Int.reduceToNat, t0a, t3a, H0a, bx6, ax6, fx6] <;> rfl))
    · replace hh := ite_f hb5 hh
      cases hh
      try simp only [w, seval, -Int.reduceToNat, t0a, t3a, H0a]
      rw [LK_exit]
      refine ⟨_, rfl, ?_⟩
      refine ⟨rfl, ⟨v0a, ?_, ?_, ?_⟩⟩
      all_goals (first | rfl | (simp only [w, seval, -Int.reduceToNat, t0a, t3a, H0a] <;> rfl))
  · rintro x t H e hx
    obtain ⟨s3ax, rfl⟩ : ∃ z, z = o4 := ⟨_, rfl⟩
    dsimp only at hx hh
    obtain ⟨rfl, ⟨v0ax, t0ax, t3ax, H0ax⟩⟩ := hx
    obtain ⟨x8, hx8, hh⟩ := bindS hh
    obtain ⟨q9a, q9b, q9c, q9d, q9e⟩ := slc_nh (eI .i64) hx8
    simp only [vmz] at q9e
    skip
    obtain ⟨q9f, q9g⟩ := slcW_nh (pre := pre) (post := post) (eI .i64) hx8
    simp only [vmz] at q9f q9g
    cases hh
    try simp only [w, seval, -Int.reduceToNat, t0ax, t3ax, H0ax, q9a, q9b, q9c, q9f, q9g, q9d]

theorem ok_big_trim_w : COk Try.prog 76 G_big_trim_w := COk.lentE tok GOk.none mixed Try.func76 (by kernel_rfl) ⟨by kernel_rfl, by kernel_rfl⟩ (fun _ => Nat.le_of_ble_eq_true (by kernel_rfl)) (fun pre post l x r h => m_big_trim_w pre post l r h)

noncomputable def G_big_signed := mkG (asC (aI .i64) (as1 (aSl (eI .i64)))) (fun x : Int × (List Int) => big_signed x.1 x.2) (fun r : TBig => .clean (.agg [.int .i64 r.f_Sign, .sl false false r.f_Digits.length (encL (eI .i64) r.f_Digits)]))

theorem q_big_signed (p0 : Int) (p1 : (List Int)) : G_big_signed none [.int .i64 p0, .sl false false p1.length (encL (eI .i64) p1)] = (big_signed p0 p1).map fun r : TBig => (.clean (.agg [.int .i64 r.f_Sign, .sl false false r.f_Digits.length (encL (eI .i64) r.f_Digits)]), none) := mkG_eq _ _ _ (p0, p1)

noncomputable def g_big_signed : Env := (Am.ext noEnv 76 false G_big_trim)

theorem ge_big_signed : GOk Try.prog g_big_signed := (GOk.none.add ok_big_trim false)

theorem gg_big_signed : g_big_signed = (Am.ext noEnv 76 false G_big_trim) := Eq.trans rfl rfl

theorem x_big_signed : type_of% (And.intro @w <| And.intro @q_big_trim <| @gg_big_signed) := And.intro @w <| And.intro @q_big_trim <| @gg_big_signed

theorem m_big_signed (p0 : Int) (p1 : (List Int)) (r : TBig) (hh : big_signed p0 p1 = some r) : vfunc .clean tab g_big_signed FU Try.f62 none [.int .i64 p0, .sl false false p1.length (encL (eI .i64) p1)] = some (.clean (.agg [.int .i64 r.f_Sign, .sl false false r.f_Digits.length (encL (eI .i64) r.f_Digits)]), none) := by
  refine vfunc_of rfl Try.ntmps62 Try.results62 ?_
  unfold big_signed at hh
  obtain ⟨r1, hr1, hh⟩ := bindS hh
  try simp only [x_big_signed, seval, -Int.reduceToNat, hr1]
  refine tstC_br (fun hb2 => ?_) (fun hb2 => ?_)
  · replace hh := ite_t hb2 hh
    cases hh
    try simp only [x_big_signed, seval, -Int.reduceToNat, hr1]
  · replace hh := ite_f hb2 hh
    cases hh
    try simp only [x_big_signed, seval, -Int.reduceToNat, hr1]

theorem ok_big_signed : COk Try.prog 62 G_big_signed := COk.of (mode := .clean) tok ge_big_signed mixed Try.func62 (by kernel_rfl) ⟨by kernel_rfl, by kernel_rfl⟩ (fun _ => Nat.le_of_ble_eq_true (by kernel_rfl)) (fun x r h => m_big_signed x.1 x.2 r h)

noncomputable def G_big_Of := mkG (as1 (aI .i64)) (fun x : Int => big_Of x) (fun r : TBig => .clean (.agg [.int .i64 r.f_Sign, .sl false false r.f_Digits.length (encL (eI .i64) r.f_Digits)]))

theorem q_big_Of (p0 : Int) : G_big_Of none [.int .i64 p0] = (big_Of p0).map fun r : TBig => (.clean (.agg [.int .i64 r.f_Sign, .sl false false r.f_Digits.length (encL (eI .i64) r.f_Digits)]), none) := mkG_eq _ _ _ (p0)

noncomputable def g_big_Of : Env := (Am.ext noEnv 62 false G_big_signed)

theorem ge_big_Of : GOk Try.prog g_big_Of := (GOk.none.add ok_big_signed false)

theorem gg_big_Of : g_big_Of = (Am.ext noEnv 62 false G_big_signed) := Eq.trans rfl rfl

theorem x_big_Of : type_of% (And.intro @w <| And.intro @q_big_signed <| @gg_big_Of) := And.intro @w <| And.intro @q_big_signed <| @gg_big_Of

theorem m_big_Of (p0 : Int) (r : TBig) (hh : big_Of p0 = some r) : vfunc .clean tab g_big_Of FU Try.f47 none [.int .i64 p0] = some (.clean (.agg [.int .i64 r.f_Sign, .sl false false r.f_Digits.length (encL (eI .i64) r.f_Digits)]), none) := by
  refine vfunc_of rfl Try.ntmps47 Try.results47 ?_
  unfold big_Of at hh
  try simp only [x_big_Of, seval, -Int.reduceToNat]
  obtain ⟨o1, ho1, hh⟩ := bindS hh
  refine tstC_cut 0 (fun s t H e => match s with | (s3j1, s4j1) => ∃ v2j1 : Nat, t 2 = .ptr 2 v2j1 0 ∧ t 3 = .int .i64 s3j1 ∧ t 4 = .int .u64 s4j1 ∧ H 2 = some ⟨v2j1, 25, [.int .i64 0, .sl true true 0 []], false, false⟩) (fun s => s = o1) ?_ ?_
  · rintro ⟨s3j1, s4j1⟩ t H e ⟨v2j1, t2j1, t3j1, t4j1, H2j1⟩ rfl
    try dsimp only at hh
    try simp only [x_big_Of, seval, -Int.reduceToNat, t2j1, t3j1, t4j1, H2j1]
    obtain ⟨o7, ho7, hh⟩ := bindS hh
    refine runLoop_sim (fun s t H e => match s with | (s4b, l5b) => ∃ v2b : Nat, ∃ v5b : Nat, t 2 = .ptr 2 v2b 0 ∧ t 3 = .int .i64 s3j1 ∧ t 4 = .int .u64 s4b ∧ t 5 = .buf 5 v5b 1 0 (l5b).length ∧ H 2 = some ⟨v2b, 25, [.int .i64 0, .sl true true 0 []], false, false⟩ ∧ H 5 = some ⟨v5b, 3, encL (eI .i64) l5b, false, true⟩) (fun o x t H e => match o with | l5bx => x = .exit 0 ∧ ∃ v2bx : Nat, ∃ v5bx : Nat, t 2 = .ptr 2 v2bx 0 ∧ t 3 = .int .i64 s3j1 ∧ t 5 = .buf 5 v5bx 1 0 (l5bx).length ∧ H 2 = some ⟨v2bx, 25, [.int .i64 0, .sl true true 0 []], false, false⟩ ∧ H 5 = some ⟨v5bx, 3, encL (eI .i64) l5bx, false, true⟩) ho7 ?_ ?_ ?_
    ·
      refine ⟨v2j1, e, ?_, ?_, ?_, ?_, ?_, ?_⟩
      all_goals (first | rfl | (simp only [x_big_Of, seval, -Int.reduceToNat, t2j1, t3j1, t4j1, H2j1] <;> rfl))
    · rintro ⟨s4b, l5b⟩ t H e ⟨v2b, v5b, t2b, t3b, t4b, t5b, H2b, H5b⟩ c hh
      simp only [big_Of_L2] at hh
      try simp only [x_big_Of, seval, -Int.reduceToNat, t2b, t3b, t4b, t5b, H2b, H5b]
      refine tstC_br (fun hb8 => ?_) (fun hb8 => ?_)
      · replace hh := ite_t hb8 hh
        obtain ⟨x9, hx9, hh⟩ := bindS hh
        obtain ⟨q10a, q10b, q10c, q10d⟩ := app_one (eI .i64) hx9
        simp only [vmz] at q10b
        obtain ⟨x11, hx11, hh⟩ := bindS hh
        obtain ⟨q12a, q12b⟩ := shrI_ok hx11
        cases hh
        try simp only [x_big_Of, seval, -Int.reduceToNat, t2b, t3b, t4b, t5b, H2b, H5b, q10a, q10b, q10c, q10d, q12a, q12b]
        rw [LK_normal]
        refine ⟨_, rfl, ?_⟩
        refine ⟨v2b, e + 1, ?_, ?_, ?_, ?_, ?_, ?_⟩
        all_goals (first | rfl | (simp only [x_big_Of, seval, -Int.reduceToNat, t2b, t3b, t4b, t5b, H2b, H5b, q10a, q10b, q10c, q10d, q12a, q12b] <;> rfl))
      · replace hh := ite_f hb8 hh
        cases hh
        try simp only [x_big_Of, seval, -Int.reduceToNat, t2b, t3b, t4b, t5b, H2b, H5b]
        rw [LK_exit]
        refine ⟨_, rfl, ?_⟩
        refine ⟨rfl, ⟨v2b, v5b, ?_, ?_, ?_, ?_, ?_⟩⟩
        all_goals (first | rfl | (simp only [x_big_Of, seval, -Int.reduceToNat, t2b, t3b, t4b, t5b, H2b, H5b] <;> rfl))
    · rintro x t H e hx
      obtain ⟨l5bx, rfl⟩ : ∃ z, z = o7 := ⟨_, rfl⟩
      dsimp only at hx hh
      obtain ⟨rfl, ⟨v2bx, v5bx, t2bx, t3bx, t5bx, H2bx, H5bx⟩⟩ := hx
      obtain ⟨r13, hr13, hh⟩ := bindS hh
      cases hh
      try simp only [x_big_Of, seval, -Int.reduceToNat, t2bx, t3bx, t5bx, H2bx, H5bx, hr13]
  ·
    clear hh
    have hh := ho1
    try simp only [x_big_Of, seval, -Int.reduceToNat]
    refine tstC_br (fun hb14 => ?_) (fun hb14 => ?_)
    · replace hh := ite_t hb14 hh
      cases hh
      try simp only [x_big_Of, seval, -Int.reduceToNat]
      rw [CK_normal]
      refine ⟨_, rfl, ?_⟩
      refine ⟨0, ?_, ?_, ?_, ?_⟩
      all_goals (first | rfl | (simp only [x_big_Of, seval, -Int.reduceToNat] <;> rfl))
    · replace hh := ite_f hb14 hh
      cases hh
      try simp only [x_big_Of, seval, -Int.reduceToNat]
      rw [CK_normal]
      refine ⟨_, rfl, ?_⟩
      refine ⟨0, ?_, ?_, ?_, ?_⟩
      all_goals (first | rfl | (simp only [x_big_Of, seval, -Int.reduceToNat] <;> rfl))

theorem ok_big_Of : COk Try.prog 47 G_big_Of := COk.of (mode := .clean) tok ge_big_Of mixed Try.func47 (by kernel_rfl) ⟨by kernel_rfl, by kernel_rfl⟩ (fun _ => Nat.le_of_ble_eq_true (by kernel_rfl)) (fun x r h => m_big_Of x r h)

noncomputable def G_frac_Int := mkG (as1 (aI .i64)) (fun x : Int => frac_Int x) (fun r : TFrac => .clean (.agg [.int .i64 r.f_P.f_Sign, .sl false false r.f_P.f_Digits.length (encL (eI .i64) r.f_P.f_Digits), .int .i64 r.f_Q.f_Sign, .sl false false r.f_Q.f_Digits.length (encL (eI .i64) r.f_Q.f_Digits)]))

theorem q_frac_Int (p0 : Int) : G_frac_Int none [.int .i64 p0] = (frac_Int p0).map fun r : TFrac => (.clean (.agg [.int .i64 r.f_P.f_Sign, .sl false false r.f_P.f_Digits.length (encL (eI .i64) r.f_P.f_Digits), .int .i64 r.f_Q.f_Sign, .sl false false r.f_Q.f_Digits.length (encL (eI .i64) r.f_Q.f_Digits)]), none) := mkG_eq _ _ _ (p0)

noncomputable def g_frac_Int : Env := (Am.ext noEnv 47 false G_big_Of)

theorem ge_frac_Int : GOk Try.prog g_frac_Int := (GOk.none.add ok_big_Of false)

theorem gg_frac_Int : g_frac_Int = (Am.ext noEnv 47 false G_big_Of) := Eq.trans rfl rfl

theorem x_frac_Int : type_of% (And.intro @w <| And.intro @q_big_Of <| @gg_frac_Int) := And.intro @w <| And.intro @q_big_Of <| @gg_frac_Int

theorem m_frac_Int (p0 : Int) (r : TFrac) (hh : frac_Int p0 = some r) : vfunc .clean tab g_frac_Int FU Try.f27 none [.int .i64 p0] = some (.clean (.agg [.int .i64 r.f_P.f_Sign, .sl false false r.f_P.f_Digits.length (encL (eI .i64) r.f_P.f_Digits), .int .i64 r.f_Q.f_Sign, .sl false false r.f_Q.f_Digits.length (encL (eI .i64) r.f_Q.f_Digits)]), none) := by
  refine vfunc_of rfl Try.ntmps27 Try.results27 ?_
  unfold frac_Int at hh
  obtain ⟨r1, hr1, hh⟩ := bindS hh
  obtain ⟨r2, hr2, hh⟩ := bindS hh
  cases hh
  try simp only [x_frac_Int, seval, -Int.reduceToNat, hr1, hr2]

theorem ok_frac_Int : COk Try.prog 27 G_frac_Int := COk.of (mode := .clean) tok ge_frac_Int mixed Try.func27 (by kernel_rfl) ⟨by kernel_rfl, by kernel_rfl⟩ (fun _ => Nat.le_of_ble_eq_true (by kernel_rfl)) (fun x r h => m_frac_Int x r h)

noncomputable def G_math_bits_Len32 := mkG (as1 (aI .u32)) (fun x : Int => math_bits_Len32 x) (fun r : Int => .clean (.int .i64 r))

theorem q_math_bits_Len32 (p0 : Int) : G_math_bits_Len32 none [.int .u32 p0] = (math_bits_Len32 p0).map fun r : Int => (.clean (.int .i64 r), none) := mkG_eq _ _ _ (p0)

theorem m_math_bits_Len32 (p0 : Int) (r : Int) (hh : math_bits_Len32 p0 = some r) : vfunc .clean tab noEnv FU Try.f56 none [.int .u32 p0] = some (.clean (.int .i64 r), none) := by
  refine vfunc_of rfl Try.ntmps56 Try.results56 ?_
  unfold math_bits_Len32 at hh
  try simp only [w, seval, -Int.reduceToNat]
  obtain ⟨o1, ho1, hh⟩ := bindS hh
  refine tstC_cut 0 (fun s t H e => match s with | (s0j1, s2j1) => t 0 = .int .u32 s0j1 ∧ t 2 = .int .i64 s2j1) (fun s => s = o1) ?_ ?_
  · rintro ⟨s0j1, s2j1⟩ t H e ⟨t0j1, t2j1⟩ rfl
    try dsimp only at hh
    try simp only [w, seval, -Int.reduceToNat, t0j1, t2j1]
    refine tstC_br (fun hb2 => ?_) (fun hb2 => ?_)
    · replace hh := ite_t hb2 hh
      obtain ⟨x3, hx3, hh⟩ := bindS hh
      obtain ⟨q4a, q4b⟩ := shrI_ok hx3
      try simp only [w, seval, -Int.reduceToNat, t0j1, t2j1, q4a, q4b]
      obtain ⟨x5, hx5, hh⟩ := bindS hh
      obtain ⟨q6a, q6b, q6c, q6d⟩ := sidx_ok hx5
      try simp only [w, seval, -Int.reduceToNat, t0j1, t2j1, q4a, q4b, q6a, q6d]
      erw [q6c]
      cases hh
      try simp only [w, seval, -Int.reduceToNat, t0j1, t2j1, q4a, q4b, q6a, q6d]
    · replace hh := ite_f hb2 hh
      try simp only [w, seval, -Int.reduceToNat, t0j1, t2j1]
      obtain ⟨x7, hx7, hh⟩ := bindS hh
      obtain ⟨q8a, q8b, q8c, q8d⟩ := sidx_ok hx7
      try simp only [w, seval, -Int.reduceToNat, t0j1, t2j1, q8a, q8d]
      erw [q8c]
      cases hh
      try simp only [w, seval, -Int.reduceToNat, t0j1, t2j1, q8a, q8d]
  ·
    clear hh
    have hh := ho1
    try simp only [w, seval, -Int.reduceToNat]
    refine tstC_br (fun hb9 => ?_) (fun hb9 => ?_)
    · replace hh := ite_t hb9 hh
      obtain ⟨x10, hx10, hh⟩ := bindS hh
      obtain ⟨q11a, q11b⟩ := shrI_ok hx10
      cases hh
      try simp only [w, seval, -Int.reduceToNat, q11a, q11b]
      rw [CK_normal]
      refine ⟨_, rfl, ?_⟩
      refine ⟨?_, ?_⟩
      all_goals (first | rfl | (simp only [w, seval, -Int.reduceToNat, q11a, q11b] <;> rfl))
    · replace hh := ite_f hb9 hh
      cases hh
      try simp only [w, seval, -Int.reduceToNat]
      rw [CK_normal]
      refine ⟨_, rfl, ?_⟩
      refine ⟨?_, ?_⟩
      all_goals (first | rfl | (simp only [w, seval, -Int.reduceToNat] <;> rfl))

theorem ok_math_bits_Len32 : COk Try.prog 56 G_math_bits_Len32 := COk.of (mode := .clean) tok GOk.none mixed Try.func56 (by kernel_rfl) ⟨by kernel_rfl, by kernel_rfl⟩ (fun _ => Nat.le_of_ble_eq_true (by kernel_rfl)) (fun x r h => m_math_bits_Len32 x r h)

noncomputable def G_math_bits_Len64 := mkG (as1 (aI .u64)) (fun x : Int => math_bits_Len64 x) (fun r : Int => .clean (.int .i64 r))

theorem q_math_bits_Len64 (p0 : Int) : G_math_bits_Len64 none [.int .u64 p0] = (math_bits_Len64 p0).map fun r : Int => (.clean (.int .i64 r), none) := mkG_eq _ _ _ (p0)

theorem m_math_bits_Len64 (p0 : Int) (r : Int) (hh : math_bits_Len64 p0 = some r) : vfunc .clean tab noEnv FU Try.f57 none [.int .u64 p0] = some (.clean (.int .i64 r), none) := by
  refine vfunc_of rfl Try.ntmps57 Try.results57 ?_
  unfold math_bits_Len64 at hh
  try simp only [w, seval, -Int.reduceToNat]
  obtain ⟨o1, ho1, hh⟩ := bindS hh
  refine tstC_cut 0 (fun s t H e => match s with | (s0j1, s2j1) => t 0 = .int .u64 s0j1 ∧ t 2 = .int .i64 s2j1) (fun s => s = o1) ?_ ?_
  · rintro ⟨s0j1, s2j1⟩ t H e ⟨t0j1, t2j1⟩ rfl
    try dsimp only at hh
    try simp only [w, seval, -Int.reduceToNat, t0j1, t2j1]
    obtain ⟨o2, ho2, hh⟩ := bindS hh
    refine tstC_cut 0 (fun s t H e => match s with | (s0j2, s2j2) => t 0 = .int .u64 s0j2 ∧ t 2 = .int .i64 s2j2) (fun s => s = o2) ?_ ?_
    · rintro ⟨s0j2, s2j2⟩ t H e ⟨t0j2, t2j2⟩ rfl
      try dsimp only at hh
      try simp only [w, seval, -Int.reduceToNat, t0j2, t2j2]
      refine tstC_br (fun hb3 => ?_) (fun hb3 => ?_)
      · replace hh := ite_t hb3 hh
        obtain ⟨x4, hx4, hh⟩ := bindS hh
        obtain ⟨q5a, q5b⟩ := shrI_ok hx4
        try simp only [w, seval, -Int.reduceToNat, t0j2, t2j2, q5a, q5b]
        obtain ⟨x6, hx6, hh⟩ := bindS hh
        obtain ⟨q7a, q7b, q7c, q7d⟩ := sidx_ok hx6
        try simp only [w, seval, -Int.reduceToNat, t0j2, t2j2, q5a, q5b, q7a, q7d]
        erw [q7c]
        cases hh
        try simp only [w, seval, -Int.reduceToNat, t0j2, t2j2, q5a, q5b, q7a, q7d]
      · replace hh := ite_f hb3 hh
        try simp only [w, seval, -Int.reduceToNat, t0j2, t2j2]
        obtain ⟨x8, hx8, hh⟩ := bindS hh
        obtain ⟨q9a, q9b, q9c, q9d⟩ := sidx_ok hx8
        try simp only [w, seval, -Int.reduceToNat, t0j2, t2j2, q9a, q9d]
        erw [q9c]
        cases hh
        try simp only [w, seval, -Int.reduceToNat, t0j2, t2j2, q9a, q9d]
    ·
      clear hh
      have hh := ho2
      try simp only [w, seval, -Int.reduceToNat, t0j1, t2j1]
      refine tstC_br (fun hb10 => ?_) (fun hb10 => ?_)
      · replace hh := ite_t hb10 hh
        obtain ⟨x11, hx11, hh⟩ := bindS hh
        obtain ⟨q12a, q12b⟩ := shrI_ok hx11
        cases hh
        try simp only [w, seval, -Int.reduceToNat, t0j1, t2j1, q12a, q12b]
        rw [CK_normal]
        refine ⟨_, rfl, ?_⟩
        refine ⟨?_, ?_⟩
        all_goals (first | rfl | (simp only [w, seval, -Int.reduceToNat, t0j1, t2j1, q12a, q12b] <;> rfl))
      · replace hh := ite_f hb10 hh
        cases hh
        try simp only [w, seval, -Int.reduceToNat, t0j1, t2j1]
        rw [CK_normal]
        refine ⟨_, rfl, ?_⟩
        refine ⟨?_, ?_⟩
        all_goals (first | rfl | (simp only [w, seval, -Int.reduceToNat, t0j1, t2j1] <;> rfl))
  ·
    clear hh
    have hh := ho1
    try simp only [w, seval, -Int.reduceToNat]
    refine tstC_br (fun hb13 => ?_) (fun hb13 => ?_)
    · replace hh := ite_t hb13 hh
      obtain ⟨x14, hx14, hh⟩ := bindS hh
      obtain ⟨q15a, q15b⟩ := shrI_ok hx14
      cases hh
      try simp only [w, seval, -Int.reduceToNat, q15a, q15b]
      rw [CK_normal]
      refine ⟨_, rfl, ?_⟩
      refine ⟨?_, ?_⟩
      all_goals (first | rfl | (simp only [w, seval, -Int.reduceToNat, q15a, q15b] <;> rfl))
    · replace hh := ite_f hb13 hh
      cases hh
      try simp only [w, seval, -Int.reduceToNat]
      rw [CK_normal]
      refine ⟨_, rfl, ?_⟩
      refine ⟨?_, ?_⟩
      all_goals (first | rfl | (simp only [w, seval, -Int.reduceToNat] <;> rfl))

theorem ok_math_bits_Len64 : COk Try.prog 57 G_math_bits_Len64 := COk.of (mode := .clean) tok GOk.none mixed Try.func57 (by kernel_rfl) ⟨by kernel_rfl, by kernel_rfl⟩ (fun _ => Nat.le_of_ble_eq_true (by kernel_rfl)) (fun x r h => m_math_bits_Len64 x r h)

noncomputable def G_math_bits_Len := mkG (as1 (aI .u64)) (fun x : Int => math_bits_Len x) (fun r : Int => .clean (.int .i64 r))

theorem q_math_bits_Len (p0 : Int) : G_math_bits_Len none [.int .u64 p0] = (math_bits_Len p0).map fun r : Int => (.clean (.int .i64 r), none) := mkG_eq _ _ _ (p0)

noncomputable def g_math_bits_Len : Env := (Am.ext noEnv 57 false G_math_bits_Len64)

theorem ge_math_bits_Len : GOk Try.prog g_math_bits_Len := (GOk.none.add ok_math_bits_Len64 false)

theorem gg_math_bits_Len : g_math_bits_Len = (Am.ext noEnv 57 false G_math_bits_Len64) := Eq.trans rfl rfl

theorem x_math_bits_Len : type_of% (And.intro @w <| And.intro @q_math_bits_Len64 <| @gg_math_bits_Len) := And.intro @w <| And.intro @q_math_bits_Len64 <| @gg_math_bits_Len

theorem m_math_bits_Len (p0 : Int) (r : Int) (hh : math_bits_Len p0 = some r) : vfunc .clean tab g_math_bits_Len FU Try.f36 none [.int .u64 p0] = some (.clean (.int .i64 r), none) := by
  refine vfunc_of rfl Try.ntmps36 Try.results36 ?_
  unfold math_bits_Len at hh
  obtain ⟨r1, hr1, hh⟩ := bindS hh
  cases hh
  try simp only [x_math_bits_Len, seval, -Int.reduceToNat, hr1]

theorem ok_math_bits_Len : COk Try.prog 36 G_math_bits_Len := COk.of (mode := .clean) tok ge_math_bits_Len mixed Try.func36 (by kernel_rfl) ⟨by kernel_rfl, by kernel_rfl⟩ (fun _ => Nat.le_of_ble_eq_true (by kernel_rfl)) (fun x r h => m_math_bits_Len x r h)

noncomputable def G_big_Right := mkG (as1 (aAgg eTBig)) (fun x : TBig => big_Right x) (fun r : Bool => .clean (.bool r))

theorem q_big_Right (p0_0 : Int) (p0_1 : (List Int)) : G_big_Right none [.agg [.int .i64 p0_0, .sl false false p0_1.length (encL (eI .i64) p0_1)]] = (big_Right (TBig.mk p0_0 p0_1)).map fun r : Bool => (.clean (.bool r), none) := mkG_eq _ _ _ ((TBig.mk p0_0 p0_1))

theorem m_big_Right (p0 : TBig) (r : Bool) (hh : big_Right p0 = some r) : vfunc .clean tab noEnv FU Try.f41 none [.agg [.int .i64 p0.f_Sign, .sl false false p0.f_Digits.length (encL (eI .i64) p0.f_Digits)]] = some (.clean (.bool r), none) := by
  refine vfunc_of rfl Try.ntmps41 Try.results41 ?_
  unfold big_Right at hh
  try simp only [w, seval, -Int.reduceToNat]
  obtain ⟨o5, ho5, hh⟩ := bindS hh
  refine runLoop_sim (fun s t H e => match s with | s12a => ∃ v1a : Nat, t 1 = .ptr 1 v1a 0 ∧ t 3 = .int .i64 (p0.f_Digits.length : Int) ∧ t 10 = .sl false false p0.f_Digits.length (encL (eI .i64) p0.f_Digits) ∧ t 11 = .int .i64 (p0.f_Digits.length : Int) ∧ t 12 = .int .i64 s12a ∧ H 1 = some ⟨v1a, 25, [.int .i64 p0.f_Sign, .sl false false p0.f_Digits.length (encL (eI .i64) p0.f_Digits)], false, false⟩) (fun o x t H e => match o with | (.inl _) => x = .exit 0 ∧ ∃ v1ax : Nat, t 1 = .ptr 1 v1ax 0 ∧ t 3 = .int .i64 (p0.f_Digits.length : Int) ∧ H 1 = some ⟨v1ax, 25, [.int .i64 p0.f_Sign, .sl false false p0.f_Digits.length (encL (eI .i64) p0.f_Digits)], false, false⟩ | (.inr r) => x = .ret ∧ endM .clean tab none [.tmp 2] ⟨t, H, e⟩ = some (.clean (.bool r), none)) ho5 ?_ ?_ ?_
  ·
    refine ⟨0, ?_, ?_, ?_, ?_, ?_, ?_⟩
    all_goals (first | rfl | (simp only [w, seval, -Int.reduceToNat] <;> rfl))
  · rintro s12a t H e ⟨v1a, t1a, t3a, t10a, t11a, t12a, H1a⟩ c hh
    simp only [big_Right_L1] at hh
    try simp only [w, seval, -Int.reduceToNat, t1a, t3a, t10a, t11a, t12a, H1a]
    refine tstC_br (fun hb6 => ?_) (fun hb6 => ?_)
    · replace hh := ite_t hb6 hh
      obtain ⟨x7, hx7, hh⟩ := bindS hh
      have bx7 := idx_bd hx7
      have ax7 := idx_enc (eI .i64) hx7
      have fx7 := idx_fit (eI .i64) hx7
      simp only [vmz] at ax7 fx7
      skip
      try simp only [w, seval, -Int.reduceToNat, t1a, t3a, t10a, t11a, t12a, H1a, bx7, ax7, fx7]
      refine tstO_br' (fun hb8 => ?_) (fun hb8 => ?_)
      · replace hh := ite_t hb8 hh
        cases hh
        try simp only [w, seval, -Int.reduceToNat, t1a, t3a, t10a, t11a, t12a, H1a, bx7, ax7, fx7]
        rw [LK_ret]
        refine ⟨_, rfl, ?_⟩
        refine ⟨rfl, ?_⟩
        try simp only [w, seval, -Int.reduceToNat, t1a, t3a, t10a, t11a, t12a, H1a, bx7, ax7, fx7]
      · replace hh := ite_f hb8 hh
        try simp only [w, seval, -Int.reduceToNat, t1a, t3a, t10a, t11a, t12a, H1a, bx7, ax7, fx7]
        refine tstC_br (fun hb9 => ?_) (fun hb9 => ?_)
        · replace hh := ite_t hb9 hh
          cases hh
          try simp only [w, seval, -Int.reduceToNat, t1a, t3a, t10a, t11a, t12a, H1a, bx7, ax7, fx7]
          rw [LK_ret]
          refine ⟨_, rfl, ?_⟩
          refine ⟨rfl, ?_⟩
          try simp only [w, seval, -Int.reduceToNat, t1a, t3a, t10a, t11a, t12a, H1a, bx7, ax7, fx7]
        · replace hh := ite_f hb9 hh
          cases hh
          try simp only [w, seval, -Int.reduceToNat, t1a, t3a, t10a, t11a, t12a, H1a, bx7, ax7, fx7]
          rw [LK_normal]
          refine ⟨_, rfl, ?_⟩
          refine ⟨v1a, ?_, ?_, ?_, ?_, ?_, ?_⟩
          all_goals (first | rfl | (simp only [w, seval, -Int.reduceToNat, t1a, t3a, t10a, t11a, t12a, H1a, bx7, ax7, fx7] <;> rfl))
    · replace hh := ite_f hb6 hh
      cases hh
      try simp only [w, seval, -Int.reduceToNat, t1a, t3a, t10a, t11a, t12a, H1a]
      rw [LK_exit]
      refine ⟨_, rfl, ?_⟩
      refine ⟨rfl, ⟨v1a, ?_, ?_, ?_⟩⟩
      all_goals (first | rfl | (simp only [w, seval, -Int.reduceToNat, t1a, t3a, t10a, t11a, t12a, H1a] <;> rfl))
  · rintro x t H e hx
    rcases o5 with _ | ra
    ·
      dsimp only at hx hh
      obtain ⟨rfl, ⟨v1ax, t1ax, t3ax, H1ax⟩⟩ := hx
      try simp only [w, seval, -Int.reduceToNat, t1ax, t3ax, H1ax]
      refine tstC_br (fun hb10 => ?_) (fun hb10 => ?_)
      · replace hh := ite_t hb10 hh
        cases hh
        try simp only [w, seval, -Int.reduceToNat, t1ax, t3ax, H1ax]
      · replace hh := ite_f hb10 hh
        try simp only [w, seval, -Int.reduceToNat, t1ax, t3ax, H1ax]
        refine tstO_br' (fun hb11 => ?_) (fun hb11 => ?_)
        · replace hh := ite_t hb11 hh
          obtain ⟨x12, hx12, hh⟩ := bindS hh
          have bx12 := idx_bd hx12
          have ax12 := idx_enc (eI .i64) hx12
          have fx12 := idx_fit (eI .i64) hx12
          simp only [vmz] at ax12 fx12
          skip
          cases hh
          try simp only [w, seval, -Int.reduceToNat, t1ax, t3ax, H1ax, bx12, ax12, fx12]
        · replace hh := ite_f hb11 hh
          try simp only [w, seval, -Int.reduceToNat, t1ax, t3ax, H1ax]
          refine tstO_br (fun hb13 => ?_) (fun hb13 => ?_)
          · replace hh := ite_t hb13 hh
            obtain ⟨x14, hx14, hh⟩ := bindS hh
            have bx14 := idx_bd hx14
            have ax14 := idx_enc (eI .i64) hx14
            have fx14 := idx_fit (eI .i64) hx14
            simp only [vmz] at ax14 fx14
            skip
            cases hh
            try simp only [w, seval, -Int.reduceToNat, t1ax, t3ax, H1ax, bx14, ax14, fx14]
          · replace hh := ite_f hb13 hh
            cases hh
            try simp only [w, seval, -Int.reduceToNat, t1ax, t3ax, H1ax]
    ·
      dsimp only at hx hh
      obtain ⟨rfl, hE⟩ := hx
      cases hh
      try simp only [runW_pass_ret, runW_pass_exit, runW_blk_ret, runW_nil, endW_ret]
      exact hE

theorem ok_big_Right : COk Try.prog 41 G_big_Right := COk.of (mode := .clean) tok GOk.none mixed Try.func41 (by kernel_rfl) ⟨by kernel_rfl, by kernel_rfl⟩ (fun _ => Nat.le_of_ble_eq_true (by kernel_rfl)) (fun x r h => m_big_Right x r h)

noncomputable def G_big_checked := mkG (asC aBool (as1 (aAgg eTBig))) (fun x : Bool × TBig => big_checked x.1 x.2) (fun r : TBig × Int => .clean (.tup [.agg [.int .i64 r.1.f_Sign, .sl false false r.1.f_Digits.length (encL (eI .i64) r.1.f_Digits)], .int .i64 r.2]))

theorem q_big_checked (p0 : Bool) (p1_0 : Int) (p1_1 : (List Int)) : G_big_checked none [.bool p0, .agg [.int .i64 p1_0, .sl false false p1_1.length (encL (eI .i64) p1_1)]] = (big_checked p0 (TBig.mk p1_0 p1_1)).map fun r : TBig × Int => (.clean (.tup [.agg [.int .i64 r.1.f_Sign, .sl false false r.1.f_Digits.length (encL (eI .i64) r.1.f_Digits)], .int .i64 r.2]), none) := mkG_eq _ _ _ (p0, (TBig.mk p1_0 p1_1))

theorem m_big_checked (p0 : Bool) (p1 : TBig) (r : TBig × Int) (hh : big_checked p0 p1 = some r) : vfunc .clean tab noEnv FU Try.f59 none [.bool p0, .agg [.int .i64 p1.f_Sign, .sl false false p1.f_Digits.length (encL (eI .i64) p1.f_Digits)]] = some (.clean (.tup [.agg [.int .i64 r.1.f_Sign, .sl false false r.1.f_Digits.length (encL (eI .i64) r.1.f_Digits)], .int .i64 r.2]), none) := by
  refine vfunc_of rfl Try.ntmps59 Try.results59 ?_
  unfold big_checked at hh
  try simp only [w, seval, -Int.reduceToNat]
  refine tstC_br (fun hb1 => ?_) (fun hb1 => ?_)
  · replace hh := ite_t hb1 hh
    cases hh
    try simp only [w, seval, -Int.reduceToNat]
  · replace hh := ite_f hb1 hh
    cases hh
    try simp only [w, seval, -Int.reduceToNat]

theorem ok_big_checked : COk Try.prog 59 G_big_checked := COk.of (mode := .clean) tok GOk.none mixed Try.func59 (by kernel_rfl) ⟨by kernel_rfl, by kernel_rfl⟩ (fun _ => Nat.le_of_ble_eq_true (by kernel_rfl)) (fun x r h => m_big_checked x.1 x.2 r h)

theorem m_slices_Clone_0 (r : (List Int)) (hh : slices_Clone [] = some r) : vfunc (.fresh 3 1) tab noEnv FU Try.f60 none [.sl true true 0 []] = some (.fresh 3 1 r.length (encL (eI .i64) r), none) := by
  unfold slices_Clone at hh
  obtain ⟨qa, qb, qc⟩ := app_nil hh
  subst qa
  refine vfunc_of rfl Try.ntmps60 Try.results60 ?_
  simp only [w, seval, -Int.reduceToNat, Nat.lt_irrefl]

theorem m_slices_Clone_1 (r : (List Int)) (hh : slices_Clone [] = some r) : vfunc (.fresh 3 1) tab noEnv FU Try.f60 none [.sl true false 0 []] = some (.fresh 3 1 r.length (encL (eI .i64) r), none) := by
  unfold slices_Clone at hh
  obtain ⟨qa, qb, qc⟩ := app_nil hh
  subst qa
  refine vfunc_of rfl Try.ntmps60 Try.results60 ?_
  simp only [w, seval, -Int.reduceToNat, Nat.lt_irrefl]

theorem m_slices_Clone_2 (p0 r : (List Int)) (hp : 0 < p0.length) (hh : slices_Clone p0 = some r) : vfunc (.fresh 3 1) tab noEnv FU Try.f60 none [.sl false false p0.length (encL (eI .i64) p0)] = some (.fresh 3 1 r.length (encL (eI .i64) r), none) := by
  unfold slices_Clone at hh
  have hz : ¬ p0.length = 0 := by omega
  obtain ⟨qa, qb, qc⟩ := app_nil hh
  subst qa
  refine vfunc_of rfl Try.ntmps60 Try.results60 ?_
  simp only [w, seval, -Int.reduceToNat, hp, hz, qb, qc]

noncomputable def G_slices_Clone := mkG (as1 (aSl (eI .i64))) (fun x : (List Int) => slices_Clone x) (fun r : (List Int) => .fresh 3 1 r.length (encL (eI .i64) r))

theorem q_slices_Clone (p0 : (List Int)) : G_slices_Clone none [.sl false false p0.length (encL (eI .i64) p0)] = (slices_Clone p0).map fun r : (List Int) => (.fresh 3 1 r.length (encL (eI .i64) r), none) := mkG_eq _ _ _ p0

theorem ok_slices_Clone : COk Try.prog 60 G_slices_Clone := COk.list3 (mode := (.fresh 3 1)) tok GOk.none mixed Try.func60 (by kernel_rfl) ⟨by kernel_rfl, by kernel_rfl⟩ (Nat.le_of_ble_eq_true (by kernel_rfl)) m_slices_Clone_0 m_slices_Clone_1 m_slices_Clone_2

noncomputable def G_cmp_isNaN := mkG (as1 (aI .i64)) (fun x : Int => cmp_isNaN x) (fun r : Bool => .clean (.bool r))

theorem q_cmp_isNaN (p0 : Int) : G_cmp_isNaN none [.int .i64 p0] = (cmp_isNaN p0).map fun r : Bool => (.clean (.bool r), none) := mkG_eq _ _ _ (p0)

theorem m_cmp_isNaN (p0 : Int) (r : Bool) (hh : cmp_isNaN p0 = some r) : vfunc .clean tab noEnv FU Try.f79 none [.int .i64 p0] = some (.clean (.bool r), none) := by
  refine vfunc_of rfl Try.ntmps79 Try.results79 ?_
  unfold cmp_isNaN at hh
  cases hh
  try simp only [w, seval, -Int.reduceToNat]

theorem ok_cmp_isNaN : COk Try.prog 79 G_cmp_isNaN := COk.of (mode := .clean) tok GOk.none mixed Try.func79 (by kernel_rfl) ⟨by kernel_rfl, by kernel_rfl⟩ (fun _ => Nat.le_of_ble_eq_true (by kernel_rfl)) (fun x r h => m_cmp_isNaN x r h)

noncomputable def G_cmp_Compare := mkG (asC (aI .i64) (as1 (aI .i64))) (fun x : Int × Int => cmp_Compare x.1 x.2) (fun r : Int => .clean (.int .i64 r))

theorem q_cmp_Compare (p0 : Int) (p1 : Int) : G_cmp_Compare none [.int .i64 p0, .int .i64 p1] = (cmp_Compare p0 p1).map fun r : Int => (.clean (.int .i64 r), none) := mkG_eq _ _ _ (p0, p1)

noncomputable def g_cmp_Compare : Env := (Am.ext noEnv 79 false G_cmp_isNaN)

theorem ge_cmp_Compare : GOk Try.prog g_cmp_Compare := (GOk.none.add ok_cmp_isNaN false)

theorem gg_cmp_Compare : g_cmp_Compare = (Am.ext noEnv 79 false G_cmp_isNaN) := Eq.trans rfl rfl

theorem x_cmp_Compare : type_of% (And.intro @w <| And.intro @q_cmp_isNaN <| @gg_cmp_Compare) := And.intro @w <| And.intro @q_cmp_isNaN <| @gg_cmp_Compare

theorem m_cmp_Compare (p0 : Int) (p1 : Int) (r : Int) (hh : cmp_Compare p0 p1 = some r) : vfunc .clean tab g_cmp_Compare FU Try.f64 none [.int .i64 p0, .int .i64 p1] = some (.clean (.int .i64 r), none) := by
  refine vfunc_of rfl Try.ntmps64 Try.results64 ?_
  unfold cmp_Compare at hh
  obtain ⟨r1, hr1, hh⟩ := bindS hh
  obtain ⟨r2, hr2, hh⟩ := bindS hh
  try simp only [x_cmp_Compare, seval, -Int.reduceToNat, hr1, hr2]
  refine tstC_br (fun hb3 => ?_) (fun hb3 => ?_)
  · replace hh := ite_t hb3 hh
    try simp only [x_cmp_Compare, seval, -Int.reduceToNat, hr1, hr2]
    refine tstC_br (fun hb4 => ?_) (fun hb4 => ?_)
    · replace hh := ite_t hb4 hh
      cases hh
      try simp only [x_cmp_Compare, seval, -Int.reduceToNat, hr1, hr2]
    · replace hh := ite_f hb4 hh
      cases hh
      try simp only [x_cmp_Compare, seval, -Int.reduceToNat, hr1, hr2]
  · replace hh := ite_f hb3 hh
    try simp only [x_cmp_Compare, seval, -Int.reduceToNat, hr1, hr2]
    refine tstC_br (fun hb5 => ?_) (fun hb5 => ?_)
    · replace hh := ite_t hb5 hh
      cases hh
      try simp only [x_cmp_Compare, seval, -Int.reduceToNat, hr1, hr2]
    · replace hh := ite_f hb5 hh
      try simp only [x_cmp_Compare, seval, -Int.reduceToNat, hr1, hr2]
      refine tstC_br (fun hb6 => ?_) (fun hb6 => ?_)
      · replace hh := ite_t hb6 hh
        cases hh
        try simp only [x_cmp_Compare, seval, -Int.reduceToNat, hr1, hr2]
      · replace hh := ite_f hb6 hh
        try simp only [x_cmp_Compare, seval, -Int.reduceToNat, hr1, hr2]
        refine tstC_br (fun hb7 => ?_) (fun hb7 => ?_)
        · replace hh := ite_t hb7 hh
          cases hh
          try simp only [x_cmp_Compare, seval, -Int.reduceToNat, hr1, hr2]
        · replace hh := ite_f hb7 hh
          cases hh
          try simp only [x_cmp_Compare, seval, -Int.reduceToNat, hr1, hr2]

theorem ok_cmp_Compare : COk Try.prog 64 G_cmp_Compare := COk.of (mode := .clean) tok ge_cmp_Compare mixed Try.func64 (by kernel_rfl) ⟨by kernel_rfl, by kernel_rfl⟩ (fun _ => Nat.le_of_ble_eq_true (by kernel_rfl)) (fun x r h => m_cmp_Compare x.1 x.2 r h)

noncomputable def G_big_compare := mkG (asC (aSl (eI .i64)) (as1 (aSl (eI .i64)))) (fun x : (List Int) × (List Int) => big_compare x.1 x.2) (fun r : Int => .clean (.int .i64 r))

theorem q_big_compare (p0 : (List Int)) (p1 : (List Int)) : G_big_compare none [.sl false false p0.length (encL (eI .i64) p0), .sl false false p1.length (encL (eI .i64) p1)] = (big_compare p0 p1).map fun r : Int => (.clean (.int .i64 r), none) := mkG_eq _ _ _ (p0, p1)

noncomputable def g_big_compare : Env := (Am.ext noEnv 64 false G_cmp_Compare)

theorem ge_big_compare : GOk Try.prog g_big_compare := (GOk.none.add ok_cmp_Compare false)

theorem gg_big_compare : g_big_compare = (Am.ext noEnv 64 false G_cmp_Compare) := Eq.trans rfl rfl

theorem x_big_compare : type_of% (And.intro @w <| And.intro @q_cmp_Compare <| @gg_big_compare) := And.intro @w <| And.intro @q_cmp_Compare <| @gg_big_compare

theorem m_big_compare (p0 : (List Int)) (p1 : (List Int)) (r : Int) (hh : big_compare p0 p1 = some r) : vfunc .clean tab g_big_compare FU Try.f65 none [.sl false false p0.length (encL (eI .i64) p0), .sl false false p1.length (encL (eI .i64) p1)] = some (.clean (.int .i64 r), none) := by
  refine vfunc_of rfl Try.ntmps65 Try.results65 ?_
  unfold big_compare at hh
  try simp only [x_big_compare, seval, -Int.reduceToNat]
  refine tstC_br (fun hb1 => ?_) (fun hb1 => ?_)
  · replace hh := ite_t hb1 hh
    obtain ⟨r2, hr2, hh⟩ := bindS hh
    cases hh
    try simp only [x_big_compare, seval, -Int.reduceToNat, hr2]
  · replace hh := ite_f hb1 hh
    try simp only [x_big_compare, seval, -Int.reduceToNat]
    obtain ⟨o8, ho8, hh⟩ := bindS hh
    refine runLoop_sim (fun s t H e => match s with | s5a => t 0 = .sl false false p0.length (encL (eI .i64) p0) ∧ t 1 = .sl false false p1.length (encL (eI .i64) p1) ∧ t 5 = .int .i64 s5a) (fun o x t H e => match o with | (.inl _) => x = .exit 0 | (.inr r) => x = .ret ∧ endM .clean tab none [.tmp 4] ⟨t, H, e⟩ = some (.clean (.int .i64 r), none)) ho8 ?_ ?_ ?_
    ·
      refine ⟨?_, ?_, ?_⟩
      all_goals (first | rfl | (simp only [x_big_compare, seval, -Int.reduceToNat] <;> rfl))
    · rintro s5a t H e ⟨t0a, t1a, t5a⟩ c hh
      simp only [big_compare_L1] at hh
      try simp only [x_big_compare, seval, -Int.reduceToNat, t0a, t1a, t5a]
      refine tstC_br (fun hb9 => ?_) (fun hb9 => ?_)
      · replace hh := ite_t hb9 hh
        obtain ⟨x10, hx10, hh⟩ := bindS hh
        have bx10 := idx_bd hx10
        have ax10 := idx_enc (eI .i64) hx10
        have fx10 := idx_fit (eI .i64) hx10
        simp only [vmz] at ax10 fx10
        skip
        obtain ⟨x11, hx11, hh⟩ := bindS hh
        have bx11 := idx_bd hx11
        have ax11 := idx_enc (eI .i64) hx11
        have fx11 := idx_fit (eI .i64) hx11
        simp only [vmz] at ax11 fx11
        skip
        try simp only [x_big_compare, seval, -Int.reduceToNat, t0a, t1a, t5a, bx10, ax10, fx10, bx11, ax11, fx11]
        refine dyn_ok (by kernel_rfl) ?_
        try simp only [x_big_compare, seval, -Int.reduceToNat, t0a, t1a, t5a, bx10, ax10, fx10, bx11, ax11, fx11]
        refine tstC_br (fun hb12 => ?_) (fun hb12 => ?_)
        · replace hh := ite_t hb12 hh
          have bx10 := idx_bd hx10
          have ax10 := idx_enc (eI .i64) hx10
          have fx10 := idx_fit (eI .i64) hx10
          simp only [vmz] at ax10 fx10
          skip
          have bx11 := idx_bd hx11
          have ax11 := idx_enc (eI .i64) hx11
          have fx11 := idx_fit (eI .i64) hx11
          simp only [vmz] at ax11 fx11
          skip
          obtain ⟨r13, hr13, hh⟩ := bindS hh
          try simp only [x_big_compare, seval, -Int.reduceToNat, t0a, t1a, t5a, bx10, ax10, fx10, bx11, ax11, fx11, bx10, ax10, fx10, bx11, ax11, fx11, hr13]
          refine dyn_ok (by kernel_rfl) ?_
          cases hh
          try simp only [x_big_compare, seval, -Int.reduceToNat, t0a, t1a, t5a, bx10, ax10, fx10, bx11, ax11, fx11, bx10, ax10, fx10, bx11, ax11, fx11, hr13]
          rw [LK_ret]
          refine ⟨_, rfl, ?_⟩
          refine ⟨rfl, ?_⟩
          try simp only [x_big_compare, seval, -Int.reduceToNat, t0a, t1a, t5a, bx10, ax10, fx10, bx11, ax11, fx11, bx10, ax10, fx10, bx11, ax11, fx11, hr13]
        · replace hh := ite_f hb12 hh
          cases hh
          try simp only [x_big_compare, seval, -Int.reduceToNat, t0a, t1a, t5a, bx10, ax10, fx10, bx11, ax11, fx11]
          rw [LK_normal]
          refine ⟨_, rfl, ?_⟩
          refine ⟨?_, ?_, ?_⟩
          all_goals (first | rfl | (simp only [x_big_compare, seval, -Int.reduceToNat, t0a, t1a, t5a, bx10, ax10, fx10, bx11, ax11, fx11] <;> rfl))
      · replace hh := ite_f hb9 hh
        cases hh
        try simp only [x_big_compare, seval, -Int.reduceToNat, t0a, t1a, t5a]
        rw [LK_exit]
        refine ⟨_, rfl, ?_⟩
        exact rfl
    · rintro x t H e hx
      rcases o8 with _ | ra
      ·
        dsimp only at hx hh
        subst hx
        cases hh
        try simp only [x_big_compare, seval, -Int.reduceToNat]
      ·
        dsimp only at hx hh
        obtain ⟨rfl, hE⟩ := hx
        cases hh
        try simp only [runW_pass_ret, runW_pass_exit, runW_blk_ret, runW_nil, endW_ret]
        exact hE

theorem ok_big_compare : COk Try.prog 65 G_big_compare := COk.of (mode := .clean) tok ge_big_compare mixed Try.func65 (by kernel_rfl) ⟨by kernel_rfl, by kernel_rfl⟩ (fun _ => Nat.le_of_ble_eq_true (by kernel_rfl)) (fun x r h => m_big_compare x.1 x.2 r h)

noncomputable def G_big_short := mkG (asC (aSl (eI .i64)) (as1 (aI .i64))) (fun x : (List Int) × Int => big_short x.1 x.2) (fun r : (List Int) × Int => .clean (.tup [.sl false false r.1.length (encL (eI .i64) r.1), .int .i64 r.2]))

theorem q_big_short (p0 : (List Int)) (p1 : Int) : G_big_short none [.sl false false p0.length (encL (eI .i64) p0), .int .i64 p1] = (big_short p0 p1).map fun r : (List Int) × Int => (.clean (.tup [.sl false false r.1.length (encL (eI .i64) r.1), .int .i64 r.2]), none) := mkG_eq _ _ _ (p0, p1)

noncomputable def g_big_short : Env := (Am.ext noEnv 76 false G_big_trim)

theorem ge_big_short : GOk Try.prog g_big_short := (GOk.none.add ok_big_trim false)

theorem gg_big_short : g_big_short = (Am.ext noEnv 76 false G_big_trim) := Eq.trans rfl rfl

theorem x_big_short : type_of% (And.intro @w <| And.intro @q_big_trim <| @gg_big_short) := And.intro @w <| And.intro @q_big_trim <| @gg_big_short

theorem m_big_short (p0 : (List Int)) (p1 : Int) (r : (List Int) × Int) (hh : big_short p0 p1 = some r) : vfunc .clean tab g_big_short FU Try.f75 none [.sl false false p0.length (encL (eI .i64) p0), .int .i64 p1] = some (.clean (.tup [.sl false false r.1.length (encL (eI .i64) r.1), .int .i64 r.2]), none) := by
  refine vfunc_of rfl Try.ntmps75 Try.results75 ?_
  unfold big_short at hh
  obtain ⟨x1, hx1, hh⟩ := bindS hh
  obtain ⟨q2a, q2b, q2c, q2d, q2e⟩ := mk_one (eI .i64) hx1
  simp only [vmz] at q2d
  try simp only [x_big_short, seval, -Int.reduceToNat, q2a, q2b, q2c, q2d, q2e]
  obtain ⟨o13, ho13, hh⟩ := bindS hh
  refine runLoop_sim (fun s t H e => match s with | (s7a, s8a, l6a) => ∃ v6a : Nat, t 0 = .sl false false p0.length (encL (eI .i64) p0) ∧ t 1 = .int .i64 p1 ∧ t 6 = .buf 6 v6a 1 0 (l6a).length ∧ t 7 = .int .i64 s7a ∧ t 8 = .int .i64 s8a ∧ H 6 = some ⟨v6a, 3, encL (eI .i64) l6a, false, true⟩) (fun o x t H e => match o with | (s7ax, l6ax) => x = .exit 0 ∧ ∃ v6ax : Nat, t 6 = .buf 6 v6ax 1 0 (l6ax).length ∧ t 7 = .int .i64 s7ax ∧ H 6 = some ⟨v6ax, 3, encL (eI .i64) l6ax, false, true⟩) ho13 ?_ ?_ ?_
  ·
    refine ⟨1, ?_, ?_, ?_, ?_, ?_, ?_⟩
    all_goals (first | rfl | (simp only [x_big_short, seval, -Int.reduceToNat, q2a, q2b, q2c, q2d, q2e] <;> rfl))
  · rintro ⟨s7a, s8a, l6a⟩ t H e ⟨v6a, t0a, t1a, t6a, t7a, t8a, H6a⟩ c hh
    simp only [big_short_L1] at hh
    try simp only [x_big_short, seval, -Int.reduceToNat, q2a, q2b, q2c, q2d, q2e, t0a, t1a, t6a, t7a, t8a, H6a]
    refine tstC_br (fun hb14 => ?_) (fun hb14 => ?_)
    · replace hh := ite_t hb14 hh
      obtain ⟨x15, hx15, hh⟩ := bindS hh
      obtain ⟨q16a, q16b⟩ := shlI_ok hx15
      obtain ⟨x17, hx17, hh⟩ := bindS hh
      have bx17 := idx_bd hx17
      have ax17 := idx_enc (eI .i64) hx17
      have fx17 := idx_fit (eI .i64) hx17
      simp only [vmz] at ax17 fx17
      skip
      obtain ⟨x18, hx18, hh⟩ := bindS hh
      obtain ⟨q19a, q19b⟩ := divI_ok hx18
      obtain ⟨x20, hx20, hh⟩ := bindS hh
      have bx20 := idx_bd hx20
      have ax20 := idx_enc (eI .i64) hx20
      have fx20 := idx_fit (eI .i64) hx20
      simp only [vmz] at ax20 fx20
      skip
      have p21 := put_enc (eI .i64) (x' := x18) (fo := 0) (cs := [.int .i64 x18]) hx20 rfl (Nat.le_of_ble_eq_true rfl)
      simp only [vmz, Nat.add_zero] at p21
      have up21 := p21
      simp only [putCells, List.length_cons, List.length_nil, Nat.zero_add, Nat.reduceAdd] at up21
      obtain ⟨x22, hx22, hh⟩ := bindS hh
      obtain ⟨q23a, q23b⟩ := modI_ok hx22
      cases hh
      try simp only [x_big_short, seval, -Int.reduceToNat, q2a, q2b, q2c, q2d, q2e, t0a, t1a, t6a, t7a, t8a, H6a, q16a, q16b, bx17, ax17, fx17, q19a, q19b, bx20, ax20, fx20, p21, up21, q23a, q23b]
      rw [LK_normal]
      refine ⟨_, rfl, ?_⟩
      refine ⟨v6a, ?_, ?_, ?_, ?_, ?_, ?_⟩
      all_goals (first | rfl | (simp only [x_big_short, seval, -Int.reduceToNat, q2a, q2b, q2c, q2d, q2e, t0a, t1a, t6a, t7a, t8a, H6a, q16a, q16b, bx17, ax17, fx17, q19a, q19b, bx20, ax20, fx20, p21, up21, q23a, q23b] <;> rfl))
    · replace hh := ite_f hb14 hh
      cases hh
      try simp only [x_big_short, seval, -Int.reduceToNat, q2a, q2b, q2c, q2d, q2e, t0a, t1a, t6a, t7a, t8a, H6a]
      rw [LK_exit]
      refine ⟨_, rfl, ?_⟩
      refine ⟨rfl, ⟨v6a, ?_, ?_, ?_⟩⟩
      all_goals (first | rfl | (simp only [x_big_short, seval, -Int.reduceToNat, q2a, q2b, q2c, q2d, q2e, t0a, t1a, t6a, t7a, t8a, H6a] <;> rfl))
  · rintro x t H e hx
    rcases o13 with ⟨s7ax, l6ax⟩
    dsimp only at hx hh
    obtain ⟨rfl, ⟨v6ax, t6ax, t7ax, H6ax⟩⟩ := hx
    obtain ⟨r24, hr24, hh⟩ := bindS hh
    cases hh
    try simp only [x_big_short, seval, -Int.reduceToNat, q2a, q2b, q2c, q2d, q2e, t6ax, t7ax, H6ax, hr24]

theorem ok_big_short : COk Try.prog 75 G_big_short := COk.of (mode := .clean) tok ge_big_short mixed Try.func75 (by kernel_rfl) ⟨by kernel_rfl, by kernel_rfl⟩ (fun _ => Nat.le_of_ble_eq_true (by kernel_rfl)) (fun x r h => m_big_short x.1 x.2 r h)

noncomputable def G_big_mul := mkG (asC (aSl (eI .i64)) (as1 (aSl (eI .i64)))) (fun x : (List Int) × (List Int) => big_mul x.1 x.2) (fun r : (List Int) => .fresh 3 1 r.length (encL (eI .i64) r))

theorem q_big_mul (p0 : (List Int)) (p1 : (List Int)) : G_big_mul none [.sl false false p0.length (encL (eI .i64) p0), .sl false false p1.length (encL (eI .i64) p1)] = (big_mul p0 p1).map fun r : (List Int) => (.fresh 3 1 r.length (encL (eI .i64) r), none) := mkG_eq _ _ _ (p0, p1)

noncomputable def g_big_mul : Env := (Am.ext noEnv 76 true G_big_trim_w)

theorem ge_big_mul : GOk Try.prog g_big_mul := (GOk.none.add ok_big_trim_w true)

theorem gg_big_mul : g_big_mul = (Am.ext noEnv 76 true G_big_trim_w) := Eq.trans rfl rfl

theorem x_big_mul : type_of% (And.intro @w <| @gg_big_mul) := And.intro @w <| @gg_big_mul

theorem m_big_mul (p0 : (List Int)) (p1 : (List Int)) (r : (List Int)) (hh : big_mul p0 p1 = some r) : vfunc (.fresh 3 1) tab g_big_mul FU Try.f77 none [.sl false false p0.length (encL (eI .i64) p0), .sl false false p1.length (encL (eI .i64) p1)] = some (.fresh 3 1 r.length (encL (eI .i64) r), none) := by
  refine vfunc_of rfl Try.ntmps77 Try.results77 ?_
  unfold big_mul at hh
  obtain ⟨x1, hx1, hh⟩ := bindS hh
  obtain ⟨q2a, q2b, q2c, q2d, q2e⟩ := mk_one (eI .i64) hx1
  simp only [vmz] at q2d
  try simp only [x_big_mul, seval, -Int.reduceToNat, q2a, q2b, q2c, q2d, q2e]
  obtain ⟨o20, ho20, hh⟩ := bindS hh
  refine runLoop_sim (fun s t H e => match s with | (s20a, l5a) => ∃ v5a : Nat, t 1 = .sl false false p1.length (encL (eI .i64) p1) ∧ t 5 = .buf 5 v5a 1 0 (l5a).length ∧ t 18 = .sl false false p0.length (encL (eI .i64) p0) ∧ t 19 = .int .i64 (p0.length : Int) ∧ t 20 = .int .i64 s20a ∧ H 5 = some ⟨v5a, 3, encL (eI .i64) l5a, false, true⟩) (fun o x t H e => match o with | l5ax => x = .exit 0 ∧ ∃ v5ax : Nat, t 5 = .buf 5 v5ax 1 0 (l5ax).length ∧ H 5 = some ⟨v5ax, 3, encL (eI .i64) l5ax, false, true⟩) ho20 ?_ ?_ ?_
  ·
    refine ⟨1, ?_, ?_, ?_, ?_, ?_, ?_⟩
    all_goals (first | rfl | (simp only [x_big_mul, seval, -Int.reduceToNat, q2a, q2b, q2c, q2d, q2e] <;> rfl))
  · rintro ⟨s20a, l5a⟩ t H e ⟨v5a, t1a, t5a, t18a, t19a, t20a, H5a⟩ c hh
    simp only [big_mul_L1] at hh
    try simp only [x_big_mul, seval, -Int.reduceToNat, q2a, q2b, q2c, q2d, q2e, t1a, t5a, t18a, t19a, t20a, H5a]
    refine tstC_br (fun hb21 => ?_) (fun hb21 => ?_)
    · replace hh := ite_t hb21 hh
      obtain ⟨x22, hx22, hh⟩ := bindS hh
      have bx22 := idx_bd hx22
      have ax22 := idx_enc (eI .i64) hx22
      have fx22 := idx_fit (eI .i64) hx22
      simp only [vmz] at ax22 fx22
      skip
      try simp only [x_big_mul, seval, -Int.reduceToNat, q2a, q2b, q2c, q2d, q2e, t1a, t5a, t18a, t19a, t20a, H5a, bx22, ax22, fx22]
      obtain ⟨o29, ho29, hh⟩ := bindS hh
      refine runLoop_sim (fun s t H e => match s with | (s8c, s27c, l5c) => ∃ v5c : Nat, t 1 = .sl false false p1.length (encL (eI .i64) p1) ∧ t 5 = .buf 5 v5c 1 0 (l5c).length ∧ t 6 = .int .i64 s20a ∧ t 7 = .int .i64 x22 ∧ t 8 = .int .i64 s8c ∧ t 18 = .sl false false p0.length (encL (eI .i64) p0) ∧ t 19 = .int .i64 (p0.length : Int) ∧ t 20 = .int .i64 s20a ∧ t 25 = .sl false false p1.length (encL (eI .i64) p1) ∧ t 26 = .int .i64 (p1.length : Int) ∧ t 27 = .int .i64 s27c ∧ H 5 = some ⟨v5c, 3, encL (eI .i64) l5c, false, true⟩) (fun o x t H e => match o with | (s8cx, l5cx) => x = .exit 2 ∧ ∃ v5cx : Nat, t 1 = .sl false false p1.length (encL (eI .i64) p1) ∧ t 5 = .buf 5 v5cx 1 0 (l5cx).length ∧ t 6 = .int .i64 s20a ∧ t 8 = .int .i64 s8cx ∧ t 18 = .sl false false p0.length (encL (eI .i64) p0) ∧ t 19 = .int .i64 (p0.length : Int) ∧ t 20 = .int .i64 s20a ∧ H 5 = some ⟨v5cx, 3, encL (eI .i64) l5cx, false, true⟩) ho29 ?_ ?_ ?_
      ·
        refine ⟨v5a, ?_, ?_, ?_, ?_, ?_, ?_, ?_, ?_, ?_, ?_, ?_, ?_⟩
        all_goals (first | rfl | (simp only [x_big_mul, seval, -Int.reduceToNat, q2a, q2b, q2c, q2d, q2e, t1a, t5a, t18a, t19a, t20a, H5a, bx22, ax22, fx22] <;> rfl))
      · rintro ⟨s8c, s27c, l5c⟩ t H e ⟨v5c, t1c, t5c, t6c, t7c, t8c, t18c, t19c, t20c, t25c, t26c, t27c, H5c⟩ c hh
        simp only [big_mul_L3] at hh
        try simp only [x_big_mul, seval, -Int.reduceToNat, q2a, q2b, q2c, q2d, q2e, bx22, ax22, fx22, t1c, t5c, t6c, t7c, t8c, t18c, t19c, t20c, t25c, t26c, t27c, H5c]
        refine tstC_br (fun hb30 => ?_) (fun hb30 => ?_)
        · replace hh := ite_t hb30 hh
          obtain ⟨x31, hx31, hh⟩ := bindS hh
          have bx31 := idx_bd hx31
          have ax31 := idx_enc (eI .i64) hx31
          have fx31 := idx_fit (eI .i64) hx31
          simp only [vmz] at ax31 fx31
          skip
          obtain ⟨x32, hx32, hh⟩ := bindS hh
          have bx32 := idx_bd hx32
          have ax32 := idx_enc (eI .i64) hx32
          have fx32 := idx_fit (eI .i64) hx32
          simp only [vmz] at ax32 fx32
          skip
          obtain ⟨x33, hx33, hh⟩ := bindS hh
          obtain ⟨q34a, q34b⟩ := shrI_ok hx33
          have bx32 := idx_bd hx32
          have ax32 := idx_enc (eI .i64) hx32
          have fx32 := idx_fit (eI .i64) hx32
          simp only [vmz] at ax32 fx32
          skip
          have p35 := put_enc (eI .i64) (x' := bitI .and .i64 (IntKind.i64.wrap ((IntKind.i64.wrap (x32 + (IntKind.i64.wrap (x22 * x31)))) + s8c)) 1048575) (fo := 0) (cs := [.int .i64 (bitI .and .i64 (IntKind.i64.wrap ((IntKind.i64.wrap (x32 + (IntKind.i64.wrap (x22 * x31)))) + s8c)) 1048575)]) hx32 rfl (Nat.le_of_ble_eq_true rfl)
          simp only [vmz, Nat.add_zero] at p35
          have up35 := p35
          simp only [putCells, List.length_cons, List.length_nil, Nat.zero_add, Nat.reduceAdd] at up35
          cases hh
          try simp only [x_big_mul, seval, -Int.reduceToNat, q2a, q2b, q2c, q2d, q2e, bx22, ax22, fx22, t1c, t5c, t6c, t7c, t8c, t18c, t19c, t20c, t25c, t26c, t27c, H5c, bx31, ax31, fx31, bx32, ax32, fx32, q34a, q34b, bx32, ax32, fx32, p35, up35]
          rw [LK_normal]
          refine ⟨_, rfl, ?_⟩
          refine ⟨v5c, ?_, ?_, ?_, ?_, ?_, ?_, ?_, ?_, ?_, ?_, ?_, ?_⟩
          all_goals (first | rfl | (simp only [x_big_mul, seval, -Int.reduceToNat, q2a, q2b, q2c, q2d, q2e, bx22, ax22, fx22, t1c, t5c, t6c, t7c, t8c, t18c, t19c, t20c, t25c, t26c, t27c, H5c, bx31, ax31, fx31, bx32, ax32, fx32, q34a, q34b, bx32, ax32, fx32, p35, up35] <;> rfl))
        · replace hh := ite_f hb30 hh
          cases hh
          try simp only [x_big_mul, seval, -Int.reduceToNat, q2a, q2b, q2c, q2d, q2e, bx22, ax22, fx22, t1c, t5c, t6c, t7c, t8c, t18c, t19c, t20c, t25c, t26c, t27c, H5c]
          rw [LK_exit]
          refine ⟨_, rfl, ?_⟩
          refine ⟨rfl, ⟨v5c, ?_, ?_, ?_, ?_, ?_, ?_, ?_, ?_⟩⟩
          all_goals (first | rfl | (simp only [x_big_mul, seval, -Int.reduceToNat, q2a, q2b, q2c, q2d, q2e, bx22, ax22, fx22, t1c, t5c, t6c, t7c, t8c, t18c, t19c, t20c, t25c, t26c, t27c, H5c] <;> rfl))
      · rintro x t H e hx
        rcases o29 with ⟨s8cx, l5cx⟩
        dsimp only at hx hh
        obtain ⟨rfl, ⟨v5cx, t1cx, t5cx, t6cx, t8cx, t18cx, t19cx, t20cx, H5cx⟩⟩ := hx
        obtain ⟨x36, hx36, hh⟩ := bindS hh
        have bx36 := idx_bd hx36
        have ax36 := idx_enc (eI .i64) hx36
        have fx36 := idx_fit (eI .i64) hx36
        simp only [vmz] at ax36 fx36
        skip
        have bx36 := idx_bd hx36
        have ax36 := idx_enc (eI .i64) hx36
        have fx36 := idx_fit (eI .i64) hx36
        simp only [vmz] at ax36 fx36
        skip
        have p37 := put_enc (eI .i64) (x' := IntKind.i64.wrap (x36 + s8cx)) (fo := 0) (cs := [.int .i64 (IntKind.i64.wrap (x36 + s8cx))]) hx36 rfl (Nat.le_of_ble_eq_true rfl)
        simp only [vmz, Nat.add_zero] at p37
        have up37 := p37
        simp only [putCells, List.length_cons, List.length_nil, Nat.zero_add, Nat.reduceAdd] at up37
        cases hh
        try simp only [x_big_mul, seval, -Int.reduceToNat, q2a, q2b, q2c, q2d, q2e, bx22, ax22, fx22, t1cx, t5cx, t6cx, t8cx, t18cx, t19cx, t20cx, H5cx, bx36, ax36, fx36, bx36, ax36, fx36, p37, up37]
        rw [LK_normal]
        refine ⟨_, rfl, ?_⟩
        refine ⟨v5cx, ?_, ?_, ?_, ?_, ?_, ?_⟩
        all_goals (first | rfl | (simp only [x_big_mul, seval, -Int.reduceToNat, q2a, q2b, q2c, q2d, q2e, bx22, ax22, fx22, t1cx, t5cx, t6cx, t8cx, t18cx, t19cx, t20cx, H5cx, bx36, ax36, fx36, bx36, ax36, fx36, p37, up37] <;> rfl))
    · replace hh := ite_f hb21 hh
      cases hh
      try simp only [x_big_mul, seval, -Int.reduceToNat, q2a, q2b, q2c, q2d, q2e, t1a, t5a, t18a, t19a, t20a, H5a]
      rw [LK_exit]
      refine ⟨_, rfl, ?_⟩
      refine ⟨rfl, ⟨v5a, ?_, ?_⟩⟩
      all_goals (first | rfl | (simp only [x_big_mul, seval, -Int.reduceToNat, q2a, q2b, q2c, q2d, q2e, t1a, t5a, t18a, t19a, t20a, H5a] <;> rfl))
  · rintro x t H e hx
    obtain ⟨l5ax, rfl⟩ : ∃ z, z = o20 := ⟨_, rfl⟩
    dsimp only at hx hh
    obtain ⟨rfl, ⟨v5ax, t5ax, H5ax⟩⟩ := hx
    have i38 := q_big_trim_w [] [] l5ax
    try simp only [List.nil_append, List.append_nil, List.length_nil, encL_cons, List.length_set, vmz] at i38
    obtain ⟨r39, hr39, hh⟩ := bindS hh
    cases hh
    try simp only [x_big_mul, seval, -Int.reduceToNat, q2a, q2b, q2c, q2d, q2e, t5ax, H5ax, i38, hr39]

theorem ok_big_mul : COk Try.prog 77 G_big_mul := COk.of (mode := (.fresh 3 1)) tok ge_big_mul mixed Try.func77 (by kernel_rfl) ⟨by kernel_rfl, by kernel_rfl⟩ (fun _ => Nat.le_of_ble_eq_true (by kernel_rfl)) (fun x r h => m_big_mul x.1 x.2 r h)

noncomputable def G_big_settle_w := mkW 3 (eI .i64) (asC (aSl (eI .i64)) (as1 (aI .i64))) (fun (l : (List Int)) (x : (List Int) × Int) => big_settle_w l x.1 x.2) (fun r : Int => .clean (.int .i64 r))

theorem q_big_settle_w (pre post : List D) (p0 : (List Int)) (p1 : (List Int)) (p2 : Int) : G_big_settle_w (some (.buf 0 0 1 pre.length p0.length, ⟨0, 3, pre ++ (encL (eI .i64) p0 ++ post), false, true⟩)) [.sl false false p1.length (encL (eI .i64) p1), .int .i64 p2] = (big_settle_w p0 p1 p2).map fun r => (.clean (.int .i64 r.2), some ⟨0, 3, pre ++ (encL (eI .i64) r.1 ++ post), false, true⟩) := mkW_eq _ _ _ _ _ pre post p0 (p1, p2)

theorem m_big_settle_w (pre post : List D) (p0 : (List Int)) (p1 : (List Int)) (p2 : Int) (r : (List Int) × (Int)) (hh : big_settle_w p0 p1 p2 = some r) : vfunc .clean tab noEnv FU Try.f78 (some (.buf 0 0 1 pre.length p0.length, ⟨0, 3, pre ++ (encL (eI .i64) p0 ++ post), false, true⟩)) [.sl false false p1.length (encL (eI .i64) p1), .int .i64 p2] = some (.clean (.int .i64 r.2), some ⟨0, 3, pre ++ (encL (eI .i64) r.1 ++ post), false, true⟩) := by
  refine vfunc_lent rfl Try.ntmps78 Try.results78 ?_
  unfold big_settle_w at hh
  obtain ⟨rw, hrw, hh⟩ := bindS hh
  split at hh
  rotate_left
  · cases hh
  cases hh
  rename_i hlen
  replace hh := hrw
  unfold big_settle_w_B at hh
  try simp only [w, seval, -Int.reduceToNat]
  obtain ⟨o9, ho9, hh⟩ := bindS hh
  refine runLoop_sim (fun s t H e => match s with | (s7a, s14a, l0a) => t 0 = .buf 0 0 1 pre.length (l0a).length ∧ t 1 = .sl false false p1.length (encL (eI .i64) p1) ∧ t 2 = .int .i64 p2 ∧ t 7 = .int .i64 s7a ∧ t 13 = .int .i64 ((p0).length : Int) ∧ t 14 = .int .i64 s14a ∧ H 0 = some ⟨0, 3, pre ++ (encL (eI .i64) l0a ++ post), false, true⟩) (fun o x t H e => match o with | (s7ax, l0ax) => x = .exit 0 ∧ t 0 = .buf 0 0 1 pre.length (l0ax).length ∧ t 1 = .sl false false p1.length (encL (eI .i64) p1) ∧ t 2 = .int .i64 p2 ∧ t 7 = .int .i64 s7ax ∧ H 0 = some ⟨0, 3, pre ++ (encL (eI .i64) l0ax ++ post), false, true⟩) ho9 ?_ ?_ ?_
  ·
    refine ⟨?_, ?_, ?_, ?_, ?_, ?_, ?_⟩
    all_goals (first | rfl | (simp only [w, seval, -Int.reduceToNat] <;> rfl))
  · rintro ⟨s7a, s14a, l0a⟩ t H e ⟨t0a, t1a, t2a, t7a, t13a, t14a, H0a⟩ c hh
    simp only [big_settle_w_L1] at hh
    try simp only [w, seval, -Int.reduceToNat, t0a, t1a, t2a, t7a, t13a, t14a, H0a]
    refine tstC_br (fun hb10 => ?_) (fun hb10 => ?_)
    · replace hh := ite_t hb10 hh
      obtain ⟨x11, hx11, hh⟩ := bindS hh
      have bx11 := idx_bd hx11
      have ax11 := idxW_enc (pre := pre) (post := post) (eI .i64) hx11
      have fx11 := idxW_fit (pre := pre) (post := post) (eI .i64) hx11
      simp only [vmz] at ax11 fx11
      skip
      try simp only [w, seval, -Int.reduceToNat, t0a, t1a, t2a, t7a, t13a, t14a, H0a, bx11, ax11, fx11]
      obtain ⟨o12, ho12, hh⟩ := bindS hh
      refine tstC_cut 0 (fun s t H e => match s with | s9j3 => t 0 = .buf 0 0 1 pre.length (l0a).length ∧ t 1 = .sl false false p1.length (encL (eI .i64) p1) ∧ t 2 = .int .i64 p2 ∧ t 8 = .int .i64 s14a ∧ t 9 = .int .i64 s9j3 ∧ t 13 = .int .i64 ((p0).length : Int) ∧ t 14 = .int .i64 s14a ∧ H 0 = some ⟨0, 3, pre ++ (encL (eI .i64) l0a ++ post), false, true⟩) (fun s => s = o12) ?_ ?_
      · rintro s9j3 t H e ⟨t0j3, t1j3, t2j3, t8j3, t9j3, t13j3, t14j3, H0j3⟩ rfl
        try dsimp only at hh
        have bx11 := idx_bd hx11
        have ax11 := idxW_enc (pre := pre) (post := post) (eI .i64) hx11
        have fx11 := idxW_fit (pre := pre) (post := post) (eI .i64) hx11
        simp only [vmz] at ax11 fx11
        skip
        have p13 := putW_enc (pre := pre) (post := post) (eI .i64) (y' := bitI .and .i64 s9j3 1048575) hx11
        simp only [vmz] at p13
        have up13 := p13
        simp only [putCells, List.length_cons, List.length_nil, Nat.zero_add, Nat.reduceAdd] at up13
        obtain ⟨x14, hx14, hh⟩ := bindS hh
        obtain ⟨q15a, q15b⟩ := shrI_ok hx14
        cases hh
        try simp only [w, seval, -Int.reduceToNat, bx11, ax11, fx11, t0j3, t1j3, t2j3, t8j3, t9j3, t13j3, t14j3, H0j3, bx11, ax11, fx11, p13, up13, q15a, q15b]
        rw [LK_normal]
        refine ⟨_, rfl, ?_⟩
        refine ⟨?_, ?_, ?_, ?_, ?_, ?_, ?_⟩
        all_goals (first | rfl | (simp only [w, seval, -Int.reduceToNat, bx11, ax11, fx11, t0j3, t1j3, t2j3, t8j3, t9j3, t13j3, t14j3, H0j3, bx11, ax11, fx11, p13, up13, q15a, q15b] <;> rfl))
      ·
        clear hh
        have hh := ho12
        try simp only [w, seval, -Int.reduceToNat, t0a, t1a, t2a, t7a, t13a, t14a, H0a, bx11, ax11, fx11]
        refine tstC_br (fun hb16 => ?_) (fun hb16 => ?_)
        · replace hh := ite_t hb16 hh
          obtain ⟨x17, hx17, hh⟩ := bindS hh
          have bx17 := idx_bd hx17
          have ax17 := idx_enc (eI .i64) hx17
          have fx17 := idx_fit (eI .i64) hx17
          simp only [vmz] at ax17 fx17
          skip
          cases hh
          try simp only [w, seval, -Int.reduceToNat, t0a, t1a, t2a, t7a, t13a, t14a, H0a, bx11, ax11, fx11, bx17, ax17, fx17]
          rw [CK_normal]
          refine ⟨_, rfl, ?_⟩
          refine ⟨?_, ?_, ?_, ?_, ?_, ?_, ?_, ?_⟩
          all_goals (first | rfl | (simp only [w, seval, -Int.reduceToNat, t0a, t1a, t2a, t7a, t13a, t14a, H0a, bx11, ax11, fx11, bx17, ax17, fx17] <;> rfl))
        · replace hh := ite_f hb16 hh
          cases hh
          try simp only [w, seval, -Int.reduceToNat, t0a, t1a, t2a, t7a, t13a, t14a, H0a, bx11, ax11, fx11]
          rw [CK_normal]
          refine ⟨_, rfl, ?_⟩
          refine ⟨?_, ?_, ?_, ?_, ?_, ?_, ?_, ?_⟩
          all_goals (first | rfl | (simp only [w, seval, -Int.reduceToNat, t0a, t1a, t2a, t7a, t13a, t14a, H0a, bx11, ax11, fx11] <;> rfl))
    · replace hh := ite_f hb10 hh
      cases hh
      try simp only [w, seval, -Int.reduceToNat, t0a, t1a, t2a, t7a, t13a, t14a, H0a]
      rw [LK_exit]
      refine ⟨_, rfl, ?_⟩
      refine ⟨rfl, ⟨?_, ?_, ?_, ?_, ?_⟩⟩
      all_goals (first | rfl | (simp only [w, seval, -Int.reduceToNat, t0a, t1a, t2a, t7a, t13a, t14a, H0a] <;> rfl))
  · rintro x t H e hx
    rcases o9 with ⟨s7ax, l0ax⟩
    dsimp only at hx hh
    obtain ⟨rfl, ⟨t0ax, t1ax, t2ax, t7ax, H0ax⟩⟩ := hx
    try simp only [w, seval, -Int.reduceToNat, t0ax, t1ax, t2ax, t7ax, H0ax]
    refine tstC_br (fun hb18 => ?_) (fun hb18 => ?_)
    · replace hh := ite_t hb18 hh
      cases hh
      try simp only [w, seval, -Int.reduceToNat, t0ax, t1ax, t2ax, t7ax, H0ax]
    · replace hh := ite_f hb18 hh
      try simp only [w, seval, -Int.reduceToNat, t0ax, t1ax, t2ax, t7ax, H0ax]
      obtain ⟨o27, ho27, hh⟩ := bindS hh
      refine runLoop_sim (fun s t H e => match s with | (s10d, s49d, l0d) => t 0 = .buf 0 0 1 pre.length (l0d).length ∧ t 1 = .sl false false p1.length (encL (eI .i64) p1) ∧ t 2 = .int .i64 p2 ∧ t 10 = .int .i64 s10d ∧ t 48 = .int .i64 ((l0ax).length : Int) ∧ t 49 = .int .i64 s49d ∧ H 0 = some ⟨0, 3, pre ++ (encL (eI .i64) l0d ++ post), false, true⟩) (fun o x t H e => match o with | l0dx => x = .exit 2 ∧ t 0 = .buf 0 0 1 pre.length (l0dx).length ∧ t 2 = .int .i64 p2 ∧ H 0 = some ⟨0, 3, pre ++ (encL (eI .i64) l0dx ++ post), false, true⟩) ho27 ?_ ?_ ?_
      ·
        refine ⟨?_, ?_, ?_, ?_, ?_, ?_, ?_⟩
        all_goals (first | rfl | (simp only [w, seval, -Int.reduceToNat, t0ax, t1ax, t2ax, t7ax, H0ax] <;> rfl))
      · rintro ⟨s10d, s49d, l0d⟩ t H e ⟨t0d, t1d, t2d, t10d, t48d, t49d, H0d⟩ c hh
        simp only [big_settle_w_L4] at hh
        try simp only [w, seval, -Int.reduceToNat, t0d, t1d, t2d, t10d, t48d, t49d, H0d]
        refine tstC_br (fun hb28 => ?_) (fun hb28 => ?_)
        · replace hh := ite_t hb28 hh
          obtain ⟨x29, hx29, hh⟩ := bindS hh
          have bx29 := idx_bd hx29
          have ax29 := idxW_enc (pre := pre) (post := post) (eI .i64) hx29
          have fx29 := idxW_fit (pre := pre) (post := post) (eI .i64) hx29
          simp only [vmz] at ax29 fx29
          skip
          try simp only [w, seval, -Int.reduceToNat, t0d, t1d, t2d, t10d, t48d, t49d, H0d, bx29, ax29, fx29]
          obtain ⟨o30, ho30, hh⟩ := bindS hh
          refine tstC_cut 0 (fun s t H e => match s with | s10j6 => t 0 = .buf 0 0 1 pre.length (l0d).length ∧ t 1 = .sl false false p1.length (encL (eI .i64) p1) ∧ t 2 = .int .i64 p2 ∧ t 10 = .int .i64 s10j6 ∧ t 11 = .int .i64 s49d ∧ t 48 = .int .i64 ((l0ax).length : Int) ∧ t 49 = .int .i64 s49d ∧ H 0 = some ⟨0, 3, pre ++ (encL (eI .i64) l0d ++ post), false, true⟩) (fun s => s = o30) ?_ ?_
          · rintro s10j6 t H e ⟨t0j6, t1j6, t2j6, t10j6, t11j6, t48j6, t49j6, H0j6⟩ rfl
            try dsimp only at hh
            have bx29 := idx_bd hx29
            have ax29 := idxW_enc (pre := pre) (post := post) (eI .i64) hx29
            have fx29 := idxW_fit (pre := pre) (post := post) (eI .i64) hx29
            simp only [vmz] at ax29 fx29
            skip
            have p31 := putW_enc (pre := pre) (post := post) (eI .i64) (y' := bitI .and .i64 s10j6 1048575) hx29
            simp only [vmz] at p31
            have up31 := p31
            simp only [putCells, List.length_cons, List.length_nil, Nat.zero_add, Nat.reduceAdd] at up31
            obtain ⟨x32, hx32, hh⟩ := bindS hh
            obtain ⟨q33a, q33b⟩ := shrI_ok hx32
            cases hh
            try simp only [w, seval, -Int.reduceToNat, bx29, ax29, fx29, t0j6, t1j6, t2j6, t10j6, t11j6, t48j6, t49j6, H0j6, bx29, ax29, fx29, p31, up31, q33a, q33b]
            rw [LK_normal]
            refine ⟨_, rfl, ?_⟩
            refine ⟨?_, ?_, ?_, ?_, ?_, ?_, ?_⟩
            all_goals (first | rfl | (simp only [w, seval, -Int.reduceToNat, bx29, ax29, fx29, t0j6, t1j6, t2j6, t10j6, t11j6, t48j6, t49j6, H0j6, bx29, ax29, fx29, p31, up31, q33a, q33b] <;> rfl))
          ·
            clear hh
            have hh := ho30
            try simp only [w, seval, -Int.reduceToNat, t0d, t1d, t2d, t10d, t48d, t49d, H0d, bx29, ax29, fx29]
            refine tstC_br (fun hb34 => ?_) (fun hb34 => ?_)
            · replace hh := ite_t hb34 hh
              obtain ⟨x35, hx35, hh⟩ := bindS hh
              have bx35 := idx_bd hx35
              have ax35 := idx_enc (eI .i64) hx35
              have fx35 := idx_fit (eI .i64) hx35
              simp only [vmz] at ax35 fx35
              skip
              cases hh
              try simp only [w, seval, -Int.reduceToNat, t0d, t1d, t2d, t10d, t48d, t49d, H0d, bx29, ax29, fx29, bx35, ax35, fx35]
              rw [CK_normal]
              refine ⟨_, rfl, ?_⟩
              refine ⟨?_, ?_, ?_, ?_, ?_, ?_, ?_, ?_⟩
              all_goals (first | rfl | (simp only [w, seval, -Int.reduceToNat, t0d, t1d, t2d, t10d, t48d, t49d, H0d, bx29, ax29, fx29, bx35, ax35, fx35] <;> rfl))
            · replace hh := ite_f hb34 hh
              cases hh
              try simp only [w, seval, -Int.reduceToNat, t0d, t1d, t2d, t10d, t48d, t49d, H0d, bx29, ax29, fx29]
              rw [CK_normal]
              refine ⟨_, rfl, ?_⟩
              refine ⟨?_, ?_, ?_, ?_, ?_, ?_, ?_, ?_⟩
              all_goals (first | rfl | (simp only [w, seval, -Int.reduceToNat, t0d, t1d, t2d, t10d, t48d, t49d, H0d, bx29, ax29, fx29] <;> rfl))
        · replace hh := ite_f hb28 hh
          cases hh
          try simp only [w, seval, -Int.reduceToNat, t0d, t1d, t2d, t10d, t48d, t49d, H0d]
          rw [LK_exit]
          refine ⟨_, rfl, ?_⟩
          refine ⟨rfl, ⟨?_, ?_, ?_⟩⟩
          all_goals (first | rfl | (simp only [w, seval, -Int.reduceToNat, t0d, t1d, t2d, t10d, t48d, t49d, H0d] <;> rfl))
      · rintro x t H e hx
        obtain ⟨l0dx, rfl⟩ : ∃ z, z = o27 := ⟨_, rfl⟩
        dsimp only at hx hh
        obtain ⟨rfl, ⟨t0dx, t2dx, H0dx⟩⟩ := hx
        cases hh
        try simp only [w, seval, -Int.reduceToNat, t0dx, t2dx, H0dx]

theorem ok_big_settle_w : COk Try.prog 78 G_big_settle_w := COk.lentW (mode := .clean) tok GOk.none mixed Try.func78 (by kernel_rfl) ⟨by kernel_rfl, by kernel_rfl⟩ (fun _ => Nat.le_of_ble_eq_true (by kernel_rfl)) (fun pre post l x l' r h => m_big_settle_w pre post l x.1 x.2 (l', r) h)

noncomputable def G_big_div := mkG (asC (aSl (eI .i64)) (as1 (aSl (eI .i64)))) (fun x : (List Int) × (List Int) => big_div x.1 x.2) (fun r : (List Int) × (List Int) => .clean (.tup [.sl false false r.1.length (encL (eI .i64) r.1), .sl false false r.2.length (encL (eI .i64) r.2)]))

theorem q_big_div (p0 : (List Int)) (p1 : (List Int)) : G_big_div none [.sl false false p0.length (encL (eI .i64) p0), .sl false false p1.length (encL (eI .i64) p1)] = (big_div p0 p1).map fun r : (List Int) × (List Int) => (.clean (.tup [.sl false false r.1.length (encL (eI .i64) r.1), .sl false false r.2.length (encL (eI .i64) r.2)]), none) := mkG_eq _ _ _ (p0, p1)

noncomputable def g_big_div : Env := (Am.ext (Am.ext (Am.ext (Am.ext (Am.ext (Am.ext noEnv 60 false G_slices_Clone) 65 false G_big_compare) 75 false G_big_short) 76 false G_big_trim) 77 false G_big_mul) 78 true G_big_settle_w)

theorem ge_big_div : GOk Try.prog g_big_div := ((((((GOk.none.add ok_slices_Clone false).add ok_big_compare false).add ok_big_short false).add ok_big_trim false).add ok_big_mul false).add ok_big_settle_w true)

theorem gg_big_div : g_big_div = (Am.ext (Am.ext (Am.ext (Am.ext (Am.ext (Am.ext noEnv 60 false G_slices_Clone) 65 false G_big_compare) 75 false G_big_short) 76 false G_big_trim) 77 false G_big_mul) 78 true G_big_settle_w) := Eq.trans rfl rfl

theorem x_big_div : type_of% (And.intro @w <| And.intro @q_slices_Clone <| And.intro @q_big_compare <| And.intro @q_big_short <| And.intro @q_big_trim <| And.intro @q_big_mul <| @gg_big_div) := And.intro @w <| And.intro @q_slices_Clone <| And.intro @q_big_compare <| And.intro @q_big_short <| And.intro @q_big_trim <| And.intro @q_big_mul <| @gg_big_div

theorem m_big_div (p0 : (List Int)) (p1 : (List Int)) (r : (List Int) × (List Int)) (hh : big_div p0 p1 = some r) : vfunc .clean tab g_big_div FU Try.f61 none [.sl false false p0.length (encL (eI .i64) p0), .sl false false p1.length (encL (eI .i64) p1)] = some (.clean (.tup [.sl false false r.1.length (encL (eI .i64) r.1), .sl false false r.2.length (encL (eI .i64) r.2)]), none) := by
  refine vfunc_of rfl Try.ntmps61 Try.results61 ?_
  unfold big_div at hh
  obtain ⟨r1, hr1, hh⟩ := bindS hh
  try simp only [x_big_div, seval, -Int.reduceToNat, hr1]
  refine tstC_br (fun hb2 => ?_) (fun hb2 => ?_)
  · replace hh := ite_t hb2 hh
    obtain ⟨r3, hr3, hh⟩ := bindS hh
    cases hh
    try simp only [x_big_div, seval, -Int.reduceToNat, hr1, hr3]
  · replace hh := ite_f hb2 hh
    try simp only [x_big_div, seval, -Int.reduceToNat, hr1]
    refine tstC_br (fun hb4 => ?_) (fun hb4 => ?_)
    · replace hh := ite_t hb4 hh
      obtain ⟨x5, hx5, hh⟩ := bindS hh
      have bx5 := idx_bd hx5
      have ax5 := idx_enc (eI .i64) hx5
      have fx5 := idx_fit (eI .i64) hx5
      simp only [vmz] at ax5 fx5
      skip
      obtain ⟨r6, hr6, hh⟩ := bindS hh
      have i7 := q_big_trim ([r6.2])
      simp only [encL_cons, vmz, List.length_cons, List.length_nil, Nat.zero_add, Nat.reduceAdd, List.length_set] at i7
      obtain ⟨r8, hr8, hh⟩ := bindS hh
      cases hh
      try simp only [x_big_div, seval, -Int.reduceToNat, hr1, bx5, ax5, fx5, hr6, i7, hr8]
    · replace hh := ite_f hb4 hh
      try simp only [x_big_div, seval, -Int.reduceToNat, hr1]
      obtain ⟨o11, ho11, hh⟩ := bindS hh
      refine runLoop_sim (fun s t H e => match s with | s8a => t 0 = .sl false false p0.length (encL (eI .i64) p0) ∧ t 1 = .sl false false p1.length (encL (eI .i64) p1) ∧ t 8 = .int .i64 s8a) (fun o x t H e => match o with | s8ax => x = .exit 0 ∧ t 0 = .sl false false p0.length (encL (eI .i64) p0) ∧ t 1 = .sl false false p1.length (encL (eI .i64) p1) ∧ t 8 = .int .i64 s8ax) ho11 ?_ ?_ ?_
      ·
        refine ⟨?_, ?_, ?_⟩
        all_goals (first | rfl | (simp only [x_big_div, seval, -Int.reduceToNat, hr1] <;> rfl))
      · rintro s8a t H e ⟨t0a, t1a, t8a⟩ c hh
        simp only [big_div_L1] at hh
        obtain ⟨x12, hx12, hh⟩ := bindS hh
        have bx12 := idx_bd hx12
        have ax12 := idx_enc (eI .i64) hx12
        have fx12 := idx_fit (eI .i64) hx12
        simp only [vmz] at ax12 fx12
        skip
        try simp only [x_big_div, seval, -Int.reduceToNat, hr1, t0a, t1a, t8a, bx12, ax12, fx12]
        refine tstC_br (fun hb13 => ?_) (fun hb13 => ?_)
        · replace hh := ite_t hb13 hh
          cases hh
          try simp only [x_big_div, seval, -Int.reduceToNat, hr1, t0a, t1a, t8a, bx12, ax12, fx12]
          rw [LK_normal]
          refine ⟨_, rfl, ?_⟩
          refine ⟨?_, ?_, ?_⟩
          all_goals (first | rfl | (simp only [x_big_div, seval, -Int.reduceToNat, hr1, t0a, t1a, t8a, bx12, ax12, fx12] <;> rfl))
        · replace hh := ite_f hb13 hh
          cases hh
          try simp only [x_big_div, seval, -Int.reduceToNat, hr1, t0a, t1a, t8a, bx12, ax12, fx12]
          rw [LK_exit]
          refine ⟨_, rfl, ?_⟩
          refine ⟨rfl, ⟨?_, ?_, ?_⟩⟩
          all_goals (first | rfl | (simp only [x_big_div, seval, -Int.reduceToNat, hr1, t0a, t1a, t8a, bx12, ax12, fx12] <;> rfl))
      · rintro x t H e hx
        obtain ⟨s8ax, rfl⟩ : ∃ z, z = o11 := ⟨_, rfl⟩
        dsimp only at hx hh
        obtain ⟨rfl, ⟨t0ax, t1ax, t8ax⟩⟩ := hx
        have i14 := q_big_mul p0 ([s8ax])
        simp only [encL_cons, vmz, List.length_cons, List.length_nil, Nat.zero_add, Nat.reduceAdd, List.length_set] at i14
        obtain ⟨r15, hr15, hh⟩ := bindS hh
        obtain ⟨x16, hx16, hh⟩ := bindS hh
        obtain ⟨q17a, q17b, q17c, q17d⟩ := app_one (eI .i64) hx16
        simp only [vmz] at q17b
        have i18 := q_big_mul p1 ([s8ax])
        simp only [encL_cons, vmz, List.length_cons, List.length_nil, Nat.zero_add, Nat.reduceAdd, List.length_set] at i18
        obtain ⟨r19, hr19, hh⟩ := bindS hh
        try simp only [x_big_div, seval, -Int.reduceToNat, hr1, t0ax, t1ax, t8ax, i14, hr15, q17a, q17b, q17c, q17d, i18, hr19]
        obtain ⟨o20, ho20, hh⟩ := bindS hh
        refine tstC_cut 0 (fun s t H e => match s with | l9j2 => ∃ v9j2 : Nat, ∃ v10j2 : Nat, t 8 = .int .i64 s8ax ∧ t 9 = .buf 9 v9j2 1 0 (l9j2).length ∧ t 10 = .buf 10 v10j2 1 0 (r19).length ∧ H 9 = some ⟨v9j2, 3, encL (eI .i64) l9j2, false, true⟩ ∧ H 10 = some ⟨v10j2, 3, encL (eI .i64) r19, false, true⟩) (fun s => s = o20) ?_ ?_
        · rintro l9j2 t H e ⟨v9j2, v10j2, t8j2, t9j2, t10j2, H9j2, H10j2⟩ rfl
          try dsimp only at hh
          obtain ⟨x21, hx21, hh⟩ := bindS hh
          obtain ⟨q22a, q22b, q22c, q22d, q22e⟩ := mk_one (eI .i64) hx21
          simp only [vmz] at q22d
          try simp only [x_big_div, seval, -Int.reduceToNat, hr1, i14, hr15, q17a, q17b, q17c, q17d, i18, hr19, t8j2, t9j2, t10j2, H9j2, H10j2, q22a, q22b, q22c, q22d, q22e]
          obtain ⟨o58, ho58, hh⟩ := bindS hh
          refine runLoop_sim (fun s t H e => match s with | (s13c, l9c, l12c) => ∃ v9c : Nat, ∃ v10c : Nat, ∃ v12c : Nat, ∃ z10c : Bool, t 8 = .int .i64 s8ax ∧ t 9 = .buf 9 v9c 1 0 (l9c).length ∧ t 10 = .buf 10 v10c 1 0 (r19).length ∧ t 11 = .int .i64 ((r19).length : Int) ∧ t 12 = .buf 12 v12c 1 0 (l12c).length ∧ t 13 = .int .i64 s13c ∧ H 9 = some ⟨v9c, 3, encL (eI .i64) l9c, false, true⟩ ∧ H 10 = some ⟨v10c, 3, encL (eI .i64) r19, z10c, true⟩ ∧ H 12 = some ⟨v12c, 3, encL (eI .i64) l12c, false, true⟩) (fun o x t H e => match o with | (l9cx, l12cx) => x = .exit 2 ∧ ∃ v9cx : Nat, ∃ v12cx : Nat, t 8 = .int .i64 s8ax ∧ t 9 = .buf 9 v9cx 1 0 (l9cx).length ∧ t 12 = .buf 12 v12cx 1 0 (l12cx).length ∧ H 9 = some ⟨v9cx, 3, encL (eI .i64) l9cx, false, true⟩ ∧ H 12 = some ⟨v12cx, 3, encL (eI .i64) l12cx, false, true⟩) ho58 ?_ ?_ ?_
          ·
            refine ⟨v9j2, v10j2, e + 1, false, ?_, ?_, ?_, ?_, ?_, ?_, ?_, ?_, ?_⟩
            all_goals (first | rfl | (simp only [x_big_div, seval, -Int.reduceToNat, hr1, i14, hr15, q17a, q17b, q17c, q17d, i18, hr19, t8j2, t9j2, t10j2, H9j2, H10j2, q22a, q22b, q22c, q22d, q22e] <;> rfl))
          · rintro ⟨s13c, l9c, l12c⟩ t H e ⟨v9c, v10c, v12c, z10c, t8c, t9c, t10c, t11c, t12c, t13c, H9c, H10c, H12c⟩ c hh
            simp only [big_div_L3] at hh
            try simp only [x_big_div, seval, -Int.reduceToNat, hr1, i14, hr15, q17a, q17b, q17c, q17d, i18, hr19, q22a, q22b, q22c, q22d, q22e, t8c, t9c, t10c, t11c, t12c, t13c, H9c, H10c, H12c]
            refine tstC_br (fun hb59 => ?_) (fun hb59 => ?_)
            · replace hh := ite_t hb59 hh
              obtain ⟨x60, hx60, hh⟩ := bindS hh
              have bx60 := idx_bd hx60
              have ax60 := idx_enc (eI .i64) hx60
              have fx60 := idx_fit (eI .i64) hx60
              simp only [vmz] at ax60 fx60
              skip
              obtain ⟨x61, hx61, hh⟩ := bindS hh
              obtain ⟨q62a, q62b⟩ := shlI_ok hx61
              obtain ⟨x63, hx63, hh⟩ := bindS hh
              have bx63 := idx_bd hx63
              have ax63 := idx_enc (eI .i64) hx63
              have fx63 := idx_fit (eI .i64) hx63
              simp only [vmz] at ax63 fx63
              skip
              try simp only [x_big_div, seval, -Int.reduceToNat, hr1, i14, hr15, q17a, q17b, q17c, q17d, i18, hr19, q22a, q22b, q22c, q22d, q22e, t8c, t9c, t10c, t11c, t12c, t13c, H9c, H10c, H12c, bx60, ax60, fx60, q62a, q62b, bx63, ax63, fx63]
              refine dyn_ok (by kernel_rfl) ?_
              obtain ⟨x64, hx64, hh⟩ := bindS hh
              have bx64 := idx_bd hx64
              have ax64 := idx_enc (eI .i64) hx64
              have fx64 := idx_fit (eI .i64) hx64
              simp only [vmz] at ax64 fx64
              skip
              obtain ⟨x65, hx65, hh⟩ := bindS hh
              obtain ⟨q66a, q66b⟩ := divI_ok hx65
              have bx64 := idx_bd hx64
              have ax64 := idx_enc (eI .i64) hx64
              have fx64 := idx_fit (eI .i64) hx64
              simp only [vmz] at ax64 fx64
              skip
              obtain ⟨x67, hx67, hh⟩ := bindS hh
              obtain ⟨q68a, q68b⟩ := modI_ok hx67
              try simp only [x_big_div, seval, -Int.reduceToNat, hr1, i14, hr15, q17a, q17b, q17c, q17d, i18, hr19, q22a, q22b, q22c, q22d, q22e, t8c, t9c, t10c, t11c, t12c, t13c, H9c, H10c, H12c, bx60, ax60, fx60, q62a, q62b, bx63, ax63, fx63, bx64, ax64, fx64, q66a, q66b, bx64, ax64, fx64, q68a, q68b]
              refine dyn_ok (by kernel_rfl) ?_
              try simp only [x_big_div, seval, -Int.reduceToNat, hr1, i14, hr15, q17a, q17b, q17c, q17d, i18, hr19, q22a, q22b, q22c, q22d, q22e, t8c, t9c, t10c, t11c, t12c, t13c, H9c, H10c, H12c, bx60, ax60, fx60, q62a, q62b, bx63, ax63, fx63, bx64, ax64, fx64, q66a, q66b, bx64, ax64, fx64, q68a, q68b]
              obtain ⟨o78, ho78, hh⟩ := bindS hh
              refine runLoop_sim (fun s t H e => match s with | (s15g, s16g) => ∃ v9g : Nat, ∃ v10g : Nat, ∃ v12g : Nat, ∃ z10g : Bool, t 8 = .int .i64 s8ax ∧ t 9 = .buf 9 v9g 1 0 (l9c).length ∧ t 10 = .buf 10 v10g 1 0 (r19).length ∧ t 11 = .int .i64 ((r19).length : Int) ∧ t 12 = .buf 12 v12g 1 0 (l12c).length ∧ t 13 = .int .i64 s13c ∧ t 15 = .int .i64 s15g ∧ t 16 = .int .i64 s16g ∧ H 9 = some ⟨v9g, 3, encL (eI .i64) l9c, false, true⟩ ∧ H 10 = some ⟨v10g, 3, encL (eI .i64) r19, z10g, true⟩ ∧ H 12 = some ⟨v12g, 3, encL (eI .i64) l12c, false, true⟩) (fun o x t H e => match o with | s15gx => x = .exit 4 ∧ ∃ v9gx : Nat, ∃ v10gx : Nat, ∃ v12gx : Nat, ∃ z10gx : Bool, t 8 = .int .i64 s8ax ∧ t 9 = .buf 9 v9gx 1 0 (l9c).length ∧ t 10 = .buf 10 v10gx 1 0 (r19).length ∧ t 11 = .int .i64 ((r19).length : Int) ∧ t 12 = .buf 12 v12gx 1 0 (l12c).length ∧ t 13 = .int .i64 s13c ∧ t 15 = .int .i64 s15gx ∧ H 9 = some ⟨v9gx, 3, encL (eI .i64) l9c, false, true⟩ ∧ H 10 = some ⟨v10gx, 3, encL (eI .i64) r19, z10gx, true⟩ ∧ H 12 = some ⟨v12gx, 3, encL (eI .i64) l12c, false, true⟩) ho78 ?_ ?_ ?_
              ·
                refine ⟨v9c, v10c, v12c, z10c, ?_, ?_, ?_, ?_, ?_, ?_, ?_, ?_, ?_, ?_, ?_⟩
                all_goals (first | rfl | (simp only [x_big_div, seval, -Int.reduceToNat, hr1, i14, hr15, q17a, q17b, q17c, q17d, i18, hr19, q22a, q22b, q22c, q22d, q22e, t8c, t9c, t10c, t11c, t12c, t13c, H9c, H10c, H12c, bx60, ax60, fx60, q62a, q62b, bx63, ax63, fx63, bx64, ax64, fx64, q66a, q66b, bx64, ax64, fx64, q68a, q68b] <;> rfl))
              · rintro ⟨s15g, s16g⟩ t H e ⟨v9g, v10g, v12g, z10g, t8g, t9g, t10g, t11g, t12g, t13g, t15g, t16g, H9g, H10g, H12g⟩ c hh
                simp only [big_div_L7] at hh
                try simp only [x_big_div, seval, -Int.reduceToNat, hr1, i14, hr15, q17a, q17b, q17c, q17d, i18, hr19, q22a, q22b, q22c, q22d, q22e, bx60, ax60, fx60, q62a, q62b, bx63, ax63, fx63, bx64, ax64, fx64, q66a, q66b, bx64, ax64, fx64, q68a, q68b, t8g, t9g, t10g, t11g, t12g, t13g, t15g, t16g, H9g, H10g, H12g]
                obtain ⟨o79, ho79, hh⟩ := bindS hh
                refine tstP_cut 0 (fun s t H e => match s with | s137j9 => ∃ v9j9 : Nat, ∃ v10j9 : Nat, ∃ v12j9 : Nat, ∃ z10j9 : Bool, t 8 = .int .i64 s8ax ∧ t 9 = .buf 9 v9j9 1 0 (l9c).length ∧ t 10 = .buf 10 v10j9 1 0 (r19).length ∧ t 11 = .int .i64 ((r19).length : Int) ∧ t 12 = .buf 12 v12j9 1 0 (l12c).length ∧ t 13 = .int .i64 s13c ∧ t 15 = .int .i64 s15g ∧ t 16 = .int .i64 s16g ∧ t 137 = .bool s137j9 ∧ H 9 = some ⟨v9j9, 3, encL (eI .i64) l9c, false, true⟩ ∧ H 10 = some ⟨v10j9, 3, encL (eI .i64) r19, z10j9, true⟩ ∧ H 12 = some ⟨v12j9, 3, encL (eI .i64) l12c, false, true⟩) (fun s => s = o79) ?_ ?_
                · rintro s137j9 t H e ⟨v9j9, v10j9, v12j9, z10j9, t8j9, t9j9, t10j9, t11j9, t12j9, t13j9, t15j9, t16j9, t137j9, H9j9, H10j9, H12j9⟩ rfl
                  try dsimp only at hh
                  try simp only [x_big_div, seval, -Int.reduceToNat, hr1, i14, hr15, q17a, q17b, q17c, q17d, i18, hr19, q22a, q22b, q22c, q22d, q22e, bx60, ax60, fx60, q62a, q62b, bx63, ax63, fx63, bx64, ax64, fx64, q66a, q66b, bx64, ax64, fx64, q68a, q68b, t8j9, t9j9, t10j9, t11j9, t12j9, t13j9, t15j9, t16j9, t137j9, H9j9, H10j9, H12j9]
                  refine tstC_br (fun hb80 => ?_) (fun hb80 => ?_)
                  · replace hh := ite_t hb80 hh
                    have bx64 := idx_bd hx64
                    have ax64 := idx_enc (eI .i64) hx64
                    have fx64 := idx_fit (eI .i64) hx64
                    simp only [vmz] at ax64 fx64
                    skip
                    cases hh
                    try simp only [x_big_div, seval, -Int.reduceToNat, hr1, i14, hr15, q17a, q17b, q17c, q17d, i18, hr19, q22a, q22b, q22c, q22d, q22e, bx60, ax60, fx60, q62a, q62b, bx63, ax63, fx63, bx64, ax64, fx64, q66a, q66b, bx64, ax64, fx64, q68a, q68b, t8j9, t9j9, t10j9, t11j9, t12j9, t13j9, t15j9, t16j9, t137j9, H9j9, H10j9, H12j9, bx64, ax64, fx64]
                    rw [LK_normal]
                    refine ⟨_, rfl, ?_⟩
                    refine ⟨v9j9, v10j9, v12j9, z10j9, ?_, ?_, ?_, ?_, ?_, ?_, ?_, ?_, ?_, ?_, ?_⟩
                    all_goals (first | rfl | (simp only [x_big_div, seval, -Int.reduceToNat, hr1, i14, hr15, q17a, q17b, q17c, q17d, i18, hr19, q22a, q22b, q22c, q22d, q22e, bx60, ax60, fx60, q62a, q62b, bx63, ax63, fx63, bx64, ax64, fx64, q66a, q66b, bx64, ax64, fx64, q68a, q68b, t8j9, t9j9, t10j9, t11j9, t12j9, t13j9, t15j9, t16j9, t137j9, H9j9, H10j9, H12j9, bx64, ax64, fx64] <;> rfl))
                  · replace hh := ite_f hb80 hh
                    cases hh
                    try simp only [x_big_div, seval, -Int.reduceToNat, hr1, i14, hr15, q17a, q17b, q17c, q17d, i18, hr19, q22a, q22b, q22c, q22d, q22e, bx60, ax60, fx60, q62a, q62b, bx63, ax63, fx63, bx64, ax64, fx64, q66a, q66b, bx64, ax64, fx64, q68a, q68b, t8j9, t9j9, t10j9, t11j9, t12j9, t13j9, t15j9, t16j9, t137j9, H9j9, H10j9, H12j9]
                    rw [LK_exit]
                    refine ⟨_, rfl, ?_⟩
                    refine ⟨rfl, ⟨v9j9, v10j9, v12j9, z10j9, ?_, ?_, ?_, ?_, ?_, ?_, ?_, ?_, ?_, ?_⟩⟩
                    all_goals (first | rfl | (simp only [x_big_div, seval, -Int.reduceToNat, hr1, i14, hr15, q17a, q17b, q17c, q17d, i18, hr19, q22a, q22b, q22c, q22d, q22e, bx60, ax60, fx60, q62a, q62b, bx63, ax63, fx63, bx64, ax64, fx64, q66a, q66b, bx64, ax64, fx64, q68a, q68b, t8j9, t9j9, t10j9, t11j9, t12j9, t13j9, t15j9, t16j9, t137j9, H9j9, H10j9, H12j9] <;> rfl))
                ·
                  clear hh
                  have hh := ho79
                  try simp only [x_big_div, seval, -Int.reduceToNat, hr1, i14, hr15, q17a, q17b, q17c, q17d, i18, hr19, q22a, q22b, q22c, q22d, q22e, bx60, ax60, fx60, q62a, q62b, bx63, ax63, fx63, bx64, ax64, fx64, q66a, q66b, bx64, ax64, fx64, q68a, q68b, t8g, t9g, t10g, t11g, t12g, t13g, t15g, t16g, H9g, H10g, H12g]
                  refine tstP_br' (fun hb81 => ?_) (fun hb81 => ?_)
                  · replace hh := ite_t hb81 hh
                    try simp only [x_big_div, seval, -Int.reduceToNat, hr1, i14, hr15, q17a, q17b, q17c, q17d, i18, hr19, q22a, q22b, q22c, q22d, q22e, bx60, ax60, fx60, q62a, q62b, bx63, ax63, fx63, bx64, ax64, fx64, q66a, q66b, bx64, ax64, fx64, q68a, q68b, t8g, t9g, t10g, t11g, t12g, t13g, t15g, t16g, H9g, H10g, H12g]
                    refine dyn_ok (by kernel_rfl) ?_
                    cases hh
                    try simp only [x_big_div, seval, -Int.reduceToNat, hr1, i14, hr15, q17a, q17b, q17c, q17d, i18, hr19, q22a, q22b, q22c, q22d, q22e, bx60, ax60, fx60, q62a, q62b, bx63, ax63, fx63, bx64, ax64, fx64, q66a, q66b, bx64, ax64, fx64, q68a, q68b, t8g, t9g, t10g, t11g, t12g, t13g, t15g, t16g, H9g, H10g, H12g]
                    rw [CK_normal]
                    refine ⟨_, rfl, ?_⟩
                    refine ⟨v9g, v10g, v12g, z10g, ?_, ?_, ?_, ?_, ?_, ?_, ?_, ?_, ?_, ?_, ?_, ?_⟩
                    all_goals (first | rfl | (simp only [x_big_div, seval, -Int.reduceToNat, hr1, i14, hr15, q17a, q17b, q17c, q17d, i18, hr19, q22a, q22b, q22c, q22d, q22e, bx60, ax60, fx60, q62a, q62b, bx63, ax63, fx63, bx64, ax64, fx64, q66a, q66b, bx64, ax64, fx64, q68a, q68b, t8g, t9g, t10g, t11g, t12g, t13g, t15g, t16g, H9g, H10g, H12g] <;> rfl))
                  · replace hh := ite_f hb81 hh
                    try simp only [x_big_div, seval, -Int.reduceToNat, hr1, i14, hr15, q17a, q17b, q17c, q17d, i18, hr19, q22a, q22b, q22c, q22d, q22e, bx60, ax60, fx60, q62a, q62b, bx63, ax63, fx63, bx64, ax64, fx64, q66a, q66b, bx64, ax64, fx64, q68a, q68b, t8g, t9g, t10g, t11g, t12g, t13g, t15g, t16g, H9g, H10g, H12g]
                    refine tstP_br (fun hb82 => ?_) (fun hb82 => ?_)
                    · replace hh := ite_t hb82 hh
                      obtain ⟨x83, hx83, hh⟩ := bindS hh
                      have bx83 := idx_bd hx83
                      have ax83 := idx_enc (eI .i64) hx83
                      have fx83 := idx_fit (eI .i64) hx83
                      simp only [vmz] at ax83 fx83
                      skip
                      obtain ⟨x84, hx84, hh⟩ := bindS hh
                      obtain ⟨q85a, q85b⟩ := shlI_ok hx84
                      obtain ⟨x86, hx86, hh⟩ := bindS hh
                      have bx86 := idx_bd hx86
                      have ax86 := idx_enc (eI .i64) hx86
                      have fx86 := idx_fit (eI .i64) hx86
                      simp only [vmz] at ax86 fx86
                      skip
                      try simp only [x_big_div, seval, -Int.reduceToNat, hr1, i14, hr15, q17a, q17b, q17c, q17d, i18, hr19, q22a, q22b, q22c, q22d, q22e, bx60, ax60, fx60, q62a, q62b, bx63, ax63, fx63, bx64, ax64, fx64, q66a, q66b, bx64, ax64, fx64, q68a, q68b, t8g, t9g, t10g, t11g, t12g, t13g, t15g, t16g, H9g, H10g, H12g, bx83, ax83, fx83, q85a, q85b, bx86, ax86, fx86]
                      refine dyn_ok (by kernel_rfl) ?_
                      cases hh
                      try simp only [x_big_div, seval, -Int.reduceToNat, hr1, i14, hr15, q17a, q17b, q17c, q17d, i18, hr19, q22a, q22b, q22c, q22d, q22e, bx60, ax60, fx60, q62a, q62b, bx63, ax63, fx63, bx64, ax64, fx64, q66a, q66b, bx64, ax64, fx64, q68a, q68b, t8g, t9g, t10g, t11g, t12g, t13g, t15g, t16g, H9g, H10g, H12g, bx83, ax83, fx83, q85a, q85b, bx86, ax86, fx86]
                      rw [CK_normal]
                      refine ⟨_, rfl, ?_⟩
                      refine ⟨v9g, v10g, v12g, z10g, ?_, ?_, ?_, ?_, ?_, ?_, ?_, ?_, ?_, ?_, ?_, ?_⟩
                      all_goals (first | rfl | (simp only [x_big_div, seval, -Int.reduceToNat, hr1, i14, hr15, q17a, q17b, q17c, q17d, i18, hr19, q22a, q22b, q22c, q22d, q22e, bx60, ax60, fx60, q62a, q62b, bx63, ax63, fx63, bx64, ax64, fx64, q66a, q66b, bx64, ax64, fx64, q68a, q68b, t8g, t9g, t10g, t11g, t12g, t13g, t15g, t16g, H9g, H10g, H12g, bx83, ax83, fx83, q85a, q85b, bx86, ax86, fx86] <;> rfl))
                    · replace hh := ite_f hb82 hh
                      try simp only [x_big_div, seval, -Int.reduceToNat, hr1, i14, hr15, q17a, q17b, q17c, q17d, i18, hr19, q22a, q22b, q22c, q22d, q22e, bx60, ax60, fx60, q62a, q62b, bx63, ax63, fx63, bx64, ax64, fx64, q66a, q66b, bx64, ax64, fx64, q68a, q68b, t8g, t9g, t10g, t11g, t12g, t13g, t15g, t16g, H9g, H10g, H12g]
                      refine dyn_ok (by kernel_rfl) ?_
                      cases hh
                      try simp only [x_big_div, seval, -Int.reduceToNat, hr1, i14, hr15, q17a, q17b, q17c, q17d, i18, hr19, q22a, q22b, q22c, q22d, q22e, bx60, ax60, fx60, q62a, q62b, bx63, ax63, fx63, bx64, ax64, fx64, q66a, q66b, bx64, ax64, fx64, q68a, q68b, t8g, t9g, t10g, t11g, t12g, t13g, t15g, t16g, H9g, H10g, H12g]
                      rw [CK_normal]
                      refine ⟨_, rfl, ?_⟩
                      refine ⟨v9g, v10g, v12g, z10g, ?_, ?_, ?_, ?_, ?_, ?_, ?_, ?_, ?_, ?_, ?_, ?_⟩
                      all_goals (first | rfl | (simp only [x_big_div, seval, -Int.reduceToNat, hr1, i14, hr15, q17a, q17b, q17c, q17d, i18, hr19, q22a, q22b, q22c, q22d, q22e, bx60, ax60, fx60, q62a, q62b, bx63, ax63, fx63, bx64, ax64, fx64, q66a, q66b, bx64, ax64, fx64, q68a, q68b, t8g, t9g, t10g, t11g, t12g, t13g, t15g, t16g, H9g, H10g, H12g] <;> rfl))
              · rintro x t H e hx
                obtain ⟨s15gx, rfl⟩ : ∃ z, z = o78 := ⟨_, rfl⟩
                dsimp only at hx hh
                obtain ⟨rfl, ⟨v9gx, v10gx, v12gx, z10gx, t8gx, t9gx, t10gx, t11gx, t12gx, t13gx, t15gx, H9gx, H10gx, H12gx⟩⟩ := hx
                obtain ⟨x87, hx87, hh⟩ := bindS hh
                obtain ⟨q88a, q88b, q88c, q88d, q88e⟩ := slc_lh (eI .i64) hx87
                simp only [vmz] at q88e
                skip
                have i89 := q_big_settle_w (encL (eI .i64) (l9c.take (s13c).toNat)) (encL (eI .i64) (l9c.drop (IntKind.i64.wrap ((IntKind.i64.wrap (s13c + ((r19).length : Int))) + 1)).toNat)) x87 r19 s15gx
                simp only [win_app, win_enc (eI .i64) hx87, win_len (eI .i64) hx87, win_n hx87, vmz, Int.toNat_zero, Nat.zero_mul, Nat.sub_zero] at i89
                obtain ⟨r90, hr90, hh⟩ := bindS hh
                have q91l := len_big_settle_w hr90
                have q91m := win_keep hx87 q91l
                obtain ⟨x92, hx92, hh⟩ := bindS hh
                have bx92 := idx_bd hx92
                have ax92 := idx_enc (eI .i64) hx92
                have fx92 := idx_fit (eI .i64) hx92
                simp only [vmz] at ax92 fx92
                skip
                have p93 := put_enc (eI .i64) (x' := r90.2) (fo := 0) (cs := [.int .i64 r90.2]) hx92 rfl (Nat.le_of_ble_eq_true rfl)
                simp only [vmz, Nat.add_zero] at p93
                have up93 := p93
                simp only [putCells, List.length_cons, List.length_nil, Nat.zero_add, Nat.reduceAdd] at up93
                cases hh
                try simp only [x_big_div, seval, -Int.reduceToNat, hr1, i14, hr15, q17a, q17b, q17c, q17d, i18, hr19, q22a, q22b, q22c, q22d, q22e, bx60, ax60, fx60, q62a, q62b, bx63, ax63, fx63, bx64, ax64, fx64, q66a, q66b, bx64, ax64, fx64, q68a, q68b, t8gx, t9gx, t10gx, t11gx, t12gx, t13gx, t15gx, H9gx, H10gx, H12gx, q88a, q88b, q88c, q88e, i89, hr90, q91m, bx92, ax92, fx92, p93, up93]
                rw [LK_normal]
                refine ⟨_, rfl, ?_⟩
                refine ⟨v9gx, v10gx, v12gx, true, ?_, ?_, ?_, ?_, ?_, ?_, ?_, ?_, ?_⟩
                all_goals (first | rfl | (simp only [x_big_div, seval, -Int.reduceToNat, hr1, i14, hr15, q17a, q17b, q17c, q17d, i18, hr19, q22a, q22b, q22c, q22d, q22e, bx60, ax60, fx60, q62a, q62b, bx63, ax63, fx63, bx64, ax64, fx64, q66a, q66b, bx64, ax64, fx64, q68a, q68b, t8gx, t9gx, t10gx, t11gx, t12gx, t13gx, t15gx, H9gx, H10gx, H12gx, q88a, q88b, q88c, q88e, i89, hr90, q91m, bx92, ax92, fx92, p93, up93] <;> rfl))
            · replace hh := ite_f hb59 hh
              cases hh
              try simp only [x_big_div, seval, -Int.reduceToNat, hr1, i14, hr15, q17a, q17b, q17c, q17d, i18, hr19, q22a, q22b, q22c, q22d, q22e, t8c, t9c, t10c, t11c, t12c, t13c, H9c, H10c, H12c]
              rw [LK_exit]
              refine ⟨_, rfl, ?_⟩
              refine ⟨rfl, ⟨v9c, v12c, ?_, ?_, ?_, ?_, ?_⟩⟩
              all_goals (first | rfl | (simp only [x_big_div, seval, -Int.reduceToNat, hr1, i14, hr15, q17a, q17b, q17c, q17d, i18, hr19, q22a, q22b, q22c, q22d, q22e, t8c, t9c, t10c, t11c, t12c, t13c, H9c, H10c, H12c] <;> rfl))
          · rintro x t H e hx
            rcases o58 with ⟨l9cx, l12cx⟩
            dsimp only at hx hh
            obtain ⟨rfl, ⟨v9cx, v12cx, t8cx, t9cx, t12cx, H9cx, H12cx⟩⟩ := hx
            obtain ⟨r94, hr94, hh⟩ := bindS hh
            obtain ⟨r95, hr95, hh⟩ := bindS hh
            obtain ⟨r96, hr96, hh⟩ := bindS hh
            cases hh
            try simp only [x_big_div, seval, -Int.reduceToNat, hr1, i14, hr15, q17a, q17b, q17c, q17d, i18, hr19, q22a, q22b, q22c, q22d, q22e, t8cx, t9cx, t12cx, H9cx, H12cx, hr94, hr95, hr96]
        ·
          clear hh
          have hh := ho20
          try simp only [x_big_div, seval, -Int.reduceToNat, hr1, t0ax, t1ax, t8ax, i14, hr15, q17a, q17b, q17c, q17d, i18, hr19]
          refine tstC_br (fun hb97 => ?_) (fun hb97 => ?_)
          · replace hh := ite_t hb97 hh
            obtain ⟨x98, hx98, hh⟩ := bindS hh
            obtain ⟨q99a, q99b, q99c, q99d⟩ := app_one (eI .i64) hx98
            simp only [vmz] at q99b
            cases hh
            try simp only [x_big_div, seval, -Int.reduceToNat, hr1, t0ax, t1ax, t8ax, i14, hr15, q17a, q17b, q17c, q17d, i18, hr19, q99a, q99b, q99c, q99d]
            rw [CK_normal]
            refine ⟨_, rfl, ?_⟩
            refine ⟨e + 1 + 1, e, ?_, ?_, ?_, ?_, ?_⟩
            all_goals (first | rfl | (simp only [x_big_div, seval, -Int.reduceToNat, hr1, t0ax, t1ax, t8ax, i14, hr15, q17a, q17b, q17c, q17d, i18, hr19, q99a, q99b, q99c, q99d] <;> rfl))
          · replace hh := ite_f hb97 hh
            cases hh
            try simp only [x_big_div, seval, -Int.reduceToNat, hr1, t0ax, t1ax, t8ax, i14, hr15, q17a, q17b, q17c, q17d, i18, hr19]
            rw [CK_normal]
            refine ⟨_, rfl, ?_⟩
            refine ⟨e, e, ?_, ?_, ?_, ?_, ?_⟩
            all_goals (first | rfl | (simp only [x_big_div, seval, -Int.reduceToNat, hr1, t0ax, t1ax, t8ax, i14, hr15, q17a, q17b, q17c, q17d, i18, hr19] <;> rfl))

theorem ok_big_div : COk Try.prog 61 G_big_div := COk.of (mode := .clean) tok ge_big_div mixed Try.func61 (by kernel_rfl) ⟨by kernel_rfl, by kernel_rfl⟩ (fun _ => Nat.le_of_ble_eq_true (by kernel_rfl)) (fun x r h => m_big_div x.1 x.2 r h)

noncomputable def G_big_Gcd := mkG (asC (aAgg eTBig) (as1 (aAgg eTBig))) (fun x : TBig × TBig => big_Gcd x.1 x.2) (fun r : TBig × Int => .clean (.tup [.agg [.int .i64 r.1.f_Sign, .sl false false r.1.f_Digits.length (encL (eI .i64) r.1.f_Digits)], .int .i64 r.2]))

theorem q_big_Gcd (p0_0 : Int) (p0_1 : (List Int)) (p1_0 : Int) (p1_1 : (List Int)) : G_big_Gcd none [.agg [.int .i64 p0_0, .sl false false p0_1.length (encL (eI .i64) p0_1)], .agg [.int .i64 p1_0, .sl false false p1_1.length (encL (eI .i64) p1_1)]] = (big_Gcd (TBig.mk p0_0 p0_1) (TBig.mk p1_0 p1_1)).map fun r : TBig × Int => (.clean (.tup [.agg [.int .i64 r.1.f_Sign, .sl false false r.1.f_Digits.length (encL (eI .i64) r.1.f_Digits)], .int .i64 r.2]), none) := mkG_eq _ _ _ ((TBig.mk p0_0 p0_1), (TBig.mk p1_0 p1_1))

noncomputable def g_big_Gcd : Env := (Am.keep 6 (Am.ext (Am.ext (Am.ext (Am.ext (Am.ext noEnv 41 false G_big_Right) 59 false G_big_checked) 60 false G_slices_Clone) 61 false G_big_div) 62 false G_big_signed))

theorem ge_big_Gcd : GOk Try.prog g_big_Gcd := (GOk.keep (((((GOk.none.add ok_big_Right false).add ok_big_checked false).add ok_slices_Clone false).add ok_big_div false).add ok_big_signed false) 6)

theorem gg_big_Gcd : g_big_Gcd = (Am.keep 6 (Am.ext (Am.ext (Am.ext (Am.ext (Am.ext noEnv 41 false G_big_Right) 59 false G_big_checked) 60 false G_slices_Clone) 61 false G_big_div) 62 false G_big_signed)) := Eq.trans rfl rfl

theorem x_big_Gcd : type_of% (And.intro @w <| And.intro @q_big_Right <| And.intro @q_big_checked <| And.intro @q_slices_Clone <| And.intro @q_big_div <| And.intro @q_big_signed <| @gg_big_Gcd) := And.intro @w <| And.intro @q_big_Right <| And.intro @q_big_checked <| And.intro @q_slices_Clone <| And.intro @q_big_div <| And.intro @q_big_signed <| @gg_big_Gcd

theorem m_big_Gcd (p0 : TBig) (p1 : TBig) (r : TBig × Int) (hh : big_Gcd p0 p1 = some r) : vfunc .clean tab g_big_Gcd FU Try.f42 none [.agg [.int .i64 p0.f_Sign, .sl false false p0.f_Digits.length (encL (eI .i64) p0.f_Digits)], .agg [.int .i64 p1.f_Sign, .sl false false p1.f_Digits.length (encL (eI .i64) p1.f_Digits)]] = some (.clean (.tup [.agg [.int .i64 r.1.f_Sign, .sl false false r.1.f_Digits.length (encL (eI .i64) r.1.f_Digits)], .int .i64 r.2]), none) := by
  refine vfunc_of rfl Try.ntmps42 Try.results42 ?_
  unfold big_Gcd at hh
  obtain ⟨r1, hr1, hh⟩ := bindS hh
  try simp only [x_big_Gcd, seval, -Int.reduceToNat, hr1]
  obtain ⟨o2, ho2, hh⟩ := bindS hh
  refine tstO_cut 0 (fun s t H e => match s with | s17j1 => ∃ v2j1 : Nat, ∃ v3j1 : Nat, ∃ v4j1 : Nat, t 2 = .ptr 2 v2j1 0 ∧ t 3 = .ptr 3 v3j1 0 ∧ t 4 = .ptr 4 v4j1 0 ∧ t 17 = .bool s17j1 ∧ H 2 = some ⟨v2j1, 25, [.int .i64 p0.f_Sign, .sl false false p0.f_Digits.length (encL (eI .i64) p0.f_Digits)], false, false⟩ ∧ H 3 = some ⟨v3j1, 25, [.int .i64 p1.f_Sign, .sl false false p1.f_Digits.length (encL (eI .i64) p1.f_Digits)], false, false⟩ ∧ H 4 = some ⟨v4j1, 25, [.int .i64 0, .sl true true 0 []], false, false⟩) (fun s => s = o2) ?_ ?_
  · rintro s17j1 t H e ⟨v2j1, v3j1, v4j1, t2j1, t3j1, t4j1, t17j1, H2j1, H3j1, H4j1⟩ rfl
    try dsimp only at hh
    try simp only [x_big_Gcd, seval, -Int.reduceToNat, hr1, t2j1, t3j1, t4j1, t17j1, H2j1, H3j1, H4j1]
    refine tstC_br (fun hb3 => ?_) (fun hb3 => ?_)
    · replace hh := ite_t hb3 hh
      have i4 := q_big_checked false 0 ([])
      simp only [encL_cons, vmz, List.length_cons, List.length_nil, Nat.zero_add, Nat.reduceAdd, List.length_set] at i4
      obtain ⟨r5, hr5, hh⟩ := bindS hh
      cases hh
      try simp only [x_big_Gcd, seval, -Int.reduceToNat, hr1, t2j1, t3j1, t4j1, t17j1, H2j1, H3j1, H4j1, i4, hr5]
    · replace hh := ite_f hb3 hh
      obtain ⟨r6, hr6, hh⟩ := bindS hh
      try simp only [x_big_Gcd, seval, -Int.reduceToNat, hr1, t2j1, t3j1, t4j1, t17j1, H2j1, H3j1, H4j1, hr6]
      refine dyn_ok (by kernel_rfl) ?_
      try simp only [x_big_Gcd, seval, -Int.reduceToNat, hr1, t2j1, t3j1, t4j1, t17j1, H2j1, H3j1, H4j1, hr6]
      obtain ⟨o9, ho9, hh⟩ := bindS hh
      refine runLoop_sim (fun s t H e => match s with | (s6b, s7b) => ∃ v4b : Nat, t 4 = .ptr 4 v4b 0 ∧ t 6 = .sl false false s6b.length (encL (eI .i64) s6b) ∧ t 7 = .sl false false s7b.length (encL (eI .i64) s7b) ∧ H 4 = some ⟨v4b, 25, [.int .i64 0, .sl true true 0 []], false, false⟩) (fun o x t H e => match o with | s6bx => x = .exit 0 ∧ ∃ v4bx : Nat, t 4 = .ptr 4 v4bx 0 ∧ t 6 = .sl false false s6bx.length (encL (eI .i64) s6bx) ∧ H 4 = some ⟨v4bx, 25, [.int .i64 0, .sl true true 0 []], false, false⟩) ho9 ?_ ?_ ?_
      ·
        refine ⟨v4j1, ?_, ?_, ?_, ?_⟩
        all_goals (first | rfl | (simp only [x_big_Gcd, seval, -Int.reduceToNat, hr1, t2j1, t3j1, t4j1, t17j1, H2j1, H3j1, H4j1, hr6] <;> rfl))
      · rintro ⟨s6b, s7b⟩ t H e ⟨v4b, t4b, t6b, t7b, H4b⟩ c hh
        simp only [big_Gcd_L2] at hh
        try simp only [x_big_Gcd, seval, -Int.reduceToNat, hr1, hr6, t4b, t6b, t7b, H4b]
        refine tstC_br (fun hb10 => ?_) (fun hb10 => ?_)
        · replace hh := ite_t hb10 hh
          obtain ⟨r11, hr11, hh⟩ := bindS hh
          cases hh
          try simp only [x_big_Gcd, seval, -Int.reduceToNat, hr1, hr6, t4b, t6b, t7b, H4b, hr11]
          rw [LK_normal]
          refine ⟨_, rfl, ?_⟩
          refine ⟨v4b, ?_, ?_, ?_, ?_⟩
          all_goals (first | rfl | (simp only [x_big_Gcd, seval, -Int.reduceToNat, hr1, hr6, t4b, t6b, t7b, H4b, hr11] <;> rfl))
        · replace hh := ite_f hb10 hh
          cases hh
          try simp only [x_big_Gcd, seval, -Int.reduceToNat, hr1, hr6, t4b, t6b, t7b, H4b]
          rw [LK_exit]
          refine ⟨_, rfl, ?_⟩
          refine ⟨rfl, ⟨v4b, ?_, ?_, ?_⟩⟩
          all_goals (first | rfl | (simp only [x_big_Gcd, seval, -Int.reduceToNat, hr1, hr6, t4b, t6b, t7b, H4b] <;> rfl))
      · rintro x t H e hx
        obtain ⟨s6bx, rfl⟩ : ∃ z, z = o9 := ⟨_, rfl⟩
        dsimp only at hx hh
        obtain ⟨rfl, ⟨v4bx, t4bx, t6bx, H4bx⟩⟩ := hx
        obtain ⟨r12, hr12, hh⟩ := bindS hh
        obtain ⟨r13, hr13, hh⟩ := bindS hh
        obtain ⟨r14, hr14, hh⟩ := bindS hh
        cases hh
        try simp only [x_big_Gcd, seval, -Int.reduceToNat, hr1, hr6, t4bx, t6bx, H4bx, hr12, hr13, hr14]
  ·
    clear hh
    have hh := ho2
    try simp only [x_big_Gcd, seval, -Int.reduceToNat, hr1]
    refine tstO_br' (fun hb15 => ?_) (fun hb15 => ?_)
    · replace hh := ite_t hb15 hh
      cases hh
      try simp only [x_big_Gcd, seval, -Int.reduceToNat, hr1]
      rw [CK_normal]
      refine ⟨_, rfl, ?_⟩
      refine ⟨0, 0, 0, ?_, ?_, ?_, ?_, ?_, ?_, ?_⟩
      all_goals (first | rfl | (simp only [x_big_Gcd, seval, -Int.reduceToNat, hr1] <;> rfl))
    · replace hh := ite_f hb15 hh
      obtain ⟨r16, hr16, hh⟩ := bindS hh
      cases hh
      try simp only [x_big_Gcd, seval, -Int.reduceToNat, hr1, hr16]
      rw [CK_normal]
      refine ⟨_, rfl, ?_⟩
      refine ⟨0, 0, 0, ?_, ?_, ?_, ?_, ?_, ?_, ?_⟩
      all_goals (first | rfl | (simp only [x_big_Gcd, seval, -Int.reduceToNat, hr1, hr16] <;> rfl))

theorem ok_big_Gcd : COk Try.prog 42 G_big_Gcd := COk.of (mode := .clean) tok ge_big_Gcd mixed Try.func42 (by kernel_rfl) ⟨by kernel_rfl, by kernel_rfl⟩ (fun _ => Nat.le_of_ble_eq_true (by kernel_rfl)) (fun x r h => m_big_Gcd x.1 x.2 r h)

noncomputable def G_big_Int := mkG (as1 (aAgg eTBig)) (fun x : TBig => big_Int x) (fun r : Int × Bool => .clean (.tup [.int .i64 r.1, .bool r.2]))

theorem q_big_Int (p0_0 : Int) (p0_1 : (List Int)) : G_big_Int none [.agg [.int .i64 p0_0, .sl false false p0_1.length (encL (eI .i64) p0_1)]] = (big_Int (TBig.mk p0_0 p0_1)).map fun r : Int × Bool => (.clean (.tup [.int .i64 r.1, .bool r.2]), none) := mkG_eq _ _ _ ((TBig.mk p0_0 p0_1))

noncomputable def g_big_Int : Env := (Am.ext noEnv 41 false G_big_Right)

theorem ge_big_Int : GOk Try.prog g_big_Int := (GOk.none.add ok_big_Right false)

theorem gg_big_Int : g_big_Int = (Am.ext noEnv 41 false G_big_Right) := Eq.trans rfl rfl

theorem x_big_Int : type_of% (And.intro @w <| And.intro @q_big_Right <| @gg_big_Int) := And.intro @w <| And.intro @q_big_Right <| @gg_big_Int

theorem m_big_Int (p0 : TBig) (r : Int × Bool) (hh : big_Int p0 = some r) : vfunc .clean tab g_big_Int FU Try.f63 none [.agg [.int .i64 p0.f_Sign, .sl false false p0.f_Digits.length (encL (eI .i64) p0.f_Digits)]] = some (.clean (.tup [.int .i64 r.1, .bool r.2]), none) := by
  refine vfunc_of rfl Try.ntmps63 Try.results63 ?_
  unfold big_Int at hh
  obtain ⟨r1, hr1, hh⟩ := bindS hh
  try simp only [x_big_Int, seval, -Int.reduceToNat, hr1]
  obtain ⟨o2, ho2, hh⟩ := bindS hh
  refine tstO_cut 0 (fun s t H e => match s with | s15j1 => ∃ v1j1 : Nat, t 1 = .ptr 1 v1j1 0 ∧ t 15 = .bool s15j1 ∧ H 1 = some ⟨v1j1, 25, [.int .i64 p0.f_Sign, .sl false false p0.f_Digits.length (encL (eI .i64) p0.f_Digits)], false, false⟩) (fun s => s = o2) ?_ ?_
  · rintro s15j1 t H e ⟨v1j1, t1j1, t15j1, H1j1⟩ rfl
    try dsimp only at hh
    try simp only [x_big_Int, seval, -Int.reduceToNat, hr1, t1j1, t15j1, H1j1]
    refine tstC_br (fun hb3 => ?_) (fun hb3 => ?_)
    · replace hh := ite_t hb3 hh
      cases hh
      try simp only [x_big_Int, seval, -Int.reduceToNat, hr1, t1j1, t15j1, H1j1]
    · replace hh := ite_f hb3 hh
      try simp only [x_big_Int, seval, -Int.reduceToNat, hr1, t1j1, t15j1, H1j1]
      obtain ⟨o11, ho11, hh⟩ := bindS hh
      refine runLoop_sim (fun s t H e => match s with | (s4b, s19b) => ∃ v1b : Nat, t 1 = .ptr 1 v1b 0 ∧ t 4 = .int .u64 s4b ∧ t 17 = .sl false false p0.f_Digits.length (encL (eI .i64) p0.f_Digits) ∧ t 18 = .int .i64 (p0.f_Digits.length : Int) ∧ t 19 = .int .i64 s19b ∧ H 1 = some ⟨v1b, 25, [.int .i64 p0.f_Sign, .sl false false p0.f_Digits.length (encL (eI .i64) p0.f_Digits)], false, false⟩) (fun o x t H e => match o with | (.inl s4bx) => x = .exit 0 ∧ ∃ v1bx : Nat, t 1 = .ptr 1 v1bx 0 ∧ t 4 = .int .u64 s4bx ∧ H 1 = some ⟨v1bx, 25, [.int .i64 p0.f_Sign, .sl false false p0.f_Digits.length (encL (eI .i64) p0.f_Digits)], false, false⟩ | (.inr r) => x = .ret ∧ endM .clean tab none [.tmp 2, .tmp 3] ⟨t, H, e⟩ = some (.clean (.tup [.int .i64 r.1, .bool r.2]), none)) ho11 ?_ ?_ ?_
      ·
        refine ⟨v1j1, ?_, ?_, ?_, ?_, ?_, ?_⟩
        all_goals (first | rfl | (simp only [x_big_Int, seval, -Int.reduceToNat, hr1, t1j1, t15j1, H1j1] <;> rfl))
      · rintro ⟨s4b, s19b⟩ t H e ⟨v1b, t1b, t4b, t17b, t18b, t19b, H1b⟩ c hh
        simp only [big_Int_L2] at hh
        try simp only [x_big_Int, seval, -Int.reduceToNat, hr1, t1b, t4b, t17b, t18b, t19b, H1b]
        refine tstC_br (fun hb12 => ?_) (fun hb12 => ?_)
        · replace hh := ite_t hb12 hh
          obtain ⟨x13, hx13, hh⟩ := bindS hh
          have bx13 := idx_bd hx13
          have ax13 := idx_enc (eI .i64) hx13
          have fx13 := idx_fit (eI .i64) hx13
          simp only [vmz] at ax13 fx13
          skip
          try simp only [x_big_Int, seval, -Int.reduceToNat, hr1, t1b, t4b, t17b, t18b, t19b, H1b, bx13, ax13, fx13]
          obtain ⟨o14, ho14, hh⟩ := bindS hh
          refine tstO_cut 0 (fun s t H e => match s with | s29j4 => ∃ v1j4 : Nat, t 1 = .ptr 1 v1j4 0 ∧ t 4 = .int .u64 s4b ∧ t 5 = .int .i64 s19b ∧ t 6 = .int .i64 x13 ∧ t 17 = .sl false false p0.f_Digits.length (encL (eI .i64) p0.f_Digits) ∧ t 18 = .int .i64 (p0.f_Digits.length : Int) ∧ t 19 = .int .i64 s19b ∧ t 29 = .bool s29j4 ∧ H 1 = some ⟨v1j4, 25, [.int .i64 p0.f_Sign, .sl false false p0.f_Digits.length (encL (eI .i64) p0.f_Digits)], false, false⟩) (fun s => s = o14) ?_ ?_
          · rintro s29j4 t H e ⟨v1j4, t1j4, t4j4, t5j4, t6j4, t17j4, t18j4, t19j4, t29j4, H1j4⟩ rfl
            try dsimp only at hh
            try simp only [x_big_Int, seval, -Int.reduceToNat, hr1, bx13, ax13, fx13, t1j4, t4j4, t5j4, t6j4, t17j4, t18j4, t19j4, t29j4, H1j4]
            refine tstC_br (fun hb15 => ?_) (fun hb15 => ?_)
            · replace hh := ite_t hb15 hh
              cases hh
              try simp only [x_big_Int, seval, -Int.reduceToNat, hr1, bx13, ax13, fx13, t1j4, t4j4, t5j4, t6j4, t17j4, t18j4, t19j4, t29j4, H1j4]
              rw [LK_ret]
              refine ⟨_, rfl, ?_⟩
              refine ⟨rfl, ?_⟩
              try simp only [x_big_Int, seval, -Int.reduceToNat, hr1, bx13, ax13, fx13, t1j4, t4j4, t5j4, t6j4, t17j4, t18j4, t19j4, t29j4, H1j4]
            · replace hh := ite_f hb15 hh
              obtain ⟨x16, hx16, hh⟩ := bindS hh
              obtain ⟨q17a, q17b⟩ := shlI_ok hx16
              cases hh
              try simp only [x_big_Int, seval, -Int.reduceToNat, hr1, bx13, ax13, fx13, t1j4, t4j4, t5j4, t6j4, t17j4, t18j4, t19j4, t29j4, H1j4, q17a, q17b]
              rw [LK_normal]
              refine ⟨_, rfl, ?_⟩
              refine ⟨v1j4, ?_, ?_, ?_, ?_, ?_, ?_⟩
              all_goals (first | rfl | (simp only [x_big_Int, seval, -Int.reduceToNat, hr1, bx13, ax13, fx13, t1j4, t4j4, t5j4, t6j4, t17j4, t18j4, t19j4, t29j4, H1j4, q17a, q17b] <;> rfl))
          ·
            clear hh
            have hh := ho14
            try simp only [x_big_Int, seval, -Int.reduceToNat, hr1, t1b, t4b, t17b, t18b, t19b, H1b, bx13, ax13, fx13]
            refine tstO_br (fun hb18 => ?_) (fun hb18 => ?_)
            · replace hh := ite_t hb18 hh
              cases hh
              try simp only [x_big_Int, seval, -Int.reduceToNat, hr1, t1b, t4b, t17b, t18b, t19b, H1b, bx13, ax13, fx13]
              rw [CK_normal]
              refine ⟨_, rfl, ?_⟩
              refine ⟨v1b, ?_, ?_, ?_, ?_, ?_, ?_, ?_, ?_, ?_⟩
              all_goals (first | rfl | (simp only [x_big_Int, seval, -Int.reduceToNat, hr1, t1b, t4b, t17b, t18b, t19b, H1b, bx13, ax13, fx13] <;> rfl))
            · replace hh := ite_f hb18 hh
              cases hh
              try simp only [x_big_Int, seval, -Int.reduceToNat, hr1, t1b, t4b, t17b, t18b, t19b, H1b, bx13, ax13, fx13]
              rw [CK_normal]
              refine ⟨_, rfl, ?_⟩
              refine ⟨v1b, ?_, ?_, ?_, ?_, ?_, ?_, ?_, ?_, ?_⟩
              all_goals (first | rfl | (simp only [x_big_Int, seval, -Int.reduceToNat, hr1, t1b, t4b, t17b, t18b, t19b, H1b, bx13, ax13, fx13] <;> rfl))
        · replace hh := ite_f hb12 hh
          cases hh
          try simp only [x_big_Int, seval, -Int.reduceToNat, hr1, t1b, t4b, t17b, t18b, t19b, H1b]
          rw [LK_exit]
          refine ⟨_, rfl, ?_⟩
          refine ⟨rfl, ⟨v1b, ?_, ?_, ?_⟩⟩
          all_goals (first | rfl | (simp only [x_big_Int, seval, -Int.reduceToNat, hr1, t1b, t4b, t17b, t18b, t19b, H1b] <;> rfl))
      · rintro x t H e hx
        rcases o11 with s4bx | rb
        ·
          dsimp only at hx hh
          obtain ⟨rfl, ⟨v1bx, t1bx, t4bx, H1bx⟩⟩ := hx
          try simp only [x_big_Int, seval, -Int.reduceToNat, hr1, t1bx, t4bx, H1bx]
          obtain ⟨o19, ho19, hh⟩ := bindS hh
          refine tstO_cut 0 (fun s t H e => match s with | s38j5 => ∃ v1j5 : Nat, t 1 = .ptr 1 v1j5 0 ∧ t 4 = .int .u64 s4bx ∧ t 38 = .bool s38j5 ∧ H 1 = some ⟨v1j5, 25, [.int .i64 p0.f_Sign, .sl false false p0.f_Digits.length (encL (eI .i64) p0.f_Digits)], false, false⟩) (fun s => s = o19) ?_ ?_
          · rintro s38j5 t H e ⟨v1j5, t1j5, t4j5, t38j5, H1j5⟩ rfl
            try dsimp only at hh
            try simp only [x_big_Int, seval, -Int.reduceToNat, hr1, t1j5, t4j5, t38j5, H1j5]
            refine tstC_br (fun hb20 => ?_) (fun hb20 => ?_)
            · replace hh := ite_t hb20 hh
              cases hh
              try simp only [x_big_Int, seval, -Int.reduceToNat, hr1, t1j5, t4j5, t38j5, H1j5]
            · replace hh := ite_f hb20 hh
              try simp only [x_big_Int, seval, -Int.reduceToNat, hr1, t1j5, t4j5, t38j5, H1j5]
              refine tstO_br (fun hb21 => ?_) (fun hb21 => ?_)
              · replace hh := ite_t hb21 hh
                try simp only [x_big_Int, seval, -Int.reduceToNat, hr1, t1j5, t4j5, t38j5, H1j5]
                refine tstC_br (fun hb22 => ?_) (fun hb22 => ?_)
                · replace hh := ite_t hb22 hh
                  cases hh
                  try simp only [x_big_Int, seval, -Int.reduceToNat, hr1, t1j5, t4j5, t38j5, H1j5]
                · replace hh := ite_f hb22 hh
                  cases hh
                  try simp only [x_big_Int, seval, -Int.reduceToNat, hr1, t1j5, t4j5, t38j5, H1j5]
              · replace hh := ite_f hb21 hh
                cases hh
                try simp only [x_big_Int, seval, -Int.reduceToNat, hr1, t1j5, t4j5, t38j5, H1j5]
          ·
            clear hh
            have hh := ho19
            try simp only [x_big_Int, seval, -Int.reduceToNat, hr1, t1bx, t4bx, H1bx]
            refine tstO_br (fun hb23 => ?_) (fun hb23 => ?_)
            · replace hh := ite_t hb23 hh
              cases hh
              try simp only [x_big_Int, seval, -Int.reduceToNat, hr1, t1bx, t4bx, H1bx]
              rw [CK_normal]
              refine ⟨_, rfl, ?_⟩
              refine ⟨v1bx, ?_, ?_, ?_, ?_⟩
              all_goals (first | rfl | (simp only [x_big_Int, seval, -Int.reduceToNat, hr1, t1bx, t4bx, H1bx] <;> rfl))
            · replace hh := ite_f hb23 hh
              cases hh
              try simp only [x_big_Int, seval, -Int.reduceToNat, hr1, t1bx, t4bx, H1bx]
              rw [CK_normal]
              refine ⟨_, rfl, ?_⟩
              refine ⟨v1bx, ?_, ?_, ?_, ?_⟩
              all_goals (first | rfl | (simp only [x_big_Int, seval, -Int.reduceToNat, hr1, t1bx, t4bx, H1bx] <;> rfl))
        ·
          dsimp only at hx hh
          obtain ⟨rfl, hE⟩ := hx
          cases hh
          try simp only [runW_pass_ret, runW_pass_exit, runW_blk_ret, runW_nil, endW_ret]
          exact hE
  ·
    clear hh
    have hh := ho2
    try simp only [x_big_Int, seval, -Int.reduceToNat, hr1]
    refine tstO_br' (fun hb24 => ?_) (fun hb24 => ?_)
    · replace hh := ite_t hb24 hh
      cases hh
      try simp only [x_big_Int, seval, -Int.reduceToNat, hr1]
      rw [CK_normal]
      refine ⟨_, rfl, ?_⟩
      refine ⟨0, ?_, ?_, ?_⟩
      all_goals (first | rfl | (simp only [x_big_Int, seval, -Int.reduceToNat, hr1] <;> rfl))
    · replace hh := ite_f hb24 hh
      cases hh
      try simp only [x_big_Int, seval, -Int.reduceToNat, hr1]
      rw [CK_normal]
      refine ⟨_, rfl, ?_⟩
      refine ⟨0, ?_, ?_, ?_⟩
      all_goals (first | rfl | (simp only [x_big_Int, seval, -Int.reduceToNat, hr1] <;> rfl))

theorem ok_big_Int : COk Try.prog 63 G_big_Int := COk.of (mode := .clean) tok ge_big_Int mixed Try.func63 (by kernel_rfl) ⟨by kernel_rfl, by kernel_rfl⟩ (fun _ => Nat.le_of_ble_eq_true (by kernel_rfl)) (fun x r h => m_big_Int x r h)

noncomputable def G_frac_one := mkG (as1 (aAgg eTBig)) (fun x : TBig => frac_one x) (fun r : Bool => .clean (.bool r))

theorem q_frac_one (p0_0 : Int) (p0_1 : (List Int)) : G_frac_one none [.agg [.int .i64 p0_0, .sl false false p0_1.length (encL (eI .i64) p0_1)]] = (frac_one (TBig.mk p0_0 p0_1)).map fun r : Bool => (.clean (.bool r), none) := mkG_eq _ _ _ ((TBig.mk p0_0 p0_1))

noncomputable def g_frac_one : Env := (Am.ext noEnv 63 false G_big_Int)

theorem ge_frac_one : GOk Try.prog g_frac_one := (GOk.none.add ok_big_Int false)

theorem gg_frac_one : g_frac_one = (Am.ext noEnv 63 false G_big_Int) := Eq.trans rfl rfl

theorem x_frac_one : type_of% (And.intro @w <| And.intro @q_big_Int <| @gg_frac_one) := And.intro @w <| And.intro @q_big_Int <| @gg_frac_one

theorem m_frac_one (p0 : TBig) (r : Bool) (hh : frac_one p0 = some r) : vfunc .clean tab g_frac_one FU Try.f43 none [.agg [.int .i64 p0.f_Sign, .sl false false p0.f_Digits.length (encL (eI .i64) p0.f_Digits)]] = some (.clean (.bool r), none) := by
  refine vfunc_of rfl Try.ntmps43 Try.results43 ?_
  unfold frac_one at hh
  obtain ⟨r1, hr1, hh⟩ := bindS hh
  try simp only [x_frac_one, seval, -Int.reduceToNat, hr1]
  refine tstO_br (fun hb2 => ?_) (fun hb2 => ?_)
  · replace hh := ite_t hb2 hh
    cases hh
    try simp only [x_frac_one, seval, -Int.reduceToNat, hr1]
  · replace hh := ite_f hb2 hh
    cases hh
    try simp only [x_frac_one, seval, -Int.reduceToNat, hr1]

theorem ok_frac_one : COk Try.prog 43 G_frac_one := COk.of (mode := .clean) tok ge_frac_one mixed Try.func43 (by kernel_rfl) ⟨by kernel_rfl, by kernel_rfl⟩ (fun _ => Nat.le_of_ble_eq_true (by kernel_rfl)) (fun x r h => m_frac_one x r h)

noncomputable def G_frac_Right := mkG (as1 (aAgg eTFrac)) (fun x : TFrac => frac_Right x) (fun r : Bool => .clean (.bool r))

theorem q_frac_Right (p0_0 : Int) (p0_1 : (List Int)) (p0_2 : Int) (p0_3 : (List Int)) : G_frac_Right none [.agg [.int .i64 p0_0, .sl false false p0_1.length (encL (eI .i64) p0_1), .int .i64 p0_2, .sl false false p0_3.length (encL (eI .i64) p0_3)]] = (frac_Right (TFrac.mk (TBig.mk p0_0 p0_1) (TBig.mk p0_2 p0_3))).map fun r : Bool => (.clean (.bool r), none) := mkG_eq _ _ _ ((TFrac.mk (TBig.mk p0_0 p0_1) (TBig.mk p0_2 p0_3)))

noncomputable def g_frac_Right : Env := (Am.ext (Am.ext (Am.ext noEnv 41 false G_big_Right) 42 false G_big_Gcd) 43 false G_frac_one)

theorem ge_frac_Right : GOk Try.prog g_frac_Right := (((GOk.none.add ok_big_Right false).add ok_big_Gcd false).add ok_frac_one false)

theorem gg_frac_Right : g_frac_Right = (Am.ext (Am.ext (Am.ext noEnv 41 false G_big_Right) 42 false G_big_Gcd) 43 false G_frac_one) := Eq.trans rfl rfl

theorem x_frac_Right : type_of% (And.intro @w <| And.intro @q_big_Right <| And.intro @q_big_Gcd <| And.intro @q_frac_one <| @gg_frac_Right) := And.intro @w <| And.intro @q_big_Right <| And.intro @q_big_Gcd <| And.intro @q_frac_one <| @gg_frac_Right

theorem m_frac_Right (p0 : TFrac) (r : Bool) (hh : frac_Right p0 = some r) : vfunc .clean tab g_frac_Right FU Try.f20 none [.agg [.int .i64 p0.f_P.f_Sign, .sl false false p0.f_P.f_Digits.length (encL (eI .i64) p0.f_P.f_Digits), .int .i64 p0.f_Q.f_Sign, .sl false false p0.f_Q.f_Digits.length (encL (eI .i64) p0.f_Q.f_Digits)]] = some (.clean (.bool r), none) := by
  refine vfunc_of rfl Try.ntmps20 Try.results20 ?_
  unfold frac_Right at hh
  obtain ⟨r1, hr1, hh⟩ := bindS hh
  try simp only [x_frac_Right, seval, -Int.reduceToNat, hr1]
  obtain ⟨o2, ho2, hh⟩ := bindS hh
  refine tstO_cut 0 (fun s t H e => match s with | s20j1 => ∃ v1j1 : Nat, t 1 = .ptr 1 v1j1 0 ∧ t 20 = .bool s20j1 ∧ H 1 = some ⟨v1j1, 27, [.int .i64 p0.f_P.f_Sign, .sl false false p0.f_P.f_Digits.length (encL (eI .i64) p0.f_P.f_Digits), .int .i64 p0.f_Q.f_Sign, .sl false false p0.f_Q.f_Digits.length (encL (eI .i64) p0.f_Q.f_Digits)], false, false⟩) (fun s => s = o2) ?_ ?_
  · rintro s20j1 t H e ⟨v1j1, t1j1, t20j1, H1j1⟩ rfl
    try dsimp only at hh
    try simp only [x_frac_Right, seval, -Int.reduceToNat, hr1, t1j1, t20j1, H1j1]
    refine tstC_br (fun hb3 => ?_) (fun hb3 => ?_)
    · replace hh := ite_t hb3 hh
      cases hh
      try simp only [x_frac_Right, seval, -Int.reduceToNat, hr1, t1j1, t20j1, H1j1]
    · replace hh := ite_f hb3 hh
      obtain ⟨r4, hr4, hh⟩ := bindS hh
      try simp only [x_frac_Right, seval, -Int.reduceToNat, hr1, t1j1, t20j1, H1j1, hr4]
      refine tstO_br (fun hb5 => ?_) (fun hb5 => ?_)
      · replace hh := ite_t hb5 hh
        obtain ⟨r6, hr6, hh⟩ := bindS hh
        cases hh
        try simp only [x_frac_Right, seval, -Int.reduceToNat, hr1, t1j1, t20j1, H1j1, hr4, hr6]
      · replace hh := ite_f hb5 hh
        cases hh
        try simp only [x_frac_Right, seval, -Int.reduceToNat, hr1, t1j1, t20j1, H1j1, hr4]
  ·
    clear hh
    have hh := ho2
    try simp only [x_frac_Right, seval, -Int.reduceToNat, hr1]
    refine tstO_br' (fun hb7 => ?_) (fun hb7 => ?_)
    · replace hh := ite_t hb7 hh
      cases hh
      try simp only [x_frac_Right, seval, -Int.reduceToNat, hr1]
      rw [CK_normal]
      refine ⟨_, rfl, ?_⟩
      refine ⟨0, ?_, ?_, ?_⟩
      all_goals (first | rfl | (simp only [x_frac_Right, seval, -Int.reduceToNat, hr1] <;> rfl))
    · replace hh := ite_f hb7 hh
      obtain ⟨r8, hr8, hh⟩ := bindS hh
      try simp only [x_frac_Right, seval, -Int.reduceToNat, hr1, hr8]
      refine tstO_br' (fun hb9 => ?_) (fun hb9 => ?_)
      · replace hh := ite_t hb9 hh
        cases hh
        try simp only [x_frac_Right, seval, -Int.reduceToNat, hr1, hr8]
        rw [CK_normal]
        refine ⟨_, rfl, ?_⟩
        refine ⟨0, ?_, ?_, ?_⟩
        all_goals (first | rfl | (simp only [x_frac_Right, seval, -Int.reduceToNat, hr1, hr8] <;> rfl))
      · replace hh := ite_f hb9 hh
        cases hh
        try simp only [x_frac_Right, seval, -Int.reduceToNat, hr1, hr8]
        rw [CK_normal]
        refine ⟨_, rfl, ?_⟩
        refine ⟨0, ?_, ?_, ?_⟩
        all_goals (first | rfl | (simp only [x_frac_Right, seval, -Int.reduceToNat, hr1, hr8] <;> rfl))

theorem ok_frac_Right : COk Try.prog 20 G_frac_Right := COk.of (mode := .clean) tok ge_frac_Right mixed Try.func20 (by kernel_rfl) ⟨by kernel_rfl, by kernel_rfl⟩ (fun _ => Nat.le_of_ble_eq_true (by kernel_rfl)) (fun x r h => m_frac_Right x r h)

noncomputable def G_target_Edits_1 := mkG (as1 (aAgg eTFrac)) (fun x : TFrac => target_Edits_1 x) (fun r : Bool => .clean (.bool r))

theorem q_target_Edits_1 (p0_0 : Int) (p0_1 : (List Int)) (p0_2 : Int) (p0_3 : (List Int)) : G_target_Edits_1 none [.agg [.int .i64 p0_0, .sl false false p0_1.length (encL (eI .i64) p0_1), .int .i64 p0_2, .sl false false p0_3.length (encL (eI .i64) p0_3)]] = (target_Edits_1 (TFrac.mk (TBig.mk p0_0 p0_1) (TBig.mk p0_2 p0_3))).map fun r : Bool => (.clean (.bool r), none) := mkG_eq _ _ _ ((TFrac.mk (TBig.mk p0_0 p0_1) (TBig.mk p0_2 p0_3)))

noncomputable def g_target_Edits_1 : Env := (Am.ext noEnv 20 false G_frac_Right)

theorem ge_target_Edits_1 : GOk Try.prog g_target_Edits_1 := (GOk.none.add ok_frac_Right false)

theorem gg_target_Edits_1 : g_target_Edits_1 = (Am.ext noEnv 20 false G_frac_Right) := Eq.trans rfl rfl

theorem x_target_Edits_1 : type_of% (And.intro @w <| And.intro @q_frac_Right <| @gg_target_Edits_1) := And.intro @w <| And.intro @q_frac_Right <| @gg_target_Edits_1

theorem m_target_Edits_1 (p0 : TFrac) (r : Bool) (hh : target_Edits_1 p0 = some r) : vfunc .clean tab g_target_Edits_1 FU Try.f38 none [.agg [.int .i64 p0.f_P.f_Sign, .sl false false p0.f_P.f_Digits.length (encL (eI .i64) p0.f_P.f_Digits), .int .i64 p0.f_Q.f_Sign, .sl false false p0.f_Q.f_Digits.length (encL (eI .i64) p0.f_Q.f_Digits)]] = some (.clean (.bool r), none) := by
  refine vfunc_of rfl Try.ntmps38 Try.results38 ?_
  unfold target_Edits_1 at hh
  obtain ⟨r1, hr1, hh⟩ := bindS hh
  cases hh
  try simp only [x_target_Edits_1, seval, -Int.reduceToNat, hr1]

theorem ok_target_Edits_1 : COk Try.prog 38 G_target_Edits_1 := COk.of (mode := .clean) tok ge_target_Edits_1 mixed Try.func38 (by kernel_rfl) ⟨by kernel_rfl, by kernel_rfl⟩ (fun _ => Nat.le_of_ble_eq_true (by kernel_rfl)) (fun x r h => m_target_Edits_1 x r h)

noncomputable def G_slices_IndexFunc_target_Edits_1 := mkG (asC (aSl eTFrac) (as1 (aFn 38))) (fun x : (List TFrac) × Unit => slices_IndexFunc_target_Edits_1 x.1) (fun r : Int => .clean (.int .i64 r))

theorem q_slices_IndexFunc_target_Edits_1 (p0 : (List TFrac)) : G_slices_IndexFunc_target_Edits_1 none [.sl false false p0.length (encL eTFrac p0), .fn 38] = (slices_IndexFunc_target_Edits_1 p0).map fun r : Int => (.clean (.int .i64 r), none) := mkG_eq _ _ _ (p0, ())

noncomputable def g_slices_IndexFunc_target_Edits_1 : Env := (Am.ext noEnv 38 false G_target_Edits_1)

theorem ge_slices_IndexFunc_target_Edits_1 : GOk Try.prog g_slices_IndexFunc_target_Edits_1 := (GOk.none.add ok_target_Edits_1 false)

theorem gg_slices_IndexFunc_target_Edits_1 : g_slices_IndexFunc_target_Edits_1 = (Am.ext noEnv 38 false G_target_Edits_1) := Eq.trans rfl rfl

theorem x_slices_IndexFunc_target_Edits_1 : type_of% (And.intro @w <| And.intro @q_target_Edits_1 <| @gg_slices_IndexFunc_target_Edits_1) := And.intro @w <| And.intro @q_target_Edits_1 <| @gg_slices_IndexFunc_target_Edits_1

theorem m_slices_IndexFunc_target_Edits_1 (p0 : (List TFrac)) (r : Int) (hh : slices_IndexFunc_target_Edits_1 p0 = some r) : vfunc .clean tab g_slices_IndexFunc_target_Edits_1 FU Try.f58 none [.sl false false p0.length (encL eTFrac p0), .fn 38] = some (.clean (.int .i64 r), none) := by
  refine vfunc_of rfl Try.ntmps58 Try.results58 ?_
  unfold slices_IndexFunc_target_Edits_1 at hh
  try simp only [x_slices_IndexFunc_target_Edits_1, seval, -Int.reduceToNat]
  obtain ⟨o5, ho5, hh⟩ := bindS hh
  refine runLoop_sim (fun s t H e => match s with | s8a => t 0 = .sl false false p0.length (encL eTFrac p0) ∧ t 1 = .fn 38 ∧ t 7 = .int .i64 (p0.length : Int) ∧ t 8 = .int .i64 s8a) (fun o x t H e => match o with | (.inl _) => x = .exit 0 | (.inr r) => x = .ret ∧ endM .clean tab none [.tmp 4] ⟨t, H, e⟩ = some (.clean (.int .i64 r), none)) ho5 ?_ ?_ ?_
  ·
    refine ⟨?_, ?_, ?_, ?_⟩
    all_goals (first | rfl | (simp only [x_slices_IndexFunc_target_Edits_1, seval, -Int.reduceToNat] <;> rfl))
  · rintro s8a t H e ⟨t0a, t1a, t7a, t8a⟩ c hh
    simp only [slices_IndexFunc_target_Edits_1_L1] at hh
    try simp only [x_slices_IndexFunc_target_Edits_1, seval, -Int.reduceToNat, t0a, t1a, t7a, t8a]
    refine tstC_br (fun hb6 => ?_) (fun hb6 => ?_)
    · replace hh := ite_t hb6 hh
      obtain ⟨x7, hx7, hh⟩ := bindS hh
      have bx7 := idx_bd hx7
      have ax7 := idx_enc eTFrac hx7
      have fx7 := idx_fit eTFrac hx7
      simp only [vmz] at ax7 fx7
      skip
      obtain ⟨r8, hr8, hh⟩ := bindS hh
      try simp only [x_slices_IndexFunc_target_Edits_1, seval, -Int.reduceToNat, t0a, t1a, t7a, t8a, bx7, ax7, fx7, hr8]
      refine tstC_br (fun hb9 => ?_) (fun hb9 => ?_)
      · replace hh := ite_t hb9 hh
        cases hh
        try simp only [x_slices_IndexFunc_target_Edits_1, seval, -Int.reduceToNat, t0a, t1a, t7a, t8a, bx7, ax7, fx7, hr8]
        rw [LK_ret]
        refine ⟨_, rfl, ?_⟩
        refine ⟨rfl, ?_⟩
        try simp only [x_slices_IndexFunc_target_Edits_1, seval, -Int.reduceToNat, t0a, t1a, t7a, t8a, bx7, ax7, fx7, hr8]
      · replace hh := ite_f hb9 hh
        cases hh
        try simp only [x_slices_IndexFunc_target_Edits_1, seval, -Int.reduceToNat, t0a, t1a, t7a, t8a, bx7, ax7, fx7, hr8]
        rw [LK_normal]
        refine ⟨_, rfl, ?_⟩
        refine ⟨?_, ?_, ?_, ?_⟩
        all_goals (first | rfl | (simp only [x_slices_IndexFunc_target_Edits_1, seval, -Int.reduceToNat, t0a, t1a, t7a, t8a, bx7, ax7, fx7, hr8] <;> rfl))
    · replace hh := ite_f hb6 hh
      cases hh
      try simp only [x_slices_IndexFunc_target_Edits_1, seval, -Int.reduceToNat, t0a, t1a, t7a, t8a]
      rw [LK_exit]
      refine ⟨_, rfl, ?_⟩
      exact rfl
  · rintro x t H e hx
    rcases o5 with _ | ra
    ·
      dsimp only at hx hh
      subst hx
      cases hh
      try simp only [x_slices_IndexFunc_target_Edits_1, seval, -Int.reduceToNat]
    ·
      dsimp only at hx hh
      obtain ⟨rfl, hE⟩ := hx
      cases hh
      try simp only [runW_pass_ret, runW_pass_exit, runW_blk_ret, runW_nil, endW_ret]
      exact hE

theorem ok_slices_IndexFunc_target_Edits_1 : COk Try.prog 58 G_slices_IndexFunc_target_Edits_1 := COk.of (mode := .clean) tok ge_slices_IndexFunc_target_Edits_1 mixed Try.func58 (by kernel_rfl) ⟨by kernel_rfl, by kernel_rfl⟩ (fun _ => Nat.le_of_ble_eq_true (by kernel_rfl)) (fun x r h => m_slices_IndexFunc_target_Edits_1 x.1 r h)

noncomputable def G_slices_ContainsFunc_target_Edits_1 := mkG (asC (aSl eTFrac) (as1 (aFn 38))) (fun x : (List TFrac) × Unit => slices_ContainsFunc_target_Edits_1 x.1) (fun r : Bool => .clean (.bool r))

theorem q_slices_ContainsFunc_target_Edits_1 (p0 : (List TFrac)) : G_slices_ContainsFunc_target_Edits_1 none [.sl false false p0.length (encL eTFrac p0), .fn 38] = (slices_ContainsFunc_target_Edits_1 p0).map fun r : Bool => (.clean (.bool r), none) := mkG_eq _ _ _ (p0, ())

noncomputable def g_slices_ContainsFunc_target_Edits_1 : Env := (Am.ext noEnv 58 false G_slices_IndexFunc_target_Edits_1)

theorem ge_slices_ContainsFunc_target_Edits_1 : GOk Try.prog g_slices_ContainsFunc_target_Edits_1 := (GOk.none.add ok_slices_IndexFunc_target_Edits_1 false)

theorem gg_slices_ContainsFunc_target_Edits_1 : g_slices_ContainsFunc_target_Edits_1 = (Am.ext noEnv 58 false G_slices_IndexFunc_target_Edits_1) := Eq.trans rfl rfl

theorem x_slices_ContainsFunc_target_Edits_1 : type_of% (And.intro @w <| And.intro @q_slices_IndexFunc_target_Edits_1 <| @gg_slices_ContainsFunc_target_Edits_1) := And.intro @w <| And.intro @q_slices_IndexFunc_target_Edits_1 <| @gg_slices_ContainsFunc_target_Edits_1

theorem m_slices_ContainsFunc_target_Edits_1 (p0 : (List TFrac)) (r : Bool) (hh : slices_ContainsFunc_target_Edits_1 p0 = some r) : vfunc .clean tab g_slices_ContainsFunc_target_Edits_1 FU Try.f37 none [.sl false false p0.length (encL eTFrac p0), .fn 38] = some (.clean (.bool r), none) := by
  refine vfunc_of rfl Try.ntmps37 Try.results37 ?_
  unfold slices_ContainsFunc_target_Edits_1 at hh
  obtain ⟨r1, hr1, hh⟩ := bindS hh
  cases hh
  try simp only [x_slices_ContainsFunc_target_Edits_1, seval, -Int.reduceToNat, hr1]

theorem ok_slices_ContainsFunc_target_Edits_1 : COk Try.prog 37 G_slices_ContainsFunc_target_Edits_1 := COk.of (mode := .clean) tok ge_slices_ContainsFunc_target_Edits_1 mixed Try.func37 (by kernel_rfl) ⟨by kernel_rfl, by kernel_rfl⟩ (fun _ => Nat.le_of_ble_eq_true (by kernel_rfl)) (fun x r h => m_slices_ContainsFunc_target_Edits_1 x.1 r h)

noncomputable def G_target_Edits := mkG (as1 (aSl eTFrac)) (fun x : (List TFrac) => target_Edits x) (fun r : Int => .clean (.int .i64 r))

theorem q_target_Edits (p0 : (List TFrac)) : G_target_Edits none [.sl false false p0.length (encL eTFrac p0)] = (target_Edits p0).map fun r : Int => (.clean (.int .i64 r), none) := mkG_eq _ _ _ (p0)

noncomputable def g_target_Edits : Env := (Am.ext (Am.ext noEnv 36 false G_math_bits_Len) 37 false G_slices_ContainsFunc_target_Edits_1)

theorem ge_target_Edits : GOk Try.prog g_target_Edits := ((GOk.none.add ok_math_bits_Len false).add ok_slices_ContainsFunc_target_Edits_1 false)

theorem gg_target_Edits : g_target_Edits = (Am.ext (Am.ext noEnv 36 false G_math_bits_Len) 37 false G_slices_ContainsFunc_target_Edits_1) := Eq.trans rfl rfl

theorem x_target_Edits : type_of% (And.intro @w <| And.intro @q_math_bits_Len <| And.intro @q_slices_ContainsFunc_target_Edits_1 <| @gg_target_Edits) := And.intro @w <| And.intro @q_math_bits_Len <| And.intro @q_slices_ContainsFunc_target_Edits_1 <| @gg_target_Edits

theorem m_target_Edits (p0 : (List TFrac)) (r : Int) (hh : target_Edits p0 = some r) : vfunc .clean tab g_target_Edits FU Try.f16 none [.sl false false p0.length (encL eTFrac p0)] = some (.clean (.int .i64 r), none) := by
  refine vfunc_of rfl Try.ntmps16 Try.results16 ?_
  unfold target_Edits at hh
  obtain ⟨r1, hr1, hh⟩ := bindS hh
  try simp only [x_target_Edits, seval, -Int.reduceToNat, hr1]
  refine tstO_br' (fun hb2 => ?_) (fun hb2 => ?_)
  · replace hh := ite_t hb2 hh
    cases hh
    try simp only [x_target_Edits, seval, -Int.reduceToNat, hr1]
  · replace hh := ite_f hb2 hh
    try simp only [x_target_Edits, seval, -Int.reduceToNat, hr1]
    refine tstO_br' (fun hb3 => ?_) (fun hb3 => ?_)
    · replace hh := ite_t hb3 hh
      cases hh
      try simp only [x_target_Edits, seval, -Int.reduceToNat, hr1]
    · replace hh := ite_f hb3 hh
      obtain ⟨x4, hx4, hh⟩ := bindS hh
      obtain ⟨q5a, q5b⟩ := shlI_ok hx4
      try simp only [x_target_Edits, seval, -Int.reduceToNat, hr1, q5a, q5b]
      refine tstO_br' (fun hb6 => ?_) (fun hb6 => ?_)
      · replace hh := ite_t hb6 hh
        cases hh
        try simp only [x_target_Edits, seval, -Int.reduceToNat, hr1, q5a, q5b]
      · replace hh := ite_f hb6 hh
        obtain ⟨r7, hr7, hh⟩ := bindS hh
        try simp only [x_target_Edits, seval, -Int.reduceToNat, hr1, q5a, q5b, hr7]
        refine tstC_br (fun hb8 => ?_) (fun hb8 => ?_)
        · replace hh := ite_t hb8 hh
          cases hh
          try simp only [x_target_Edits, seval, -Int.reduceToNat, hr1, q5a, q5b, hr7]
        · replace hh := ite_f hb8 hh
          cases hh
          try simp only [x_target_Edits, seval, -Int.reduceToNat, hr1, q5a, q5b, hr7]

theorem ok_target_Edits : COk Try.prog 16 G_target_Edits := COk.of (mode := .clean) tok ge_target_Edits mixed Try.func16 (by kernel_rfl) ⟨by kernel_rfl, by kernel_rfl⟩ (fun _ => Nat.le_of_ble_eq_true (by kernel_rfl)) (fun x r h => m_target_Edits x r h)

noncomputable def G_big_Mul := mkG (asC (aAgg eTBig) (as1 (aAgg eTBig))) (fun x : TBig × TBig => big_Mul x.1 x.2) (fun r : TBig × Int => .clean (.tup [.agg [.int .i64 r.1.f_Sign, .sl false false r.1.f_Digits.length (encL (eI .i64) r.1.f_Digits)], .int .i64 r.2]))

theorem q_big_Mul (p0_0 : Int) (p0_1 : (List Int)) (p1_0 : Int) (p1_1 : (List Int)) : G_big_Mul none [.agg [.int .i64 p0_0, .sl false false p0_1.length (encL (eI .i64) p0_1)], .agg [.int .i64 p1_0, .sl false false p1_1.length (encL (eI .i64) p1_1)]] = (big_Mul (TBig.mk p0_0 p0_1) (TBig.mk p1_0 p1_1)).map fun r : TBig × Int => (.clean (.tup [.agg [.int .i64 r.1.f_Sign, .sl false false r.1.f_Digits.length (encL (eI .i64) r.1.f_Digits)], .int .i64 r.2]), none) := mkG_eq _ _ _ ((TBig.mk p0_0 p0_1), (TBig.mk p1_0 p1_1))

noncomputable def g_big_Mul : Env := (Am.ext (Am.ext (Am.ext (Am.ext noEnv 41 false G_big_Right) 59 false G_big_checked) 62 false G_big_signed) 77 false G_big_mul)

theorem ge_big_Mul : GOk Try.prog g_big_Mul := ((((GOk.none.add ok_big_Right false).add ok_big_checked false).add ok_big_signed false).add ok_big_mul false)

theorem gg_big_Mul : g_big_Mul = (Am.ext (Am.ext (Am.ext (Am.ext noEnv 41 false G_big_Right) 59 false G_big_checked) 62 false G_big_signed) 77 false G_big_mul) := Eq.trans rfl rfl

theorem x_big_Mul : type_of% (And.intro @w <| And.intro @q_big_Right <| And.intro @q_big_checked <| And.intro @q_big_signed <| And.intro @q_big_mul <| @gg_big_Mul) := And.intro @w <| And.intro @q_big_Right <| And.intro @q_big_checked <| And.intro @q_big_signed <| And.intro @q_big_mul <| @gg_big_Mul

theorem m_big_Mul (p0 : TBig) (p1 : TBig) (r : TBig × Int) (hh : big_Mul p0 p1 = some r) : vfunc .clean tab g_big_Mul FU Try.f66 none [.agg [.int .i64 p0.f_Sign, .sl false false p0.f_Digits.length (encL (eI .i64) p0.f_Digits)], .agg [.int .i64 p1.f_Sign, .sl false false p1.f_Digits.length (encL (eI .i64) p1.f_Digits)]] = some (.clean (.tup [.agg [.int .i64 r.1.f_Sign, .sl false false r.1.f_Digits.length (encL (eI .i64) r.1.f_Digits)], .int .i64 r.2]), none) := by
  refine vfunc_of rfl Try.ntmps66 Try.results66 ?_
  unfold big_Mul at hh
  obtain ⟨r1, hr1, hh⟩ := bindS hh
  try simp only [x_big_Mul, seval, -Int.reduceToNat, hr1]
  obtain ⟨o2, ho2, hh⟩ := bindS hh
  refine tstO_cut 0 (fun s t H e => match s with | s13j1 => ∃ v2j1 : Nat, ∃ v3j1 : Nat, ∃ v4j1 : Nat, t 2 = .ptr 2 v2j1 0 ∧ t 3 = .ptr 3 v3j1 0 ∧ t 4 = .ptr 4 v4j1 0 ∧ t 13 = .bool s13j1 ∧ H 2 = some ⟨v2j1, 25, [.int .i64 p0.f_Sign, .sl false false p0.f_Digits.length (encL (eI .i64) p0.f_Digits)], false, false⟩ ∧ H 3 = some ⟨v3j1, 25, [.int .i64 p1.f_Sign, .sl false false p1.f_Digits.length (encL (eI .i64) p1.f_Digits)], false, false⟩ ∧ H 4 = some ⟨v4j1, 25, [.int .i64 0, .sl true true 0 []], false, false⟩) (fun s => s = o2) ?_ ?_
  · rintro s13j1 t H e ⟨v2j1, v3j1, v4j1, t2j1, t3j1, t4j1, t13j1, H2j1, H3j1, H4j1⟩ rfl
    try dsimp only at hh
    try simp only [x_big_Mul, seval, -Int.reduceToNat, hr1, t2j1, t3j1, t4j1, t13j1, H2j1, H3j1, H4j1]
    refine tstC_br (fun hb3 => ?_) (fun hb3 => ?_)
    · replace hh := ite_t hb3 hh
      have i4 := q_big_checked false 0 ([])
      simp only [encL_cons, vmz, List.length_cons, List.length_nil, Nat.zero_add, Nat.reduceAdd, List.length_set] at i4
      obtain ⟨r5, hr5, hh⟩ := bindS hh
      cases hh
      try simp only [x_big_Mul, seval, -Int.reduceToNat, hr1, t2j1, t3j1, t4j1, t13j1, H2j1, H3j1, H4j1, i4, hr5]
    · replace hh := ite_f hb3 hh
      obtain ⟨r6, hr6, hh⟩ := bindS hh
      obtain ⟨r7, hr7, hh⟩ := bindS hh
      obtain ⟨r8, hr8, hh⟩ := bindS hh
      try simp only [x_big_Mul, seval, -Int.reduceToNat, hr1, t2j1, t3j1, t4j1, t13j1, H2j1, H3j1, H4j1, hr6, hr7, hr8]
      refine dyn_ok (by kernel_rfl) ?_
      cases hh
      try simp only [x_big_Mul, seval, -Int.reduceToNat, hr1, t2j1, t3j1, t4j1, t13j1, H2j1, H3j1, H4j1, hr6, hr7, hr8]
  ·
    clear hh
    have hh := ho2
    try simp only [x_big_Mul, seval, -Int.reduceToNat, hr1]
    refine tstO_br' (fun hb9 => ?_) (fun hb9 => ?_)
    · replace hh := ite_t hb9 hh
      cases hh
      try simp only [x_big_Mul, seval, -Int.reduceToNat, hr1]
      rw [CK_normal]
      refine ⟨_, rfl, ?_⟩
      refine ⟨0, 0, 0, ?_, ?_, ?_, ?_, ?_, ?_, ?_⟩
      all_goals (first | rfl | (simp only [x_big_Mul, seval, -Int.reduceToNat, hr1] <;> rfl))
    · replace hh := ite_f hb9 hh
      obtain ⟨r10, hr10, hh⟩ := bindS hh
      cases hh
      try simp only [x_big_Mul, seval, -Int.reduceToNat, hr1, hr10]
      rw [CK_normal]
      refine ⟨_, rfl, ?_⟩
      refine ⟨0, 0, 0, ?_, ?_, ?_, ?_, ?_, ?_, ?_⟩
      all_goals (first | rfl | (simp only [x_big_Mul, seval, -Int.reduceToNat, hr1, hr10] <;> rfl))

theorem ok_big_Mul : COk Try.prog 66 G_big_Mul := COk.of (mode := .clean) tok ge_big_Mul mixed Try.func66 (by kernel_rfl) ⟨by kernel_rfl, by kernel_rfl⟩ (fun _ => Nat.le_of_ble_eq_true (by kernel_rfl)) (fun x r h => m_big_Mul x.1 x.2 r h)

noncomputable def G_frac_times := mkG (asC (aAgg eTBig) (as1 (aAgg eTBig))) (fun x : TBig × TBig => frac_times x.1 x.2) (fun r : TBig => .clean (.agg [.int .i64 r.f_Sign, .sl false false r.f_Digits.length (encL (eI .i64) r.f_Digits)]))

theorem q_frac_times (p0_0 : Int) (p0_1 : (List Int)) (p1_0 : Int) (p1_1 : (List Int)) : G_frac_times none [.agg [.int .i64 p0_0, .sl false false p0_1.length (encL (eI .i64) p0_1)], .agg [.int .i64 p1_0, .sl false false p1_1.length (encL (eI .i64) p1_1)]] = (frac_times (TBig.mk p0_0 p0_1) (TBig.mk p1_0 p1_1)).map fun r : TBig => (.clean (.agg [.int .i64 r.f_Sign, .sl false false r.f_Digits.length (encL (eI .i64) r.f_Digits)]), none) := mkG_eq _ _ _ ((TBig.mk p0_0 p0_1), (TBig.mk p1_0 p1_1))

noncomputable def g_frac_times : Env := (Am.ext noEnv 66 false G_big_Mul)

theorem ge_frac_times : GOk Try.prog g_frac_times := (GOk.none.add ok_big_Mul false)

theorem gg_frac_times : g_frac_times = (Am.ext noEnv 66 false G_big_Mul) := Eq.trans rfl rfl

theorem x_frac_times : type_of% (And.intro @w <| And.intro @q_big_Mul <| @gg_frac_times) := And.intro @w <| And.intro @q_big_Mul <| @gg_frac_times

theorem m_frac_times (p0 : TBig) (p1 : TBig) (r : TBig) (hh : frac_times p0 p1 = some r) : vfunc .clean tab g_frac_times FU Try.f45 none [.agg [.int .i64 p0.f_Sign, .sl false false p0.f_Digits.length (encL (eI .i64) p0.f_Digits)], .agg [.int .i64 p1.f_Sign, .sl false false p1.f_Digits.length (encL (eI .i64) p1.f_Digits)]] = some (.clean (.agg [.int .i64 r.f_Sign, .sl false false r.f_Digits.length (encL (eI .i64) r.f_Digits)]), none) := by
  refine vfunc_of rfl Try.ntmps45 Try.results45 ?_
  unfold frac_times at hh
  obtain ⟨r1, hr1, hh⟩ := bindS hh
  cases hh
  try simp only [x_frac_times, seval, -Int.reduceToNat, hr1]

theorem ok_frac_times : COk Try.prog 45 G_frac_times := COk.of (mode := .clean) tok ge_frac_times mixed Try.func45 (by kernel_rfl) ⟨by kernel_rfl, by kernel_rfl⟩ (fun _ => Nat.le_of_ble_eq_true (by kernel_rfl)) (fun x r h => m_frac_times x.1 x.2 r h)
end Go.Proofs.Ytadpbhbkdnfbpaa.Am
