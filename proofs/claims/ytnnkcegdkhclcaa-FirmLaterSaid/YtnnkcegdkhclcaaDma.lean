/- The machine computes the plain functions (written by wip/dec.py). -/
import Derived.Test.YtnnkcegdkhclcaaTab2
import Derived.Test.YtnnkcegdkhclcaaCi
import Derived.Test.YtnnkcegdkhclcaaDp
import Derived.Test.YtnnkcegdkhclcaaSp
namespace Go.Proofs.Ytnnkcegdkhclcaa.Am
open Go.RowKit Go.Proofs.Ytnnkcegdkhclcaa.P
set_option maxRecDepth 100000
set_option maxHeartbeats 4000000
set_option linter.unusedSimpArgs false
set_option linter.unusedVariables false

theorem vmt : type_of% (And.intro @tab_2 <| And.intro @tab_3 <| And.intro @tab_4 <| And.intro @tab_5 <| And.intro @tab_9 <| And.intro @tab_12 <| And.intro @tab_21 <| And.intro @tab_22 <| And.intro @tab_25 <| And.intro @tab_29 <| And.intro @tab_33 <| And.intro @tab_34 <| And.intro @tab_38 <| And.intro @tab_39 <| And.intro @tab_45 <| And.intro @tab_47 <| And.intro @tab_52 <| And.intro @tab_55 <| And.intro @tab_63 <| And.intro @tab_65 <| @tab_66) := And.intro @tab_2 <| And.intro @tab_3 <| And.intro @tab_4 <| And.intro @tab_5 <| And.intro @tab_9 <| And.intro @tab_12 <| And.intro @tab_21 <| And.intro @tab_22 <| And.intro @tab_25 <| And.intro @tab_29 <| And.intro @tab_33 <| And.intro @tab_34 <| And.intro @tab_38 <| And.intro @tab_39 <| And.intro @tab_45 <| And.intro @tab_47 <| And.intro @tab_52 <| And.intro @tab_55 <| And.intro @tab_63 <| And.intro @tab_65 <| @tab_66

def eTDeed : Enc TDeed := eVia (ePair (eI .i64) (ePair (eI .i64) (ePair (eI .i64) (eSl (eI .i64))))) (fun x => (x.f_Kind, x.f_Day, x.f_House, x.f_Others)) (by rintro ⟨⟩ ⟨⟩ h; simpa using h)

theorem eTDeed_cells (x : TDeed) : eTDeed.cells x = [.int .i64 x.f_Kind, .int .i64 x.f_Day, .int .i64 x.f_House, .sl false false x.f_Others.length (encL (eI .i64) x.f_Others)] := Eq.trans rfl rfl

theorem eTDeed_size : eTDeed.size = 4 := Eq.trans rfl rfl

theorem eta_TDeed (x : TDeed) : TDeed.mk x.f_Kind x.f_Day x.f_House x.f_Others = x := Eq.trans rfl rfl

theorem lenE0 {l : List _} : (encL (eI .i64) l).length = l.length * 1 := encL_len _ l

theorem takeE0 {l : List _} : (encL (eI .i64) l).take (l.length * 1) = encL (eI .i64) l := by
  have := encL_take (eI .i64) l l.length
  rw [List.take_length] at this
  exact this

theorem takeS0 {l : List _} {i : Nat} {x : _} : (encL (eI .i64) (l.set i x)).take (l.length * 1) = encL (eI .i64) (l.set i x) := by
  have := @takeE0 (l.set i x)
  rwa [List.length_set] at this

theorem lenE1 {l : List _} : (encL eBool l).length = l.length * 1 := encL_len _ l

theorem takeE1 {l : List _} : (encL eBool l).take (l.length * 1) = encL eBool l := by
  have := encL_take eBool l l.length
  rw [List.take_length] at this
  exact this

theorem takeS1 {l : List _} {i : Nat} {x : _} : (encL eBool (l.set i x)).take (l.length * 1) = encL eBool (l.set i x) := by
  have := @takeE1 (l.set i x)
  rwa [List.length_set] at this

theorem lenE2 {l : List _} : (encL eTDeed l).length = l.length * 4 := encL_len _ l

theorem takeE2 {l : List _} : (encL eTDeed l).take (l.length * 4) = encL eTDeed l := by
  have := encL_take eTDeed l l.length
  rw [List.take_length] at this
  exact this

theorem takeS2 {l : List _} {i : Nat} {x : _} : (encL eTDeed (l.set i x)).take (l.length * 4) = encL eTDeed (l.set i x) := by
  have := @takeE2 (l.set i x)
  rwa [List.length_set] at this

theorem vme : type_of% (And.intro @eI_cells <| And.intro @eBool_cells <| And.intro @eStr_cells <| And.intro @eSl_cells <| And.intro @eI_size <| And.intro @eBool_size <| And.intro @eStr_size <| And.intro @eSl_size <| And.intro @encL_nil <| And.intro @eTDeed_cells <| @eTDeed_size) := And.intro @eI_cells <| And.intro @eBool_cells <| And.intro @eStr_cells <| And.intro @eSl_cells <| And.intro @eI_size <| And.intro @eBool_size <| And.intro @eStr_size <| And.intro @eSl_size <| And.intro @encL_nil <| And.intro @eTDeed_cells <| @eTDeed_size

theorem vml : type_of% (And.intro @encL_cons <| And.intro @eta_TDeed <| And.intro @lenE0 <| And.intro @takeE0 <| And.intro @takeS0 <| And.intro @lenE1 <| And.intro @takeE1 <| And.intro @takeS1 <| And.intro @lenE2 <| And.intro @takeE2 <| @takeS2) := And.intro @encL_cons <| And.intro @eta_TDeed <| And.intro @lenE0 <| And.intro @takeE0 <| And.intro @takeS0 <| And.intro @lenE1 <| And.intro @takeE1 <| And.intro @takeS1 <| And.intro @lenE2 <| And.intro @takeE2 <| @takeS2

theorem zE_39 : zeroE tab ⟨.map 3 34, 1, 8, [.map none], false⟩ (.agg [.int .i64 0, .int .i64 0, .int .i64 0, .sl false false 0 []]) := ⟨_, _, rfl, rfl, rfl, rfl⟩

theorem lk_39 {h : Nat → Option Row} {m : D} {n : Int} {ok : Bool} : effLookup tab ⟨.map 3 34, 1, 8, [.map none], false⟩ h m (.int .i64 n) ok = lkE ok (.agg [.int .i64 0, .int .i64 0, .int .i64 0, .sl false false 0 []]) n (mapOf h m) := lk_law zE_39

theorem mu_39 {h : Nat → Option Row} {y v : Nat} {n : Int} {x : D} : effMapUpdate tab ⟨.map 3 34, 1, 8, [.map none], false⟩ h (.mp y v) (.int .i64 n) x = muE h y v n (valM h x) := mu_law zE_39

theorem mk_39 {ty e d : Nat} : mkmE tab (some ⟨.map 3 34, 1, 8, [.map none], false⟩) ty e d = some ⟨.mp d e, [(d, some ⟨e, ty, [.mpc [] []], false, true, true⟩)]⟩ := mkm_law zE_39

theorem lkd_34 {m : List (Int × TDeed)} {n : Int} : lookD (.agg [.int .i64 0, .int .i64 0, .int .i64 0, .sl false false 0 []]) (mapK m) (mapV (aAgg eTDeed) m) n = .agg [.int .i64 ((lookM (TDeed.mk 0 0 0 ([])) m n).f_Kind), .int .i64 ((lookM (TDeed.mk 0 0 0 ([])) m n).f_Day), .int .i64 ((lookM (TDeed.mk 0 0 0 ([])) m n).f_House), .sl false false ((lookM (TDeed.mk 0 0 0 ([])) m n).f_Others).length (encL (eI .i64) ((lookM (TDeed.mk 0 0 0 ([])) m n).f_Others))] := lookD_map (A := (aAgg eTDeed)) (TDeed.mk 0 0 0 ([])) n m

theorem upd_34 {m : List (Int × TDeed)} {n : Int} {v0 : Int} {v1 : Int} {v2 : Int} {v3 : (List Int)} : D.mpc (putK (mapK m) n) (putV (mapK m) (mapV (aAgg eTDeed) m) n (.agg [.int .i64 v0, .int .i64 v1, .int .i64 v2, .sl false false v3.length (encL (eI .i64) v3)])) = .mpc (mapK (putM m n (TDeed.mk v0 v1 v2 v3))) (mapV (aAgg eTDeed) (putM m n (TDeed.mk v0 v1 v2 v3))) := by
  rw [← putK_map n (TDeed.mk v0 v1 v2 v3) m, ← putV_map n (TDeed.mk v0 v1 v2 v3) m]
  rfl

theorem zE_45 : zeroE tab ⟨.map 3 4, 1, 8, [.map none], false⟩ (.bool false) := ⟨_, _, rfl, rfl, rfl, rfl⟩

theorem lk_45 {h : Nat → Option Row} {m : D} {n : Int} {ok : Bool} : effLookup tab ⟨.map 3 4, 1, 8, [.map none], false⟩ h m (.int .i64 n) ok = lkE ok (.bool false) n (mapOf h m) := lk_law zE_45

theorem mu_45 {h : Nat → Option Row} {y v : Nat} {n : Int} {x : D} : effMapUpdate tab ⟨.map 3 4, 1, 8, [.map none], false⟩ h (.mp y v) (.int .i64 n) x = muE h y v n (valM h x) := mu_law zE_45

theorem mk_45 {ty e d : Nat} : mkmE tab (some ⟨.map 3 4, 1, 8, [.map none], false⟩) ty e d = some ⟨.mp d e, [(d, some ⟨e, ty, [.mpc [] []], false, true, true⟩)]⟩ := mkm_law zE_45

theorem lkd_4 {m : List (Int × Bool)} {n : Int} : lookD (.bool false) (mapK m) (mapV aBool m) n = .bool (lookM false m n) := lookD_map (A := aBool) false n m

theorem upd_4 {m : List (Int × Bool)} {n : Int} {v0 : Bool} : D.mpc (putK (mapK m) n) (putV (mapK m) (mapV aBool m) n (.bool v0)) = .mpc (mapK (putM m n v0)) (mapV aBool (putM m n v0)) := by
  rw [← putK_map n v0 m, ← putV_map n v0 m]
  rfl

theorem vmm : type_of% (And.intro @lk_39 <| And.intro @mu_39 <| And.intro @mk_39 <| And.intro @lkd_34 <| And.intro @upd_34 <| And.intro @lk_45 <| And.intro @mu_45 <| And.intro @mk_45 <| And.intro @lkd_4 <| And.intro @upd_4 <| @vi) := And.intro @lk_39 <| And.intro @mu_39 <| And.intro @mk_39 <| And.intro @lkd_34 <| And.intro @upd_34 <| And.intro @lk_45 <| And.intro @mu_45 <| And.intro @mk_45 <| And.intro @lkd_4 <| And.intro @upd_4 <| @vi

theorem w : type_of% (And.intro @v <| And.intro @vmt <| And.intro @vme <| And.intro @vml <| @vmm) := And.intro @v <| And.intro @vmt <| And.intro @vme <| And.intro @vml <| @vmm

theorem vmz : type_of% (And.intro @vme <| And.intro @List.cons_append.{0} <| And.intro @List.nil_append.{0} <| And.intro @List.length_nil.{0} <| And.intro @List.drop_succ_cons.{0} <| @List.drop_zero.{0}) := And.intro @vme <| And.intro @List.cons_append.{0} <| And.intro @List.nil_append.{0} <| And.intro @List.length_nil.{0} <| And.intro @List.drop_succ_cons.{0} <| @List.drop_zero.{0}

noncomputable def G_firm_house := mkG (as1 (aI .i64)) (fun x : Int => firm_house x) (fun r : Bool => .clean (.bool r))

theorem q_firm_house (p0 : Int) : G_firm_house none [.int .i64 p0] = (firm_house p0).map fun r : Bool => (.clean (.bool r), none) := mkG_eq _ _ _ (p0)

theorem m_firm_house (p0 : Int) (r : Bool) (hh : firm_house p0 = some r) : vfunc .clean tab noEnv FU Try.f22 none [.int .i64 p0] = some (.clean (.bool r), none) := by
  refine vfunc_of rfl Try.ntmps22 Try.results22 ?_
  unfold firm_house at hh
  try simp only [w, seval, -Int.reduceToNat]
  refine tstO_br (fun hb1 => ?_) (fun hb1 => ?_)
  · replace hh := ite_t hb1 hh
    cases hh
    try simp only [w, seval, -Int.reduceToNat]
  · replace hh := ite_f hb1 hh
    cases hh
    try simp only [w, seval, -Int.reduceToNat]

theorem ok_firm_house : COk Try.prog 22 G_firm_house := COk.of (mode := .clean) tok GOk.none mixed Try.func22 (by kernel_rfl) ⟨by kernel_rfl, by kernel_rfl⟩ (fun _ => Nat.le_of_ble_eq_true (by kernel_rfl)) (fun x r h => m_firm_house x r h)

noncomputable def G_firm_followers := mkG (asC (aI .i64) (as1 (aI .i64))) (fun x : Int × Int => firm_followers x.1 x.2) (fun r : Bool => .clean (.bool r))

theorem q_firm_followers (p0 : Int) (p1 : Int) : G_firm_followers none [.int .i64 p0, .int .i64 p1] = (firm_followers p0 p1).map fun r : Bool => (.clean (.bool r), none) := mkG_eq _ _ _ (p0, p1)

theorem m_firm_followers (p0 : Int) (p1 : Int) (r : Bool) (hh : firm_followers p0 p1 = some r) : vfunc .clean tab noEnv FU Try.f31 none [.int .i64 p0, .int .i64 p1] = some (.clean (.bool r), none) := by
  refine vfunc_of rfl Try.ntmps31 Try.results31 ?_
  unfold firm_followers at hh
  try simp only [w, seval, -Int.reduceToNat]
  refine tstC_br (fun hb1 => ?_) (fun hb1 => ?_)
  · replace hh := ite_t hb1 hh
    cases hh
    try simp only [w, seval, -Int.reduceToNat]
  · replace hh := ite_f hb1 hh
    try simp only [w, seval, -Int.reduceToNat]
    refine tstC_br (fun hb2 => ?_) (fun hb2 => ?_)
    · replace hh := ite_t hb2 hh
      cases hh
      try simp only [w, seval, -Int.reduceToNat]
    · replace hh := ite_f hb2 hh
      try simp only [w, seval, -Int.reduceToNat]
      refine tstC_br (fun hb3 => ?_) (fun hb3 => ?_)
      · replace hh := ite_t hb3 hh
        try simp only [w, seval, -Int.reduceToNat]
        refine tstO_br (fun hb4 => ?_) (fun hb4 => ?_)
        · replace hh := ite_t hb4 hh
          cases hh
          try simp only [w, seval, -Int.reduceToNat]
        · replace hh := ite_f hb4 hh
          cases hh
          try simp only [w, seval, -Int.reduceToNat]
      · replace hh := ite_f hb3 hh
        cases hh
        try simp only [w, seval, -Int.reduceToNat]

theorem ok_firm_followers : COk Try.prog 31 G_firm_followers := COk.of (mode := .clean) tok GOk.none mixed Try.func31 (by kernel_rfl) ⟨by kernel_rfl, by kernel_rfl⟩ (fun _ => Nat.le_of_ble_eq_true (by kernel_rfl)) (fun x r h => m_firm_followers x.1 x.2 r h)

noncomputable def G_firm_fits := mkG (as1 (aAgg eTDeed)) (fun x : TDeed => firm_fits x) (fun r : Bool => .clean (.bool r))

theorem q_firm_fits (p0_0 : Int) (p0_1 : Int) (p0_2 : Int) (p0_3 : (List Int)) : G_firm_fits none [.agg [.int .i64 p0_0, .int .i64 p0_1, .int .i64 p0_2, .sl false false p0_3.length (encL (eI .i64) p0_3)]] = (firm_fits (TDeed.mk p0_0 p0_1 p0_2 p0_3)).map fun r : Bool => (.clean (.bool r), none) := mkG_eq _ _ _ ((TDeed.mk p0_0 p0_1 p0_2 p0_3))

noncomputable def g_firm_fits : Env := (Am.ext (Am.ext noEnv 22 false G_firm_house) 31 false G_firm_followers)

theorem ge_firm_fits : GOk Try.prog g_firm_fits := ((GOk.none.add ok_firm_house false).add ok_firm_followers false)

theorem gg_firm_fits : g_firm_fits = (Am.ext (Am.ext noEnv 22 false G_firm_house) 31 false G_firm_followers) := Eq.trans rfl rfl

theorem x_firm_fits : type_of% (And.intro @w <| And.intro @q_firm_house <| And.intro @q_firm_followers <| @gg_firm_fits) := And.intro @w <| And.intro @q_firm_house <| And.intro @q_firm_followers <| @gg_firm_fits

theorem m_firm_fits (p0 : TDeed) (r : Bool) (hh : firm_fits p0 = some r) : vfunc .clean tab g_firm_fits FU Try.f26 none [.agg [.int .i64 p0.f_Kind, .int .i64 p0.f_Day, .int .i64 p0.f_House, .sl false false p0.f_Others.length (encL (eI .i64) p0.f_Others)]] = some (.clean (.bool r), none) := by
  refine vfunc_of rfl Try.ntmps26 Try.results26 ?_
  unfold firm_fits at hh
  obtain ⟨r1, hr1, hh⟩ := bindS hh
  try simp only [x_firm_fits, seval, -Int.reduceToNat, hr1]
  obtain ⟨o2, ho2, hh⟩ := bindS hh
  refine tstO_cut 0 (fun s t H e => match s with | s18j1 => ∃ v1j1 : Nat, t 1 = .ptr 1 v1j1 0 ∧ t 18 = .bool s18j1 ∧ H 1 = some ⟨v1j1, 34, [.int .i64 p0.f_Kind, .int .i64 p0.f_Day, .int .i64 p0.f_House, .sl false false p0.f_Others.length (encL (eI .i64) p0.f_Others)], false, false, false⟩) (fun s => s = o2) ?_ ?_
  · rintro s18j1 t H e ⟨v1j1, t1j1, t18j1, H1j1⟩ rfl
    try dsimp only at hh
    try simp only [x_firm_fits, seval, -Int.reduceToNat, hr1, t1j1, t18j1, H1j1]
    refine tstC_br (fun hb3 => ?_) (fun hb3 => ?_)
    · replace hh := ite_t hb3 hh
      cases hh
      try simp only [x_firm_fits, seval, -Int.reduceToNat, hr1, t1j1, t18j1, H1j1]
    · replace hh := ite_f hb3 hh
      try simp only [x_firm_fits, seval, -Int.reduceToNat, hr1, t1j1, t18j1, H1j1]
      obtain ⟨o10, ho10, hh⟩ := bindS hh
      refine runLoop_sim (fun s t H e => match s with | (s3b, s22b) => ∃ v1b : Nat, t 1 = .ptr 1 v1b 0 ∧ t 3 = .int .i64 s3b ∧ t 20 = .sl false false p0.f_Others.length (encL (eI .i64) p0.f_Others) ∧ t 21 = .int .i64 (p0.f_Others.length : Int) ∧ t 22 = .int .i64 s22b ∧ H 1 = some ⟨v1b, 34, [.int .i64 p0.f_Kind, .int .i64 p0.f_Day, .int .i64 p0.f_House, .sl false false p0.f_Others.length (encL (eI .i64) p0.f_Others)], false, false, false⟩) (fun o x t H e => match o with | (.inl _) => x = .exit 0 | (.inr r) => x = .ret ∧ endM .clean tab none [.tmp 2] ⟨t, H, e⟩ = some (.clean (.bool r), none)) ho10 ?_ ?_ ?_
      ·
        refine ⟨v1j1, ?_, ?_, ?_, ?_, ?_, ?_⟩
        all_goals (first | rfl | (simp only [x_firm_fits, seval, -Int.reduceToNat, hr1, t1j1, t18j1, H1j1] <;> rfl))
      · rintro ⟨s3b, s22b⟩ t H e ⟨v1b, t1b, t3b, t20b, t21b, t22b, H1b⟩ c hh
        simp only [firm_fits_L2] at hh
        try simp only [x_firm_fits, seval, -Int.reduceToNat, hr1, t1b, t3b, t20b, t21b, t22b, H1b]
        refine tstC_br (fun hb11 => ?_) (fun hb11 => ?_)
        · replace hh := ite_t hb11 hh
          obtain ⟨x12, hx12, hh⟩ := bindS hh
          have bx12 := idx_bd hx12
          have ax12 := idx_enc (eI .i64) hx12
          have fx12 := idx_fit (eI .i64) hx12
          simp only [vmz] at ax12 fx12
          skip
          obtain ⟨r13, hr13, hh⟩ := bindS hh
          try simp only [x_firm_fits, seval, -Int.reduceToNat, hr1, t1b, t3b, t20b, t21b, t22b, H1b, bx12, ax12, fx12, hr13]
          refine tstO_br' (fun hb14 => ?_) (fun hb14 => ?_)
          · replace hh := ite_t hb14 hh
            cases hh
            try simp only [x_firm_fits, seval, -Int.reduceToNat, hr1, t1b, t3b, t20b, t21b, t22b, H1b, bx12, ax12, fx12, hr13]
            rw [LK_ret]
            refine ⟨_, rfl, ?_⟩
            refine ⟨rfl, ?_⟩
            try simp only [x_firm_fits, seval, -Int.reduceToNat, hr1, t1b, t3b, t20b, t21b, t22b, H1b, bx12, ax12, fx12, hr13]
          · replace hh := ite_f hb14 hh
            try simp only [x_firm_fits, seval, -Int.reduceToNat, hr1, t1b, t3b, t20b, t21b, t22b, H1b, bx12, ax12, fx12, hr13]
            refine tstO_br' (fun hb15 => ?_) (fun hb15 => ?_)
            · replace hh := ite_t hb15 hh
              cases hh
              try simp only [x_firm_fits, seval, -Int.reduceToNat, hr1, t1b, t3b, t20b, t21b, t22b, H1b, bx12, ax12, fx12, hr13]
              rw [LK_ret]
              refine ⟨_, rfl, ?_⟩
              refine ⟨rfl, ?_⟩
              try simp only [x_firm_fits, seval, -Int.reduceToNat, hr1, t1b, t3b, t20b, t21b, t22b, H1b, bx12, ax12, fx12, hr13]
            · replace hh := ite_f hb15 hh
              try simp only [x_firm_fits, seval, -Int.reduceToNat, hr1, t1b, t3b, t20b, t21b, t22b, H1b, bx12, ax12, fx12, hr13]
              refine tstC_br (fun hb16 => ?_) (fun hb16 => ?_)
              · replace hh := ite_t hb16 hh
                cases hh
                try simp only [x_firm_fits, seval, -Int.reduceToNat, hr1, t1b, t3b, t20b, t21b, t22b, H1b, bx12, ax12, fx12, hr13]
                rw [LK_ret]
                refine ⟨_, rfl, ?_⟩
                refine ⟨rfl, ?_⟩
                try simp only [x_firm_fits, seval, -Int.reduceToNat, hr1, t1b, t3b, t20b, t21b, t22b, H1b, bx12, ax12, fx12, hr13]
              · replace hh := ite_f hb16 hh
                cases hh
                try simp only [x_firm_fits, seval, -Int.reduceToNat, hr1, t1b, t3b, t20b, t21b, t22b, H1b, bx12, ax12, fx12, hr13]
                rw [LK_normal]
                refine ⟨_, rfl, ?_⟩
                refine ⟨v1b, ?_, ?_, ?_, ?_, ?_, ?_⟩
                all_goals (first | rfl | (simp only [x_firm_fits, seval, -Int.reduceToNat, hr1, t1b, t3b, t20b, t21b, t22b, H1b, bx12, ax12, fx12, hr13] <;> rfl))
        · replace hh := ite_f hb11 hh
          cases hh
          try simp only [x_firm_fits, seval, -Int.reduceToNat, hr1, t1b, t3b, t20b, t21b, t22b, H1b]
          rw [LK_exit]
          refine ⟨_, rfl, ?_⟩
          exact rfl
      · rintro x t H e hx
        rcases o10 with _ | rb
        ·
          dsimp only at hx hh
          subst hx
          cases hh
          try simp only [x_firm_fits, seval, -Int.reduceToNat, hr1]
        ·
          dsimp only at hx hh
          obtain ⟨rfl, hE⟩ := hx
          cases hh
          try simp only [runW_pass_ret, runW_pass_exit, runW_blk_ret, runW_nil, endW_ret]
          exact hE
  ·
    clear hh
    have hh := ho2
    try simp only [x_firm_fits, seval, -Int.reduceToNat, hr1]
    refine tstO_br' (fun hb17 => ?_) (fun hb17 => ?_)
    · replace hh := ite_t hb17 hh
      cases hh
      try simp only [x_firm_fits, seval, -Int.reduceToNat, hr1]
      rw [CK_normal]
      refine ⟨_, rfl, ?_⟩
      refine ⟨0, ?_, ?_, ?_⟩
      all_goals (first | rfl | (simp only [x_firm_fits, seval, -Int.reduceToNat, hr1] <;> rfl))
    · replace hh := ite_f hb17 hh
      obtain ⟨r18, hr18, hh⟩ := bindS hh
      cases hh
      try simp only [x_firm_fits, seval, -Int.reduceToNat, hr1, hr18]
      rw [CK_normal]
      refine ⟨_, rfl, ?_⟩
      refine ⟨0, ?_, ?_, ?_⟩
      all_goals (first | rfl | (simp only [x_firm_fits, seval, -Int.reduceToNat, hr1, hr18] <;> rfl))

theorem ok_firm_fits : COk Try.prog 26 G_firm_fits := COk.of (mode := .clean) tok ge_firm_fits mixed Try.func26 (by kernel_rfl) ⟨by kernel_rfl, by kernel_rfl⟩ (fun _ => Nat.le_of_ble_eq_true (by kernel_rfl)) (fun x r h => m_firm_fits x r h)

noncomputable def G_firm_book_alive := mkG (asC (aMp (aAgg eTDeed)) (asC (aI .i64) (as1 (aI .i64)))) (fun x : (List (Int × TDeed)) × Int × Int => firm_book_alive x.1 x.2.1 x.2.2) (fun r : Bool => .clean (.bool r))

theorem q_firm_book_alive (p0 : (List (Int × TDeed))) (p1 : Int) (p2 : Int) : G_firm_book_alive none [.mpc (mapK p0) (mapV (aAgg eTDeed) p0), .int .i64 p1, .int .i64 p2] = (firm_book_alive p0 p1 p2).map fun r : Bool => (.clean (.bool r), none) := mkG_eq _ _ _ (p0, p1, p2)

theorem m_firm_book_alive (p0 : (List (Int × TDeed))) (p1 : Int) (p2 : Int) (r : Bool) (hh : firm_book_alive p0 p1 p2 = some r) : vfunc .clean tab noEnv FU Try.f23 none [.mpc (mapK p0) (mapV (aAgg eTDeed) p0), .int .i64 p1, .int .i64 p2] = some (.clean (.bool r), none) := by
  refine vfunc_of rfl Try.ntmps23 Try.results23 ?_
  unfold firm_book_alive at hh
  try simp only [w, seval, -Int.reduceToNat]
  refine tstO_br' (fun hb1 => ?_) (fun hb1 => ?_)
  · replace hh := ite_t hb1 hh
    cases hh
    try simp only [w, seval, -Int.reduceToNat]
  · replace hh := ite_f hb1 hh
    cases hh
    try simp only [w, seval, -Int.reduceToNat]

theorem ok_firm_book_alive : COk Try.prog 23 G_firm_book_alive := COk.of (mode := .clean) tok GOk.none mixed Try.func23 (by kernel_rfl) ⟨by kernel_rfl, by kernel_rfl⟩ (fun _ => Nat.le_of_ble_eq_true (by kernel_rfl)) (fun x r h => m_firm_book_alive x.1 x.2.1 x.2.2 r h)

noncomputable def G_firm_read_1 := mkG (asC (aI .i64) (asC (aIp (eMp (aAgg eTDeed))) (as1 (aIp eTDeed)))) (fun x : Int × (List (Int × TDeed)) × TDeed => firm_read_1 x.1 x.2.1 x.2.2) (fun r : Bool => .clean (.bool r))

theorem q_firm_read_1 (p0 : Int) (p1 : (List (Int × TDeed))) (p2_0 : Int) (p2_1 : Int) (p2_2 : Int) (p2_3 : (List Int)) : G_firm_read_1 none [.int .i64 p0, .ip [.mpc (mapK p1) (mapV (aAgg eTDeed) p1)], .ip [.int .i64 p2_0, .int .i64 p2_1, .int .i64 p2_2, .sl false false p2_3.length (encL (eI .i64) p2_3)]] = (firm_read_1 p0 p1 (TDeed.mk p2_0 p2_1 p2_2 p2_3)).map fun r : Bool => (.clean (.bool r), none) := mkG_eq _ _ _ (p0, p1, (TDeed.mk p2_0 p2_1 p2_2 p2_3))

noncomputable def g_firm_read_1 : Env := (Am.ext noEnv 23 false G_firm_book_alive)

theorem ge_firm_read_1 : GOk Try.prog g_firm_read_1 := (GOk.none.add ok_firm_book_alive false)

theorem gg_firm_read_1 : g_firm_read_1 = (Am.ext noEnv 23 false G_firm_book_alive) := Eq.trans rfl rfl

theorem x_firm_read_1 : type_of% (And.intro @w <| And.intro @q_firm_book_alive <| @gg_firm_read_1) := And.intro @w <| And.intro @q_firm_book_alive <| @gg_firm_read_1

theorem m_firm_read_1 (p0 : Int) (p1 : (List (Int × TDeed))) (p2 : TDeed) (r : Bool) (hh : firm_read_1 p0 p1 p2 = some r) : vfunc .clean tab g_firm_read_1 FU Try.f28 none [.int .i64 p0, .ip [.mpc (mapK p1) (mapV (aAgg eTDeed) p1)], .ip [.int .i64 p2.f_Kind, .int .i64 p2.f_Day, .int .i64 p2.f_House, .sl false false p2.f_Others.length (encL (eI .i64) p2.f_Others)]] = some (.clean (.bool r), none) := by
  refine vfunc_of rfl Try.ntmps28 Try.results28 ?_
  unfold firm_read_1 at hh
  obtain ⟨r1, hr1, hh⟩ := bindS hh
  cases hh
  try simp only [x_firm_read_1, seval, -Int.reduceToNat, hr1]

theorem ok_firm_read_1 : COk Try.prog 28 G_firm_read_1 := COk.of (mode := .clean) tok ge_firm_read_1 mixed Try.func28 (by kernel_rfl) ⟨by kernel_rfl, by kernel_rfl⟩ (fun _ => Nat.le_of_ble_eq_true (by kernel_rfl)) (fun x r h => m_firm_read_1 x.1 x.2.1 x.2.2 r h)

noncomputable def G_slices_IndexFunc_firm_read_1 := mkG (asC (aSl (eI .i64)) (as1 (aClo 28 0 (asC (aIp (eMp (aAgg eTDeed))) (as1 (aIp eTDeed)))))) (fun x : (List Int) × ((List (Int × TDeed)) × TDeed) => slices_IndexFunc_firm_read_1 x.1 x.2.1 x.2.2) (fun r : Int => .clean (.int .i64 r))

theorem q_slices_IndexFunc_firm_read_1 (p0 : (List Int)) (p1c0 : (List (Int × TDeed))) (p1c1_0 : Int) (p1c1_1 : Int) (p1c1_2 : Int) (p1c1_3 : (List Int)) : G_slices_IndexFunc_firm_read_1 none [.sl false false p0.length (encL (eI .i64) p0), .clo 28 0 [.ip [.mpc (mapK p1c0) (mapV (aAgg eTDeed) p1c0)], .ip [.int .i64 p1c1_0, .int .i64 p1c1_1, .int .i64 p1c1_2, .sl false false p1c1_3.length (encL (eI .i64) p1c1_3)]]] = (slices_IndexFunc_firm_read_1 p0 p1c0 (TDeed.mk p1c1_0 p1c1_1 p1c1_2 p1c1_3)).map fun r : Int => (.clean (.int .i64 r), none) := mkG_eq _ _ _ (p0, (p1c0, (TDeed.mk p1c1_0 p1c1_1 p1c1_2 p1c1_3)))

noncomputable def g_slices_IndexFunc_firm_read_1 : Env := (Am.ext noEnv 28 false G_firm_read_1)

theorem ge_slices_IndexFunc_firm_read_1 : GOk Try.prog g_slices_IndexFunc_firm_read_1 := (GOk.none.add ok_firm_read_1 false)

theorem gg_slices_IndexFunc_firm_read_1 : g_slices_IndexFunc_firm_read_1 = (Am.ext noEnv 28 false G_firm_read_1) := Eq.trans rfl rfl

theorem x_slices_IndexFunc_firm_read_1 : type_of% (And.intro @w <| And.intro @q_firm_read_1 <| @gg_slices_IndexFunc_firm_read_1) := And.intro @w <| And.intro @q_firm_read_1 <| @gg_slices_IndexFunc_firm_read_1

theorem m_slices_IndexFunc_firm_read_1 (p0 : (List Int)) (p1c0 : (List (Int × TDeed))) (p1c1 : TDeed) (r : Int) (hh : slices_IndexFunc_firm_read_1 p0 p1c0 p1c1 = some r) : vfunc .clean tab g_slices_IndexFunc_firm_read_1 FU Try.f32 none [.sl false false p0.length (encL (eI .i64) p0), .clo 28 0 [.ip [.mpc (mapK p1c0) (mapV (aAgg eTDeed) p1c0)], .ip [.int .i64 p1c1.f_Kind, .int .i64 p1c1.f_Day, .int .i64 p1c1.f_House, .sl false false p1c1.f_Others.length (encL (eI .i64) p1c1.f_Others)]]] = some (.clean (.int .i64 r), none) := by
  refine vfunc_of rfl Try.ntmps32 Try.results32 ?_
  unfold slices_IndexFunc_firm_read_1 at hh
  try simp only [x_slices_IndexFunc_firm_read_1, seval, -Int.reduceToNat]
  obtain ⟨o5, ho5, hh⟩ := bindS hh
  refine runLoop_sim (fun s t H e => match s with | s8a => t 0 = .sl false false p0.length (encL (eI .i64) p0) ∧ t 1 = .clo 28 0 [.ip [.mpc (mapK p1c0) (mapV (aAgg eTDeed) p1c0)], .ip [.int .i64 p1c1.f_Kind, .int .i64 p1c1.f_Day, .int .i64 p1c1.f_House, .sl false false p1c1.f_Others.length (encL (eI .i64) p1c1.f_Others)]] ∧ t 7 = .int .i64 (p0.length : Int) ∧ t 8 = .int .i64 s8a) (fun o x t H e => match o with | (.inl _) => x = .exit 0 | (.inr r) => x = .ret ∧ endM .clean tab none [.tmp 4] ⟨t, H, e⟩ = some (.clean (.int .i64 r), none)) ho5 ?_ ?_ ?_
  ·
    refine ⟨?_, ?_, ?_, ?_⟩
    all_goals (first | rfl | (simp only [x_slices_IndexFunc_firm_read_1, seval, -Int.reduceToNat] <;> rfl))
  · rintro s8a t H e ⟨t0a, t1a, t7a, t8a⟩ c hh
    simp only [slices_IndexFunc_firm_read_1_L1] at hh
    try simp only [x_slices_IndexFunc_firm_read_1, seval, -Int.reduceToNat, t0a, t1a, t7a, t8a]
    refine tstC_br (fun hb6 => ?_) (fun hb6 => ?_)
    · replace hh := ite_t hb6 hh
      obtain ⟨x7, hx7, hh⟩ := bindS hh
      have bx7 := idx_bd hx7
      have ax7 := idx_enc (eI .i64) hx7
      have fx7 := idx_fit (eI .i64) hx7
      simp only [vmz] at ax7 fx7
      skip
      obtain ⟨r8, hr8, hh⟩ := bindS hh
      try simp only [x_slices_IndexFunc_firm_read_1, seval, -Int.reduceToNat, t0a, t1a, t7a, t8a, bx7, ax7, fx7, hr8]
      refine tstC_br (fun hb9 => ?_) (fun hb9 => ?_)
      · replace hh := ite_t hb9 hh
        cases hh
        try simp only [x_slices_IndexFunc_firm_read_1, seval, -Int.reduceToNat, t0a, t1a, t7a, t8a, bx7, ax7, fx7, hr8]
        rw [LK_ret]
        refine ⟨_, rfl, ?_⟩
        refine ⟨rfl, ?_⟩
        try simp only [x_slices_IndexFunc_firm_read_1, seval, -Int.reduceToNat, t0a, t1a, t7a, t8a, bx7, ax7, fx7, hr8]
      · replace hh := ite_f hb9 hh
        cases hh
        try simp only [x_slices_IndexFunc_firm_read_1, seval, -Int.reduceToNat, t0a, t1a, t7a, t8a, bx7, ax7, fx7, hr8]
        rw [LK_normal]
        refine ⟨_, rfl, ?_⟩
        refine ⟨?_, ?_, ?_, ?_⟩
        all_goals (first | rfl | (simp only [x_slices_IndexFunc_firm_read_1, seval, -Int.reduceToNat, t0a, t1a, t7a, t8a, bx7, ax7, fx7, hr8] <;> rfl))
    · replace hh := ite_f hb6 hh
      cases hh
      try simp only [x_slices_IndexFunc_firm_read_1, seval, -Int.reduceToNat, t0a, t1a, t7a, t8a]
      rw [LK_exit]
      refine ⟨_, rfl, ?_⟩
      exact rfl
  · rintro x t H e hx
    rcases o5 with _ | ra
    ·
      dsimp only at hx hh
      subst hx
      cases hh
      try simp only [x_slices_IndexFunc_firm_read_1, seval, -Int.reduceToNat]
    ·
      dsimp only at hx hh
      obtain ⟨rfl, hE⟩ := hx
      cases hh
      try simp only [runW_pass_ret, runW_pass_exit, runW_blk_ret, runW_nil, endW_ret]
      exact hE

theorem ok_slices_IndexFunc_firm_read_1 : COk Try.prog 32 G_slices_IndexFunc_firm_read_1 := COk.of (mode := .clean) tok ge_slices_IndexFunc_firm_read_1 mixed Try.func32 (by kernel_rfl) ⟨by kernel_rfl, by kernel_rfl⟩ (fun _ => Nat.le_of_ble_eq_true (by kernel_rfl)) (fun x r h => m_slices_IndexFunc_firm_read_1 x.1 x.2.1 x.2.2 r h)

noncomputable def G_slices_ContainsFunc_firm_read_1 := mkG (asC (aSl (eI .i64)) (as1 (aClo 28 0 (asC (aIp (eMp (aAgg eTDeed))) (as1 (aIp eTDeed)))))) (fun x : (List Int) × ((List (Int × TDeed)) × TDeed) => slices_ContainsFunc_firm_read_1 x.1 x.2.1 x.2.2) (fun r : Bool => .clean (.bool r))

theorem q_slices_ContainsFunc_firm_read_1 (p0 : (List Int)) (p1c0 : (List (Int × TDeed))) (p1c1_0 : Int) (p1c1_1 : Int) (p1c1_2 : Int) (p1c1_3 : (List Int)) : G_slices_ContainsFunc_firm_read_1 none [.sl false false p0.length (encL (eI .i64) p0), .clo 28 0 [.ip [.mpc (mapK p1c0) (mapV (aAgg eTDeed) p1c0)], .ip [.int .i64 p1c1_0, .int .i64 p1c1_1, .int .i64 p1c1_2, .sl false false p1c1_3.length (encL (eI .i64) p1c1_3)]]] = (slices_ContainsFunc_firm_read_1 p0 p1c0 (TDeed.mk p1c1_0 p1c1_1 p1c1_2 p1c1_3)).map fun r : Bool => (.clean (.bool r), none) := mkG_eq _ _ _ (p0, (p1c0, (TDeed.mk p1c1_0 p1c1_1 p1c1_2 p1c1_3)))

noncomputable def g_slices_ContainsFunc_firm_read_1 : Env := (Am.ext noEnv 32 false G_slices_IndexFunc_firm_read_1)

theorem ge_slices_ContainsFunc_firm_read_1 : GOk Try.prog g_slices_ContainsFunc_firm_read_1 := (GOk.none.add ok_slices_IndexFunc_firm_read_1 false)

theorem gg_slices_ContainsFunc_firm_read_1 : g_slices_ContainsFunc_firm_read_1 = (Am.ext noEnv 32 false G_slices_IndexFunc_firm_read_1) := Eq.trans rfl rfl

theorem x_slices_ContainsFunc_firm_read_1 : type_of% (And.intro @w <| And.intro @q_slices_IndexFunc_firm_read_1 <| @gg_slices_ContainsFunc_firm_read_1) := And.intro @w <| And.intro @q_slices_IndexFunc_firm_read_1 <| @gg_slices_ContainsFunc_firm_read_1

theorem m_slices_ContainsFunc_firm_read_1 (p0 : (List Int)) (p1c0 : (List (Int × TDeed))) (p1c1 : TDeed) (r : Bool) (hh : slices_ContainsFunc_firm_read_1 p0 p1c0 p1c1 = some r) : vfunc .clean tab g_slices_ContainsFunc_firm_read_1 FU Try.f27 none [.sl false false p0.length (encL (eI .i64) p0), .clo 28 0 [.ip [.mpc (mapK p1c0) (mapV (aAgg eTDeed) p1c0)], .ip [.int .i64 p1c1.f_Kind, .int .i64 p1c1.f_Day, .int .i64 p1c1.f_House, .sl false false p1c1.f_Others.length (encL (eI .i64) p1c1.f_Others)]]] = some (.clean (.bool r), none) := by
  refine vfunc_of rfl Try.ntmps27 Try.results27 ?_
  unfold slices_ContainsFunc_firm_read_1 at hh
  obtain ⟨r1, hr1, hh⟩ := bindS hh
  cases hh
  try simp only [x_slices_ContainsFunc_firm_read_1, seval, -Int.reduceToNat, hr1]

theorem ok_slices_ContainsFunc_firm_read_1 : COk Try.prog 27 G_slices_ContainsFunc_firm_read_1 := COk.of (mode := .clean) tok ge_slices_ContainsFunc_firm_read_1 mixed Try.func27 (by kernel_rfl) ⟨by kernel_rfl, by kernel_rfl⟩ (fun _ => Nat.le_of_ble_eq_true (by kernel_rfl)) (fun x r h => m_slices_ContainsFunc_firm_read_1 x.1 x.2.1 x.2.2 r h)

noncomputable def G_firm_read := mkG (as1 (aSl eTDeed)) (fun x : (List TDeed) => firm_read x) (fun r : (List (Int × TDeed)) × Int => .clean (.tup [.mpc (mapK r.1) (mapV (aAgg eTDeed) r.1), .int .i64 r.2]))

theorem q_firm_read (p0 : (List TDeed)) : G_firm_read none [.sl false false p0.length (encL eTDeed p0)] = (firm_read p0).map fun r : (List (Int × TDeed)) × Int => (.clean (.tup [.mpc (mapK r.1) (mapV (aAgg eTDeed) r.1), .int .i64 r.2]), none) := mkG_eq _ _ _ (p0)

noncomputable def g_firm_read : Env := (Am.hintE 4 14 (Am.ext (Am.ext noEnv 26 false G_firm_fits) 27 false G_slices_ContainsFunc_firm_read_1))

theorem ge_firm_read : GOk Try.prog g_firm_read := (GOk.hintE ((GOk.none.add ok_firm_fits false).add ok_slices_ContainsFunc_firm_read_1 false) 4 14)

theorem gg_firm_read : g_firm_read = (Am.hintE 4 14 (Am.ext (Am.ext noEnv 26 false G_firm_fits) 27 false G_slices_ContainsFunc_firm_read_1)) := Eq.trans rfl rfl

theorem x_firm_read : type_of% (And.intro @w <| And.intro @q_firm_fits <| And.intro @q_slices_ContainsFunc_firm_read_1 <| @gg_firm_read) := And.intro @w <| And.intro @q_firm_fits <| And.intro @q_slices_ContainsFunc_firm_read_1 <| @gg_firm_read

theorem m_firm_read (p0 : (List TDeed)) (r : (List (Int × TDeed)) × Int) (hh : firm_read p0 = some r) : vfunc .clean tab g_firm_read FU Try.f19 none [.sl false false p0.length (encL eTDeed p0)] = some (.clean (.tup [.mpc (mapK r.1) (mapV (aAgg eTDeed) r.1), .int .i64 r.2]), none) := by
  refine vfunc_of rfl Try.ntmps19 Try.results19 ?_
  unfold firm_read at hh
  try simp only [x_firm_read, seval, -Int.reduceToNat]
  refine tstC_br (fun hb1 => ?_) (fun hb1 => ?_)
  · replace hh := ite_t hb1 hh
    cases hh
    try simp only [x_firm_read, seval, -Int.reduceToNat]
  · replace hh := ite_f hb1 hh
    try simp only [x_firm_read, seval, -Int.reduceToNat]
    obtain ⟨o10, ho10, hh⟩ := bindS hh
    refine runLoop_sim (fun s t H e => match s with | (s17a, l14a) => ∃ v4a : Nat, ∃ v14a : Nat, t 0 = .sl false false p0.length (encL eTDeed p0) ∧ t 4 = .pm 4 v4a 14 ∧ t 15 = .sl false false p0.length (encL eTDeed p0) ∧ t 16 = .int .i64 (p0.length : Int) ∧ t 17 = .int .i64 s17a ∧ H 4 = some ⟨v4a, 39, [.alm 14 v14a], true, false, false⟩ ∧ H 14 = some ⟨v14a, 39, [.mpc (mapK l14a) (mapV (aAgg eTDeed) l14a)], false, true, true⟩) (fun o x t H e => match o with | (.inl l14ax) => x = .exit 0 ∧ ∃ v4ax : Nat, ∃ v14ax : Nat, t 0 = .sl false false p0.length (encL eTDeed p0) ∧ t 4 = .pm 4 v4ax 14 ∧ H 4 = some ⟨v4ax, 39, [.alm 14 v14ax], true, false, false⟩ ∧ H 14 = some ⟨v14ax, 39, [.mpc (mapK l14ax) (mapV (aAgg eTDeed) l14ax)], false, true, true⟩ | (.inr r) => x = .ret ∧ endM .clean tab none [.tmp 2, .tmp 3] ⟨t, H, e⟩ = some (.clean (.tup [.mpc (mapK r.1) (mapV (aAgg eTDeed) r.1), .int .i64 r.2]), none)) ho10 ?_ ?_ ?_
    ·
      refine ⟨2, 2, ?_, ?_, ?_, ?_, ?_, ?_, ?_⟩
      all_goals (first | rfl | (simp only [x_firm_read, seval, -Int.reduceToNat] <;> rfl))
    · rintro ⟨s17a, l14a⟩ t H e ⟨v4a, v14a, t0a, t4a, t15a, t16a, t17a, H4a, H14a⟩ c hh
      simp only [firm_read_L1] at hh
      try simp only [x_firm_read, seval, -Int.reduceToNat, t0a, t4a, t15a, t16a, t17a, H4a, H14a]
      refine tstC_br (fun hb11 => ?_) (fun hb11 => ?_)
      · replace hh := ite_t hb11 hh
        obtain ⟨x12, hx12, hh⟩ := bindS hh
        have bx12 := idx_bd hx12
        have ax12 := idx_enc eTDeed hx12
        have fx12 := idx_fit eTDeed hx12
        simp only [vmz] at ax12 fx12
        skip
        obtain ⟨r13, hr13, hh⟩ := bindS hh
        try simp only [x_firm_read, seval, -Int.reduceToNat, t0a, t4a, t15a, t16a, t17a, H4a, H14a, bx12, ax12, fx12, hr13]
        refine tstC_br (fun hb14 => ?_) (fun hb14 => ?_)
        · replace hh := ite_t hb14 hh
          cases hh
          try simp only [x_firm_read, seval, -Int.reduceToNat, t0a, t4a, t15a, t16a, t17a, H4a, H14a, bx12, ax12, fx12, hr13]
          rw [LK_ret]
          refine ⟨_, rfl, ?_⟩
          refine ⟨rfl, ?_⟩
          try simp only [x_firm_read, seval, -Int.reduceToNat, t0a, t4a, t15a, t16a, t17a, H4a, H14a, bx12, ax12, fx12, hr13]
        · replace hh := ite_f hb14 hh
          try simp only [x_firm_read, seval, -Int.reduceToNat, t0a, t4a, t15a, t16a, t17a, H4a, H14a, bx12, ax12, fx12, hr13]
          obtain ⟨o15, ho15, hh⟩ := bindS hh
          refine tstO_cut 0 (fun s t H e => match s with | s32j3 => ∃ v4j3 : Nat, ∃ v6j3 : Nat, ∃ v14j3 : Nat, t 0 = .sl false false p0.length (encL eTDeed p0) ∧ t 4 = .pm 4 v4j3 14 ∧ t 6 = .ptr 6 v6j3 0 ∧ t 8 = .bool (hasM l14a x12.f_House) ∧ t 15 = .sl false false p0.length (encL eTDeed p0) ∧ t 16 = .int .i64 (p0.length : Int) ∧ t 17 = .int .i64 s17a ∧ t 32 = .bool s32j3 ∧ H 4 = some ⟨v4j3, 39, [.alm 14 v14j3], true, false, false⟩ ∧ H 6 = some ⟨v6j3, 34, [.int .i64 x12.f_Kind, .int .i64 x12.f_Day, .int .i64 x12.f_House, .sl false false x12.f_Others.length (encL (eI .i64) x12.f_Others)], false, false, false⟩ ∧ H 14 = some ⟨v14j3, 39, [.mpc (mapK l14a) (mapV (aAgg eTDeed) l14a)], false, true, true⟩) (fun s => s = o15) ?_ ?_
          · rintro s32j3 t H e ⟨v4j3, v6j3, v14j3, t0j3, t4j3, t6j3, t8j3, t15j3, t16j3, t17j3, t32j3, H4j3, H6j3, H14j3⟩ rfl
            try dsimp only at hh
            try simp only [x_firm_read, seval, -Int.reduceToNat, bx12, ax12, fx12, hr13, t0j3, t4j3, t6j3, t8j3, t15j3, t16j3, t17j3, t32j3, H4j3, H6j3, H14j3]
            refine tstC_br (fun hb16 => ?_) (fun hb16 => ?_)
            · replace hh := ite_t hb16 hh
              cases hh
              try simp only [x_firm_read, seval, -Int.reduceToNat, bx12, ax12, fx12, hr13, t0j3, t4j3, t6j3, t8j3, t15j3, t16j3, t17j3, t32j3, H4j3, H6j3, H14j3]
              rw [LK_ret]
              refine ⟨_, rfl, ?_⟩
              refine ⟨rfl, ?_⟩
              try simp only [x_firm_read, seval, -Int.reduceToNat, bx12, ax12, fx12, hr13, t0j3, t4j3, t6j3, t8j3, t15j3, t16j3, t17j3, t32j3, H4j3, H6j3, H14j3]
            · replace hh := ite_f hb16 hh
              try simp only [x_firm_read, seval, -Int.reduceToNat, bx12, ax12, fx12, hr13, t0j3, t4j3, t6j3, t8j3, t15j3, t16j3, t17j3, t32j3, H4j3, H6j3, H14j3]
              refine tstC_br (fun hb17 => ?_) (fun hb17 => ?_)
              · replace hh := ite_t hb17 hh
                cases hh
                try simp only [x_firm_read, seval, -Int.reduceToNat, bx12, ax12, fx12, hr13, t0j3, t4j3, t6j3, t8j3, t15j3, t16j3, t17j3, t32j3, H4j3, H6j3, H14j3]
                rw [LK_ret]
                refine ⟨_, rfl, ?_⟩
                refine ⟨rfl, ?_⟩
                try simp only [x_firm_read, seval, -Int.reduceToNat, bx12, ax12, fx12, hr13, t0j3, t4j3, t6j3, t8j3, t15j3, t16j3, t17j3, t32j3, H4j3, H6j3, H14j3]
              · replace hh := ite_f hb17 hh
                cases hh
                try simp only [x_firm_read, seval, -Int.reduceToNat, bx12, ax12, fx12, hr13, t0j3, t4j3, t6j3, t8j3, t15j3, t16j3, t17j3, t32j3, H4j3, H6j3, H14j3]
                rw [LK_normal]
                refine ⟨_, rfl, ?_⟩
                refine ⟨v4j3, v14j3, ?_, ?_, ?_, ?_, ?_, ?_, ?_⟩
                all_goals (first | rfl | (simp only [x_firm_read, seval, -Int.reduceToNat, bx12, ax12, fx12, hr13, t0j3, t4j3, t6j3, t8j3, t15j3, t16j3, t17j3, t32j3, H4j3, H6j3, H14j3] <;> rfl))
          ·
            clear hh
            have hh := ho15
            try simp only [x_firm_read, seval, -Int.reduceToNat, t0a, t4a, t15a, t16a, t17a, H4a, H14a, bx12, ax12, fx12, hr13]
            refine tstO_br' (fun hb18 => ?_) (fun hb18 => ?_)
            · replace hh := ite_t hb18 hh
              cases hh
              try simp only [x_firm_read, seval, -Int.reduceToNat, t0a, t4a, t15a, t16a, t17a, H4a, H14a, bx12, ax12, fx12, hr13]
              rw [CK_normal]
              refine ⟨_, rfl, ?_⟩
              refine ⟨v4a, e + 1, v14a, ?_, ?_, ?_, ?_, ?_, ?_, ?_, ?_, ?_, ?_, ?_⟩
              all_goals (first | rfl | (simp only [x_firm_read, seval, -Int.reduceToNat, t0a, t4a, t15a, t16a, t17a, H4a, H14a, bx12, ax12, fx12, hr13] <;> rfl))
            · replace hh := ite_f hb18 hh
              cases hh
              try simp only [x_firm_read, seval, -Int.reduceToNat, t0a, t4a, t15a, t16a, t17a, H4a, H14a, bx12, ax12, fx12, hr13]
              rw [CK_normal]
              refine ⟨_, rfl, ?_⟩
              refine ⟨v4a, e + 1, v14a, ?_, ?_, ?_, ?_, ?_, ?_, ?_, ?_, ?_, ?_, ?_⟩
              all_goals (first | rfl | (simp only [x_firm_read, seval, -Int.reduceToNat, t0a, t4a, t15a, t16a, t17a, H4a, H14a, bx12, ax12, fx12, hr13] <;> rfl))
      · replace hh := ite_f hb11 hh
        cases hh
        try simp only [x_firm_read, seval, -Int.reduceToNat, t0a, t4a, t15a, t16a, t17a, H4a, H14a]
        rw [LK_exit]
        refine ⟨_, rfl, ?_⟩
        refine ⟨rfl, ⟨v4a, v14a, ?_, ?_, ?_, ?_⟩⟩
        all_goals (first | rfl | (simp only [x_firm_read, seval, -Int.reduceToNat, t0a, t4a, t15a, t16a, t17a, H4a, H14a] <;> rfl))
    · rintro x t H e hx
      rcases o10 with l14ax | ra
      ·
        dsimp only at hx hh
        obtain ⟨rfl, ⟨v4ax, v14ax, t0ax, t4ax, H4ax, H14ax⟩⟩ := hx
        try simp only [x_firm_read, seval, -Int.reduceToNat, t0ax, t4ax, H4ax, H14ax]
        obtain ⟨o23, ho23, hh⟩ := bindS hh
        refine runLoop_sim (fun s t H e => match s with | s50d => ∃ v4d : Nat, ∃ v14d : Nat, t 4 = .pm 4 v4d 14 ∧ t 48 = .sl false false p0.length (encL eTDeed p0) ∧ t 49 = .int .i64 (p0.length : Int) ∧ t 50 = .int .i64 s50d ∧ H 4 = some ⟨v4d, 39, [.alm 14 v14d], true, false, false⟩ ∧ H 14 = some ⟨v14d, 39, [.mpc (mapK l14ax) (mapV (aAgg eTDeed) l14ax)], false, true, true⟩) (fun o x t H e => match o with | (.inl _) => x = .exit 3 ∧ ∃ v4dx : Nat, ∃ v14dx : Nat, t 4 = .pm 4 v4dx 14 ∧ H 4 = some ⟨v4dx, 39, [.alm 14 v14dx], true, false, false⟩ ∧ H 14 = some ⟨v14dx, 39, [.mpc (mapK l14ax) (mapV (aAgg eTDeed) l14ax)], false, true, true⟩ | (.inr r) => x = .ret ∧ endM .clean tab none [.tmp 2, .tmp 3] ⟨t, H, e⟩ = some (.clean (.tup [.mpc (mapK r.1) (mapV (aAgg eTDeed) r.1), .int .i64 r.2]), none)) ho23 ?_ ?_ ?_
        ·
          refine ⟨v4ax, v14ax, ?_, ?_, ?_, ?_, ?_, ?_⟩
          all_goals (first | rfl | (simp only [x_firm_read, seval, -Int.reduceToNat, t0ax, t4ax, H4ax, H14ax] <;> rfl))
        · rintro s50d t H e ⟨v4d, v14d, t4d, t48d, t49d, t50d, H4d, H14d⟩ c hh
          simp only [firm_read_L4] at hh
          try simp only [x_firm_read, seval, -Int.reduceToNat, t4d, t48d, t49d, t50d, H4d, H14d]
          refine tstC_br (fun hb24 => ?_) (fun hb24 => ?_)
          · replace hh := ite_t hb24 hh
            obtain ⟨x25, hx25, hh⟩ := bindS hh
            have bx25 := idx_bd hx25
            have ax25 := idx_enc eTDeed hx25
            have fx25 := idx_fit eTDeed hx25
            simp only [vmz] at ax25 fx25
            skip
            obtain ⟨r26, hr26, hh⟩ := bindS hh
            try simp only [x_firm_read, seval, -Int.reduceToNat, t4d, t48d, t49d, t50d, H4d, H14d, bx25, ax25, fx25, hr26]
            refine tstC_br (fun hb27 => ?_) (fun hb27 => ?_)
            · replace hh := ite_t hb27 hh
              cases hh
              try simp only [x_firm_read, seval, -Int.reduceToNat, t4d, t48d, t49d, t50d, H4d, H14d, bx25, ax25, fx25, hr26]
              rw [LK_ret]
              refine ⟨_, rfl, ?_⟩
              refine ⟨rfl, ?_⟩
              try simp only [x_firm_read, seval, -Int.reduceToNat, t4d, t48d, t49d, t50d, H4d, H14d, bx25, ax25, fx25, hr26]
            · replace hh := ite_f hb27 hh
              cases hh
              try simp only [x_firm_read, seval, -Int.reduceToNat, t4d, t48d, t49d, t50d, H4d, H14d, bx25, ax25, fx25, hr26]
              rw [LK_normal]
              refine ⟨_, rfl, ?_⟩
              refine ⟨v4d, v14d, ?_, ?_, ?_, ?_, ?_, ?_⟩
              all_goals (first | rfl | (simp only [x_firm_read, seval, -Int.reduceToNat, t4d, t48d, t49d, t50d, H4d, H14d, bx25, ax25, fx25, hr26] <;> rfl))
          · replace hh := ite_f hb24 hh
            cases hh
            try simp only [x_firm_read, seval, -Int.reduceToNat, t4d, t48d, t49d, t50d, H4d, H14d]
            rw [LK_exit]
            refine ⟨_, rfl, ?_⟩
            refine ⟨rfl, ⟨v4d, v14d, ?_, ?_, ?_⟩⟩
            all_goals (first | rfl | (simp only [x_firm_read, seval, -Int.reduceToNat, t4d, t48d, t49d, t50d, H4d, H14d] <;> rfl))
        · rintro x t H e hx
          rcases o23 with _ | rd
          ·
            dsimp only at hx hh
            obtain ⟨rfl, ⟨v4dx, v14dx, t4dx, H4dx, H14dx⟩⟩ := hx
            cases hh
            try simp only [x_firm_read, seval, -Int.reduceToNat, t4dx, H4dx, H14dx]
          ·
            dsimp only at hx hh
            obtain ⟨rfl, hE⟩ := hx
            cases hh
            try simp only [runW_pass_ret, runW_pass_exit, runW_blk_ret, runW_nil, endW_ret]
            exact hE
      ·
        dsimp only at hx hh
        obtain ⟨rfl, hE⟩ := hx
        cases hh
        try simp only [runW_pass_ret, runW_pass_exit, runW_blk_ret, runW_nil, endW_ret]
        exact hE

theorem ok_firm_read : COk Try.prog 19 G_firm_read := COk.of (mode := .clean) tok ge_firm_read mixed Try.func19 (by kernel_rfl) ⟨by kernel_rfl, by kernel_rfl⟩ (fun _ => Nat.le_of_ble_eq_true (by kernel_rfl)) (fun x r h => m_firm_read x r h)

noncomputable def G_math_bits_Len32 := mkG (as1 (aI .u32)) (fun x : Int => math_bits_Len32 x) (fun r : Int => .clean (.int .i64 r))

theorem q_math_bits_Len32 (p0 : Int) : G_math_bits_Len32 none [.int .u32 p0] = (math_bits_Len32 p0).map fun r : Int => (.clean (.int .i64 r), none) := mkG_eq _ _ _ (p0)

theorem m_math_bits_Len32 (p0 : Int) (r : Int) (hh : math_bits_Len32 p0 = some r) : vfunc .clean tab noEnv FU Try.f42 none [.int .u32 p0] = some (.clean (.int .i64 r), none) := by
  refine vfunc_of rfl Try.ntmps42 Try.results42 ?_
  unfold math_bits_Len32 at hh
  try simp only [w, seval, -Int.reduceToNat]
  obtain ⟨o1, ho1, hh⟩ := bindS hh
  refine tstC_cut 0 (fun s t H e => match s with | (s0j1, s2j1) => t 0 = .int .u32 s0j1 ∧ t 2 = .int .i64 s2j1) (fun s => s = o1) ?_ ?_
  · rintro ⟨s0j1, s2j1⟩ t H e ⟨t0j1, t2j1⟩ rfl
    try dsimp only at hh
    try simp only [w, seval, -Int.reduceToNat, t0j1, t2j1]
    refine tstC_br (fun hb2 => ?_) (fun hb2 => ?_)
    · replace hh := ite_t hb2 hh
      obtain ⟨x3, hx3, hh⟩ := bindS hh
      obtain ⟨q4a, q4b⟩ := shrI_ok hx3
      try simp only [w, seval, -Int.reduceToNat, t0j1, t2j1, q4a, q4b]
      obtain ⟨x5, hx5, hh⟩ := bindS hh
      obtain ⟨q6a, q6b, q6c, q6d⟩ := sidx_ok hx5
      try simp only [w, seval, -Int.reduceToNat, t0j1, t2j1, q4a, q4b, q6a, q6d]
      erw [q6c]
      cases hh
      try simp only [w, seval, -Int.reduceToNat, t0j1, t2j1, q4a, q4b, q6a, q6d]
    · replace hh := ite_f hb2 hh
      try simp only [w, seval, -Int.reduceToNat, t0j1, t2j1]
      obtain ⟨x7, hx7, hh⟩ := bindS hh
      obtain ⟨q8a, q8b, q8c, q8d⟩ := sidx_ok hx7
      try simp only [w, seval, -Int.reduceToNat, t0j1, t2j1, q8a, q8d]
      erw [q8c]
      cases hh
      try simp only [w, seval, -Int.reduceToNat, t0j1, t2j1, q8a, q8d]
  ·
    clear hh
    have hh := ho1
    try simp only [w, seval, -Int.reduceToNat]
    refine tstC_br (fun hb9 => ?_) (fun hb9 => ?_)
    · replace hh := ite_t hb9 hh
      obtain ⟨x10, hx10, hh⟩ := bindS hh
      obtain ⟨q11a, q11b⟩ := shrI_ok hx10
      cases hh
      try simp only [w, seval, -Int.reduceToNat, q11a, q11b]
      rw [CK_normal]
      refine ⟨_, rfl, ?_⟩
      refine ⟨?_, ?_⟩
      all_goals (first | rfl | (simp only [w, seval, -Int.reduceToNat, q11a, q11b] <;> rfl))
    · replace hh := ite_f hb9 hh
      cases hh
      try simp only [w, seval, -Int.reduceToNat]
      rw [CK_normal]
      refine ⟨_, rfl, ?_⟩
      refine ⟨?_, ?_⟩
      all_goals (first | rfl | (simp only [w, seval, -Int.reduceToNat] <;> rfl))

theorem ok_math_bits_Len32 : COk Try.prog 42 G_math_bits_Len32 := COk.of (mode := .clean) tok GOk.none mixed Try.func42 (by kernel_rfl) ⟨by kernel_rfl, by kernel_rfl⟩ (fun _ => Nat.le_of_ble_eq_true (by kernel_rfl)) (fun x r h => m_math_bits_Len32 x r h)

noncomputable def G_math_bits_Len64 := mkG (as1 (aI .u64)) (fun x : Int => math_bits_Len64 x) (fun r : Int => .clean (.int .i64 r))

theorem q_math_bits_Len64 (p0 : Int) : G_math_bits_Len64 none [.int .u64 p0] = (math_bits_Len64 p0).map fun r : Int => (.clean (.int .i64 r), none) := mkG_eq _ _ _ (p0)

theorem m_math_bits_Len64 (p0 : Int) (r : Int) (hh : math_bits_Len64 p0 = some r) : vfunc .clean tab noEnv FU Try.f43 none [.int .u64 p0] = some (.clean (.int .i64 r), none) := by
  refine vfunc_of rfl Try.ntmps43 Try.results43 ?_
  unfold math_bits_Len64 at hh
  try simp only [w, seval, -Int.reduceToNat]
  obtain ⟨o1, ho1, hh⟩ := bindS hh
  refine tstC_cut 0 (fun s t H e => match s with | (s0j1, s2j1) => t 0 = .int .u64 s0j1 ∧ t 2 = .int .i64 s2j1) (fun s => s = o1) ?_ ?_
  · rintro ⟨s0j1, s2j1⟩ t H e ⟨t0j1, t2j1⟩ rfl
    try dsimp only at hh
    try simp only [w, seval, -Int.reduceToNat, t0j1, t2j1]
    obtain ⟨o2, ho2, hh⟩ := bindS hh
    refine tstC_cut 0 (fun s t H e => match s with | (s0j2, s2j2) => t 0 = .int .u64 s0j2 ∧ t 2 = .int .i64 s2j2) (fun s => s = o2) ?_ ?_
    · rintro ⟨s0j2, s2j2⟩ t H e ⟨t0j2, t2j2⟩ rfl
      try dsimp only at hh
      try simp only [w, seval, -Int.reduceToNat, t0j2, t2j2]
      refine tstC_br (fun hb3 => ?_) (fun hb3 => ?_)
      · replace hh := ite_t hb3 hh
        obtain ⟨x4, hx4, hh⟩ := bindS hh
        obtain ⟨q5a, q5b⟩ := shrI_ok hx4
        try simp only [w, seval, -Int.reduceToNat, t0j2, t2j2, q5a, q5b]
        obtain ⟨x6, hx6, hh⟩ := bindS hh
        obtain ⟨q7a, q7b, q7c, q7d⟩ := sidx_ok hx6
        try simp only [w, seval, -Int.reduceToNat, t0j2, t2j2, q5a, q5b, q7a, q7d]
        erw [q7c]
        cases hh
        try simp only [w, seval, -Int.reduceToNat, t0j2, t2j2, q5a, q5b, q7a, q7d]
      · replace hh := ite_f hb3 hh
        try simp only [w, seval, -Int.reduceToNat, t0j2, t2j2]
        obtain ⟨x8, hx8, hh⟩ := bindS hh
        obtain ⟨q9a, q9b, q9c, q9d⟩ := sidx_ok hx8
        try simp only [w, seval, -Int.reduceToNat, t0j2, t2j2, q9a, q9d]
        erw [q9c]
        cases hh
        try simp only [w, seval, -Int.reduceToNat, t0j2, t2j2, q9a, q9d]
    ·
      clear hh
      have hh := ho2
      try simp only [w, seval, -Int.reduceToNat, t0j1, t2j1]
      refine tstC_br (fun hb10 => ?_) (fun hb10 => ?_)
      · replace hh := ite_t hb10 hh
        obtain ⟨x11, hx11, hh⟩ := bindS hh
        obtain ⟨q12a, q12b⟩ := shrI_ok hx11
        cases hh
        try simp only [w, seval, -Int.reduceToNat, t0j1, t2j1, q12a, q12b]
        rw [CK_normal]
        refine ⟨_, rfl, ?_⟩
        refine ⟨?_, ?_⟩
        all_goals (first | rfl | (simp only [w, seval, -Int.reduceToNat, t0j1, t2j1, q12a, q12b] <;> rfl))
      · replace hh := ite_f hb10 hh
        cases hh
        try simp only [w, seval, -Int.reduceToNat, t0j1, t2j1]
        rw [CK_normal]
        refine ⟨_, rfl, ?_⟩
        refine ⟨?_, ?_⟩
        all_goals (first | rfl | (simp only [w, seval, -Int.reduceToNat, t0j1, t2j1] <;> rfl))
  ·
    clear hh
    have hh := ho1
    try simp only [w, seval, -Int.reduceToNat]
    refine tstC_br (fun hb13 => ?_) (fun hb13 => ?_)
    · replace hh := ite_t hb13 hh
      obtain ⟨x14, hx14, hh⟩ := bindS hh
      obtain ⟨q15a, q15b⟩ := shrI_ok hx14
      cases hh
      try simp only [w, seval, -Int.reduceToNat, q15a, q15b]
      rw [CK_normal]
      refine ⟨_, rfl, ?_⟩
      refine ⟨?_, ?_⟩
      all_goals (first | rfl | (simp only [w, seval, -Int.reduceToNat, q15a, q15b] <;> rfl))
    · replace hh := ite_f hb13 hh
      cases hh
      try simp only [w, seval, -Int.reduceToNat]
      rw [CK_normal]
      refine ⟨_, rfl, ?_⟩
      refine ⟨?_, ?_⟩
      all_goals (first | rfl | (simp only [w, seval, -Int.reduceToNat] <;> rfl))

theorem ok_math_bits_Len64 : COk Try.prog 43 G_math_bits_Len64 := COk.of (mode := .clean) tok GOk.none mixed Try.func43 (by kernel_rfl) ⟨by kernel_rfl, by kernel_rfl⟩ (fun _ => Nat.le_of_ble_eq_true (by kernel_rfl)) (fun x r h => m_math_bits_Len64 x r h)

noncomputable def G_math_bits_Len := mkG (as1 (aI .u64)) (fun x : Int => math_bits_Len x) (fun r : Int => .clean (.int .i64 r))

theorem q_math_bits_Len (p0 : Int) : G_math_bits_Len none [.int .u64 p0] = (math_bits_Len p0).map fun r : Int => (.clean (.int .i64 r), none) := mkG_eq _ _ _ (p0)

noncomputable def g_math_bits_Len : Env := (Am.ext noEnv 43 false G_math_bits_Len64)

theorem ge_math_bits_Len : GOk Try.prog g_math_bits_Len := (GOk.none.add ok_math_bits_Len64 false)

theorem gg_math_bits_Len : g_math_bits_Len = (Am.ext noEnv 43 false G_math_bits_Len64) := Eq.trans rfl rfl

theorem x_math_bits_Len : type_of% (And.intro @w <| And.intro @q_math_bits_Len64 <| @gg_math_bits_Len) := And.intro @w <| And.intro @q_math_bits_Len64 <| @gg_math_bits_Len

theorem m_math_bits_Len (p0 : Int) (r : Int) (hh : math_bits_Len p0 = some r) : vfunc .clean tab g_math_bits_Len FU Try.f30 none [.int .u64 p0] = some (.clean (.int .i64 r), none) := by
  refine vfunc_of rfl Try.ntmps30 Try.results30 ?_
  unfold math_bits_Len at hh
  obtain ⟨r1, hr1, hh⟩ := bindS hh
  cases hh
  try simp only [x_math_bits_Len, seval, -Int.reduceToNat, hr1]

theorem ok_math_bits_Len : COk Try.prog 30 G_math_bits_Len := COk.of (mode := .clean) tok ge_math_bits_Len mixed Try.func30 (by kernel_rfl) ⟨by kernel_rfl, by kernel_rfl⟩ (fun _ => Nat.le_of_ble_eq_true (by kernel_rfl)) (fun x r h => m_math_bits_Len x r h)

noncomputable def G_cmp_isNaN := mkG (as1 (aI .i64)) (fun x : Int => cmp_isNaN x) (fun r : Bool => .clean (.bool r))

theorem q_cmp_isNaN (p0 : Int) : G_cmp_isNaN none [.int .i64 p0] = (cmp_isNaN p0).map fun r : Bool => (.clean (.bool r), none) := mkG_eq _ _ _ (p0)

theorem m_cmp_isNaN (p0 : Int) (r : Bool) (hh : cmp_isNaN p0 = some r) : vfunc .clean tab noEnv FU Try.f49 none [.int .i64 p0] = some (.clean (.bool r), none) := by
  refine vfunc_of rfl Try.ntmps49 Try.results49 ?_
  unfold cmp_isNaN at hh
  cases hh
  try simp only [w, seval, -Int.reduceToNat]

theorem ok_cmp_isNaN : COk Try.prog 49 G_cmp_isNaN := COk.of (mode := .clean) tok GOk.none mixed Try.func49 (by kernel_rfl) ⟨by kernel_rfl, by kernel_rfl⟩ (fun _ => Nat.le_of_ble_eq_true (by kernel_rfl)) (fun x r h => m_cmp_isNaN x r h)

noncomputable def G_cmp_Less := mkG (asC (aI .i64) (as1 (aI .i64))) (fun x : Int × Int => cmp_Less x.1 x.2) (fun r : Bool => .clean (.bool r))

theorem q_cmp_Less (p0 : Int) (p1 : Int) : G_cmp_Less none [.int .i64 p0, .int .i64 p1] = (cmp_Less p0 p1).map fun r : Bool => (.clean (.bool r), none) := mkG_eq _ _ _ (p0, p1)

noncomputable def g_cmp_Less : Env := (Am.ext noEnv 49 false G_cmp_isNaN)

theorem ge_cmp_Less : GOk Try.prog g_cmp_Less := (GOk.none.add ok_cmp_isNaN false)

theorem gg_cmp_Less : g_cmp_Less = (Am.ext noEnv 49 false G_cmp_isNaN) := Eq.trans rfl rfl

theorem x_cmp_Less : type_of% (And.intro @w <| And.intro @q_cmp_isNaN <| @gg_cmp_Less) := And.intro @w <| And.intro @q_cmp_isNaN <| @gg_cmp_Less

theorem m_cmp_Less (p0 : Int) (p1 : Int) (r : Bool) (hh : cmp_Less p0 p1 = some r) : vfunc .clean tab g_cmp_Less FU Try.f39 none [.int .i64 p0, .int .i64 p1] = some (.clean (.bool r), none) := by
  refine vfunc_of rfl Try.ntmps39 Try.results39 ?_
  unfold cmp_Less at hh
  obtain ⟨r1, hr1, hh⟩ := bindS hh
  try simp only [x_cmp_Less, seval, -Int.reduceToNat, hr1]
  refine tstO_br (fun hb2 => ?_) (fun hb2 => ?_)
  · replace hh := ite_t hb2 hh
    obtain ⟨r3, hr3, hh⟩ := bindS hh
    try simp only [x_cmp_Less, seval, -Int.reduceToNat, hr1, hr3]
    refine tstO_br' (fun hb4 => ?_) (fun hb4 => ?_)
    · replace hh := ite_t hb4 hh
      cases hh
      try simp only [x_cmp_Less, seval, -Int.reduceToNat, hr1, hr3]
    · replace hh := ite_f hb4 hh
      cases hh
      try simp only [x_cmp_Less, seval, -Int.reduceToNat, hr1, hr3]
  · replace hh := ite_f hb2 hh
    cases hh
    try simp only [x_cmp_Less, seval, -Int.reduceToNat, hr1]

theorem ok_cmp_Less : COk Try.prog 39 G_cmp_Less := COk.of (mode := .clean) tok ge_cmp_Less mixed Try.func39 (by kernel_rfl) ⟨by kernel_rfl, by kernel_rfl⟩ (fun _ => Nat.le_of_ble_eq_true (by kernel_rfl)) (fun x r h => m_cmp_Less x.1 x.2 r h)

noncomputable def G_slices_insertionSortOrdered_w := mkW 3 (eI .i64) (asC (aI .i64) (as1 (aI .i64))) (fun (l : (List Int)) (x : Int × Int) => slices_insertionSortOrdered_w l x.1 x.2) (fun r : Unit => .clean (.tup []))

theorem q_slices_insertionSortOrdered_w (pre post : List D) (p0 : (List Int)) (p1 : Int) (p2 : Int) : G_slices_insertionSortOrdered_w (some (.buf 0 0 1 pre.length p0.length, ⟨0, 3, pre ++ (encL (eI .i64) p0 ++ post), false, true, false⟩)) [.int .i64 p1, .int .i64 p2] = (slices_insertionSortOrdered_w p0 p1 p2).map fun r => (.clean (.tup []), some ⟨0, 3, pre ++ (encL (eI .i64) r.1 ++ post), false, true, false⟩) := mkW_eq _ _ _ _ _ pre post p0 (p1, p2)

noncomputable def g_slices_insertionSortOrdered_w : Env := (Am.ext noEnv 39 false G_cmp_Less)

theorem ge_slices_insertionSortOrdered_w : GOk Try.prog g_slices_insertionSortOrdered_w := (GOk.none.add ok_cmp_Less false)

theorem gg_slices_insertionSortOrdered_w : g_slices_insertionSortOrdered_w = (Am.ext noEnv 39 false G_cmp_Less) := Eq.trans rfl rfl

theorem x_slices_insertionSortOrdered_w : type_of% (And.intro @w <| And.intro @q_cmp_Less <| @gg_slices_insertionSortOrdered_w) := And.intro @w <| And.intro @q_cmp_Less <| @gg_slices_insertionSortOrdered_w

theorem m_slices_insertionSortOrdered_w (pre post : List D) (p0 : (List Int)) (p1 : Int) (p2 : Int) (r : (List Int) × (Unit)) (hh : slices_insertionSortOrdered_w p0 p1 p2 = some r) : vfunc .clean tab g_slices_insertionSortOrdered_w FU Try.f33 (some (.buf 0 0 1 pre.length p0.length, ⟨0, 3, pre ++ (encL (eI .i64) p0 ++ post), false, true, false⟩)) [.int .i64 p1, .int .i64 p2] = some (.clean (.tup []), some ⟨0, 3, pre ++ (encL (eI .i64) r.1 ++ post), false, true, false⟩) := by
  refine vfunc_lent rfl Try.ntmps33 Try.results33 ?_
  unfold slices_insertionSortOrdered_w at hh
  obtain ⟨rw, hrw, hh⟩ := bindS hh
  split at hh
  rotate_left
  · cases hh
  cases hh
  rename_i hlen
  replace hh := hrw
  unfold slices_insertionSortOrdered_w_B at hh
  try simp only [x_slices_insertionSortOrdered_w, seval, -Int.reduceToNat]
  obtain ⟨o25, ho25, hh⟩ := bindS hh
  refine runLoop_sim (fun s t H e => match s with | (s6a, l0a) => t 0 = .buf 0 0 1 pre.length (l0a).length ∧ t 1 = .int .i64 p1 ∧ t 2 = .int .i64 p2 ∧ t 6 = .int .i64 s6a ∧ H 0 = some ⟨0, 3, pre ++ (encL (eI .i64) l0a ++ post), false, true, false⟩) (fun o x t H e => match o with | l0ax => x = .exit 0 ∧ t 0 = .buf 0 0 1 pre.length (l0ax).length ∧ H 0 = some ⟨0, 3, pre ++ (encL (eI .i64) l0ax ++ post), false, true, false⟩) ho25 ?_ ?_ ?_
  ·
    refine ⟨?_, ?_, ?_, ?_, ?_⟩
    all_goals (first | rfl | (simp only [x_slices_insertionSortOrdered_w, seval, -Int.reduceToNat] <;> rfl))
  · rintro ⟨s6a, l0a⟩ t H e ⟨t0a, t1a, t2a, t6a, H0a⟩ c hh
    simp only [slices_insertionSortOrdered_w_L1] at hh
    try simp only [x_slices_insertionSortOrdered_w, seval, -Int.reduceToNat, t0a, t1a, t2a, t6a, H0a]
    refine tstC_br (fun hb26 => ?_) (fun hb26 => ?_)
    · replace hh := ite_t hb26 hh
      try simp only [x_slices_insertionSortOrdered_w, seval, -Int.reduceToNat, t0a, t1a, t2a, t6a, H0a]
      obtain ⟨o38, ho38, hh⟩ := bindS hh
      refine runLoop_sim (fun s t H e => match s with | (s7e, l0e) => t 0 = .buf 0 0 1 pre.length (l0e).length ∧ t 1 = .int .i64 p1 ∧ t 2 = .int .i64 p2 ∧ t 6 = .int .i64 s6a ∧ t 7 = .int .i64 s7e ∧ H 0 = some ⟨0, 3, pre ++ (encL (eI .i64) l0e ++ post), false, true, false⟩) (fun o x t H e => match o with | l0ex => x = .exit 2 ∧ t 0 = .buf 0 0 1 pre.length (l0ex).length ∧ t 1 = .int .i64 p1 ∧ t 2 = .int .i64 p2 ∧ t 6 = .int .i64 s6a ∧ H 0 = some ⟨0, 3, pre ++ (encL (eI .i64) l0ex ++ post), false, true, false⟩) ho38 ?_ ?_ ?_
      ·
        refine ⟨?_, ?_, ?_, ?_, ?_, ?_⟩
        all_goals (first | rfl | (simp only [x_slices_insertionSortOrdered_w, seval, -Int.reduceToNat, t0a, t1a, t2a, t6a, H0a] <;> rfl))
      · rintro ⟨s7e, l0e⟩ t H e ⟨t0e, t1e, t2e, t6e, t7e, H0e⟩ c hh
        simp only [slices_insertionSortOrdered_w_L5] at hh
        try simp only [x_slices_insertionSortOrdered_w, seval, -Int.reduceToNat, t0e, t1e, t2e, t6e, t7e, H0e]
        obtain ⟨o39, ho39, hh⟩ := bindS hh
        refine tstP_cut 0 (fun s t H e => match s with | s30j7 => t 0 = .buf 0 0 1 pre.length (l0e).length ∧ t 1 = .int .i64 p1 ∧ t 2 = .int .i64 p2 ∧ t 6 = .int .i64 s6a ∧ t 7 = .int .i64 s7e ∧ t 30 = .bool s30j7 ∧ H 0 = some ⟨0, 3, pre ++ (encL (eI .i64) l0e ++ post), false, true, false⟩) (fun s => s = o39) ?_ ?_
        · rintro s30j7 t H e ⟨t0j7, t1j7, t2j7, t6j7, t7j7, t30j7, H0j7⟩ rfl
          try dsimp only at hh
          try simp only [x_slices_insertionSortOrdered_w, seval, -Int.reduceToNat, t0j7, t1j7, t2j7, t6j7, t7j7, t30j7, H0j7]
          refine tstC_br (fun hb40 => ?_) (fun hb40 => ?_)
          · replace hh := ite_t hb40 hh
            obtain ⟨x41, hx41, hh⟩ := bindS hh
            have bx41 := idx_bd hx41
            have ax41 := idxW_enc (pre := pre) (post := post) (eI .i64) hx41
            have fx41 := idxW_fit (pre := pre) (post := post) (eI .i64) hx41
            simp only [vmz] at ax41 fx41
            skip
            obtain ⟨x42, hx42, hh⟩ := bindS hh
            have bx42 := idx_bd hx42
            have ax42 := idxW_enc (pre := pre) (post := post) (eI .i64) hx42
            have fx42 := idxW_fit (pre := pre) (post := post) (eI .i64) hx42
            simp only [vmz] at ax42 fx42
            skip
            have bx42 := idx_bd hx42
            have ax42 := idxW_enc (pre := pre) (post := post) (eI .i64) hx42
            have fx42 := idxW_fit (pre := pre) (post := post) (eI .i64) hx42
            simp only [vmz] at ax42 fx42
            skip
            have p43 := putW_enc (pre := pre) (post := post) (eI .i64) (y' := x41) hx42
            simp only [vmz] at p43
            have up43 := p43
            simp only [putCells, List.length_cons, List.length_nil, Nat.zero_add, Nat.reduceAdd] at up43
            obtain ⟨x44, hx44, hh⟩ := bindS hh
            have bx44 := idx_bd hx44
            have ax44 := idxW_enc (pre := pre) (post := post) (eI .i64) hx44
            have fx44 := idxW_fit (pre := pre) (post := post) (eI .i64) hx44
            simp only [vmz] at ax44 fx44
            simp only [List.length_set] at bx44 fx44
            have p45 := putW_enc (pre := pre) (post := post) (eI .i64) (y' := x42) hx44
            simp only [vmz] at p45
            have up45 := p45
            simp only [putCells, List.length_cons, List.length_nil, Nat.zero_add, Nat.reduceAdd] at up45
            try simp only [x_slices_insertionSortOrdered_w, seval, -Int.reduceToNat, t0j7, t1j7, t2j7, t6j7, t7j7, t30j7, H0j7, bx41, ax41, fx41, bx42, ax42, fx42, bx42, ax42, fx42, p43, up43, bx44, ax44, fx44, p45, up45]
            refine dyn_ok (by kernel_rfl) ?_
            cases hh
            try simp only [x_slices_insertionSortOrdered_w, seval, -Int.reduceToNat, t0j7, t1j7, t2j7, t6j7, t7j7, t30j7, H0j7, bx41, ax41, fx41, bx42, ax42, fx42, bx42, ax42, fx42, p43, up43, bx44, ax44, fx44, p45, up45]
            rw [LK_normal]
            refine ⟨_, rfl, ?_⟩
            refine ⟨?_, ?_, ?_, ?_, ?_, ?_⟩
            all_goals (first | rfl | (simp only [x_slices_insertionSortOrdered_w, seval, -Int.reduceToNat, t0j7, t1j7, t2j7, t6j7, t7j7, t30j7, H0j7, bx41, ax41, fx41, bx42, ax42, fx42, bx42, ax42, fx42, p43, up43, bx44, ax44, fx44, p45, up45] <;> rfl))
          · replace hh := ite_f hb40 hh
            cases hh
            try simp only [x_slices_insertionSortOrdered_w, seval, -Int.reduceToNat, t0j7, t1j7, t2j7, t6j7, t7j7, t30j7, H0j7]
            rw [LK_exit]
            refine ⟨_, rfl, ?_⟩
            refine ⟨rfl, ⟨?_, ?_, ?_, ?_, ?_⟩⟩
            all_goals (first | rfl | (simp only [x_slices_insertionSortOrdered_w, seval, -Int.reduceToNat, t0j7, t1j7, t2j7, t6j7, t7j7, t30j7, H0j7] <;> rfl))
        ·
          clear hh
          have hh := ho39
          try simp only [x_slices_insertionSortOrdered_w, seval, -Int.reduceToNat, t0e, t1e, t2e, t6e, t7e, H0e]
          refine tstP_br (fun hb46 => ?_) (fun hb46 => ?_)
          · replace hh := ite_t hb46 hh
            obtain ⟨x47, hx47, hh⟩ := bindS hh
            have bx47 := idx_bd hx47
            have ax47 := idxW_enc (pre := pre) (post := post) (eI .i64) hx47
            have fx47 := idxW_fit (pre := pre) (post := post) (eI .i64) hx47
            simp only [vmz] at ax47 fx47
            skip
            obtain ⟨x48, hx48, hh⟩ := bindS hh
            have bx48 := idx_bd hx48
            have ax48 := idxW_enc (pre := pre) (post := post) (eI .i64) hx48
            have fx48 := idxW_fit (pre := pre) (post := post) (eI .i64) hx48
            simp only [vmz] at ax48 fx48
            skip
            obtain ⟨r49, hr49, hh⟩ := bindS hh
            try simp only [x_slices_insertionSortOrdered_w, seval, -Int.reduceToNat, t0e, t1e, t2e, t6e, t7e, H0e, bx47, ax47, fx47, bx48, ax48, fx48, hr49]
            refine dyn_ok (by kernel_rfl) ?_
            cases hh
            try simp only [x_slices_insertionSortOrdered_w, seval, -Int.reduceToNat, t0e, t1e, t2e, t6e, t7e, H0e, bx47, ax47, fx47, bx48, ax48, fx48, hr49]
            rw [CK_normal]
            refine ⟨_, rfl, ?_⟩
            refine ⟨?_, ?_, ?_, ?_, ?_, ?_, ?_⟩
            all_goals (first | rfl | (simp only [x_slices_insertionSortOrdered_w, seval, -Int.reduceToNat, t0e, t1e, t2e, t6e, t7e, H0e, bx47, ax47, fx47, bx48, ax48, fx48, hr49] <;> rfl))
          · replace hh := ite_f hb46 hh
            try simp only [x_slices_insertionSortOrdered_w, seval, -Int.reduceToNat, t0e, t1e, t2e, t6e, t7e, H0e]
            refine dyn_ok (by kernel_rfl) ?_
            cases hh
            try simp only [x_slices_insertionSortOrdered_w, seval, -Int.reduceToNat, t0e, t1e, t2e, t6e, t7e, H0e]
            rw [CK_normal]
            refine ⟨_, rfl, ?_⟩
            refine ⟨?_, ?_, ?_, ?_, ?_, ?_, ?_⟩
            all_goals (first | rfl | (simp only [x_slices_insertionSortOrdered_w, seval, -Int.reduceToNat, t0e, t1e, t2e, t6e, t7e, H0e] <;> rfl))
      · rintro x t H e hx
        obtain ⟨l0ex, rfl⟩ : ∃ z, z = o38 := ⟨_, rfl⟩
        dsimp only at hx hh
        obtain ⟨rfl, ⟨t0ex, t1ex, t2ex, t6ex, H0ex⟩⟩ := hx
        cases hh
        try simp only [x_slices_insertionSortOrdered_w, seval, -Int.reduceToNat, t0ex, t1ex, t2ex, t6ex, H0ex]
        rw [LK_normal]
        refine ⟨_, rfl, ?_⟩
        refine ⟨?_, ?_, ?_, ?_, ?_⟩
        all_goals (first | rfl | (simp only [x_slices_insertionSortOrdered_w, seval, -Int.reduceToNat, t0ex, t1ex, t2ex, t6ex, H0ex] <;> rfl))
    · replace hh := ite_f hb26 hh
      cases hh
      try simp only [x_slices_insertionSortOrdered_w, seval, -Int.reduceToNat, t0a, t1a, t2a, t6a, H0a]
      rw [LK_exit]
      refine ⟨_, rfl, ?_⟩
      refine ⟨rfl, ⟨?_, ?_⟩⟩
      all_goals (first | rfl | (simp only [x_slices_insertionSortOrdered_w, seval, -Int.reduceToNat, t0a, t1a, t2a, t6a, H0a] <;> rfl))
  · rintro x t H e hx
    obtain ⟨l0ax, rfl⟩ : ∃ z, z = o25 := ⟨_, rfl⟩
    dsimp only at hx hh
    obtain ⟨rfl, ⟨t0ax, H0ax⟩⟩ := hx
    cases hh
    try simp only [x_slices_insertionSortOrdered_w, seval, -Int.reduceToNat, t0ax, H0ax]

theorem ok_slices_insertionSortOrdered_w : COk Try.prog 33 G_slices_insertionSortOrdered_w := COk.lentW (mode := .clean) tok ge_slices_insertionSortOrdered_w mixed Try.func33 (by kernel_rfl) ⟨by kernel_rfl, by kernel_rfl⟩ (fun _ => Nat.le_of_ble_eq_true (by kernel_rfl)) (fun pre post l x l' r h => m_slices_insertionSortOrdered_w pre post l x.1 x.2 (l', r) h)

noncomputable def G_slices_pdqsortOrdered_w := mkW 3 (eI .i64) (asC (aI .i64) (asC (aI .i64) (as1 (aI .i64)))) (fun (l : (List Int)) (x : Int × Int × Int) => slices_pdqsortOrdered_w l x.1 x.2.1 x.2.2) (fun r : Unit => .clean (.tup []))

theorem q_slices_pdqsortOrdered_w (pre post : List D) (p0 : (List Int)) (p1 : Int) (p2 : Int) (p3 : Int) : G_slices_pdqsortOrdered_w (some (.buf 0 0 1 pre.length p0.length, ⟨0, 3, pre ++ (encL (eI .i64) p0 ++ post), false, true, false⟩)) [.int .i64 p1, .int .i64 p2, .int .i64 p3] = (slices_pdqsortOrdered_w p0 p1 p2 p3).map fun r => (.clean (.tup []), some ⟨0, 3, pre ++ (encL (eI .i64) r.1 ++ post), false, true, false⟩) := mkW_eq _ _ _ _ _ pre post p0 (p1, p2, p3)

noncomputable def g_slices_pdqsortOrdered_w : Env := (Am.ext noEnv 33 true G_slices_insertionSortOrdered_w)

theorem ge_slices_pdqsortOrdered_w : GOk Try.prog g_slices_pdqsortOrdered_w := (GOk.none.add ok_slices_insertionSortOrdered_w true)

theorem gg_slices_pdqsortOrdered_w : g_slices_pdqsortOrdered_w = (Am.ext noEnv 33 true G_slices_insertionSortOrdered_w) := Eq.trans rfl rfl

theorem x_slices_pdqsortOrdered_w : type_of% (And.intro @w <| @gg_slices_pdqsortOrdered_w) := And.intro @w <| @gg_slices_pdqsortOrdered_w

theorem m_slices_pdqsortOrdered_w (pre post : List D) (p0 : (List Int)) (p1 : Int) (p2 : Int) (p3 : Int) (r : (List Int) × (Unit)) (hh : slices_pdqsortOrdered_w p0 p1 p2 p3 = some r) : vfunc .clean tab g_slices_pdqsortOrdered_w FU Try.f29 (some (.buf 0 0 1 pre.length p0.length, ⟨0, 3, pre ++ (encL (eI .i64) p0 ++ post), false, true, false⟩)) [.int .i64 p1, .int .i64 p2, .int .i64 p3] = some (.clean (.tup []), some ⟨0, 3, pre ++ (encL (eI .i64) r.1 ++ post), false, true, false⟩) := by
  refine vfunc_lent rfl Try.ntmps29 Try.results29 ?_
  unfold slices_pdqsortOrdered_w at hh
  obtain ⟨rw, hrw, hh⟩ := bindS hh
  split at hh
  rotate_left
  · cases hh
  cases hh
  rename_i hlen
  replace hh := hrw
  unfold slices_pdqsortOrdered_w_B at hh
  try simp only [x_slices_pdqsortOrdered_w, seval, -Int.reduceToNat]
  obtain ⟨o6, ho6, hh⟩ := bindS hh
  refine runLoop_sim (fun s t H e => match s with | _ => t 0 = .buf 0 0 1 pre.length (p0).length ∧ t 1 = .int .i64 p1 ∧ t 2 = .int .i64 p2 ∧ t 3 = .int .i64 p3 ∧ t 8 = .bool true ∧ t 9 = .bool true ∧ H 0 = some ⟨0, 3, pre ++ (encL (eI .i64) p0 ++ post), false, true, false⟩) (fun o x t H e => match o with | r => x = .ret ∧ endM .clean tab (some (.buf 0 0 1 pre.length p0.length, ⟨0, 3, pre ++ (encL (eI .i64) p0 ++ post), false, true, false⟩)) [] ⟨t, H, e⟩ = some (.clean (.tup []), some ⟨0, 3, pre ++ (encL (eI .i64) r.1 ++ post), false, true, false⟩)) ho6 ?_ ?_ ?_
  ·
    refine ⟨?_, ?_, ?_, ?_, ?_, ?_, ?_⟩
    all_goals (first | rfl | (simp only [x_slices_pdqsortOrdered_w, seval, -Int.reduceToNat] <;> rfl))
  · rintro _ t H e ⟨t0a, t1a, t2a, t3a, t8a, t9a, H0a⟩ c hh
    simp only [slices_pdqsortOrdered_w_L1] at hh
    try simp only [x_slices_pdqsortOrdered_w, seval, -Int.reduceToNat, t0a, t1a, t2a, t3a, t8a, t9a, H0a]
    refine tstC_br (fun hb7 => ?_) (fun hb7 => ?_)
    · replace hh := ite_t hb7 hh
      have i8 := q_slices_insertionSortOrdered_w pre post p0 p1 p2
      try simp only [List.nil_append, List.append_nil, List.length_nil, encL_cons, List.length_set, vmz] at i8
      obtain ⟨r9, hr9, hh⟩ := bindS hh
      have q10l := len_slices_insertionSortOrdered_w hr9
      skip
      cases hh
      try simp only [x_slices_pdqsortOrdered_w, seval, -Int.reduceToNat, t0a, t1a, t2a, t3a, t8a, t9a, H0a, i8, hr9, q10l]
      rw [LK_ret]
      refine ⟨_, rfl, ?_⟩
      refine ⟨rfl, ?_⟩
      try simp only [x_slices_pdqsortOrdered_w, seval, -Int.reduceToNat, t0a, t1a, t2a, t3a, t8a, t9a, H0a, i8, hr9, q10l]
    · replace hh := ite_f hb7 hh
      try simp only [x_slices_pdqsortOrdered_w, seval, -Int.reduceToNat, t0a, t1a, t2a, t3a, t8a, t9a, H0a]
      refine tstC_br (fun hb11 => ?_) (fun hb11 => ?_)
      · replace hh := ite_t hb11 hh
        cases hh
      · replace hh := ite_f hb11 hh
        cases hh
  · rintro x t H e hx
    rcases o6 with ra
    dsimp only at hx hh
    obtain ⟨rfl, hE⟩ := hx
    cases hh
    try simp only [runW_pass_ret, runW_pass_exit, runW_blk_ret, runW_nil, endW_ret]
    exact hE

theorem ok_slices_pdqsortOrdered_w : COk Try.prog 29 G_slices_pdqsortOrdered_w := COk.lentW (mode := .clean) tok ge_slices_pdqsortOrdered_w mixed Try.func29 (by kernel_rfl) ⟨by kernel_rfl, by kernel_rfl⟩ (fun _ => Nat.le_of_ble_eq_true (by kernel_rfl)) (fun pre post l x l' r h => m_slices_pdqsortOrdered_w pre post l x.1 x.2.1 x.2.2 (l', r) h)

noncomputable def G_slices_Sort_w := mkW 3 (eI .i64) (as0) (fun (l : (List Int)) (x : Unit) => slices_Sort_w l) (fun r : Unit => .clean (.tup []))

theorem q_slices_Sort_w (pre post : List D) (p0 : (List Int)) : G_slices_Sort_w (some (.buf 0 0 1 pre.length p0.length, ⟨0, 3, pre ++ (encL (eI .i64) p0 ++ post), false, true, false⟩)) [] = (slices_Sort_w p0).map fun r => (.clean (.tup []), some ⟨0, 3, pre ++ (encL (eI .i64) r.1 ++ post), false, true, false⟩) := mkW_eq _ _ _ _ _ pre post p0 ()

noncomputable def g_slices_Sort_w : Env := (Am.ext (Am.ext noEnv 29 true G_slices_pdqsortOrdered_w) 30 false G_math_bits_Len)

theorem ge_slices_Sort_w : GOk Try.prog g_slices_Sort_w := ((GOk.none.add ok_slices_pdqsortOrdered_w true).add ok_math_bits_Len false)

theorem gg_slices_Sort_w : g_slices_Sort_w = (Am.ext (Am.ext noEnv 29 true G_slices_pdqsortOrdered_w) 30 false G_math_bits_Len) := Eq.trans rfl rfl

theorem x_slices_Sort_w : type_of% (And.intro @w <| And.intro @q_math_bits_Len <| @gg_slices_Sort_w) := And.intro @w <| And.intro @q_math_bits_Len <| @gg_slices_Sort_w

theorem m_slices_Sort_w (pre post : List D) (p0 : (List Int)) (r : (List Int) × (Unit)) (hh : slices_Sort_w p0 = some r) : vfunc .clean tab g_slices_Sort_w FU Try.f25 (some (.buf 0 0 1 pre.length p0.length, ⟨0, 3, pre ++ (encL (eI .i64) p0 ++ post), false, true, false⟩)) [] = some (.clean (.tup []), some ⟨0, 3, pre ++ (encL (eI .i64) r.1 ++ post), false, true, false⟩) := by
  refine vfunc_lent rfl Try.ntmps25 Try.results25 ?_
  unfold slices_Sort_w at hh
  obtain ⟨rw, hrw, hh⟩ := bindS hh
  split at hh
  rotate_left
  · cases hh
  cases hh
  rename_i hlen
  replace hh := hrw
  unfold slices_Sort_w_B at hh
  obtain ⟨r1, hr1, hh⟩ := bindS hh
  have i2 := q_slices_pdqsortOrdered_w pre post p0 0 ((p0).length : Int) r1
  try simp only [List.nil_append, List.append_nil, List.length_nil, encL_cons, List.length_set, vmz] at i2
  obtain ⟨r3, hr3, hh⟩ := bindS hh
  have q4l := len_slices_pdqsortOrdered_w hr3
  skip
  cases hh
  try simp only [x_slices_Sort_w, seval, -Int.reduceToNat, hr1, i2, hr3, q4l]

theorem ok_slices_Sort_w : COk Try.prog 25 G_slices_Sort_w := COk.lentW (mode := .clean) tok ge_slices_Sort_w mixed Try.func25 (by kernel_rfl) ⟨by kernel_rfl, by kernel_rfl⟩ (fun _ => Nat.le_of_ble_eq_true (by kernel_rfl)) (fun pre post l x l' r h => m_slices_Sort_w pre post l (l', r) h)

noncomputable def G_sortS_25_w := mkW 3 (eI .i64) as0 (fun (l : (List Int)) (_ : Unit) => sortS_25_w l) (fun _ : Unit => .clean (.tup []))

theorem q_sortS_25_w (pre post : List D) (p0 : (List Int)) : G_sortS_25_w (some (.buf 0 0 1 pre.length p0.length, ⟨0, 3, pre ++ (encL (eI .i64) p0 ++ post), false, true, false⟩)) [] = (sortS_25_w p0).map fun r => (.clean (.tup []), some ⟨0, 3, pre ++ (encL (eI .i64) r.1 ++ post), false, true, false⟩) := mkW_eq _ _ _ _ _ pre post p0 ()

theorem ok_sortS_25_w : COk Try.prog 25 G_sortS_25_w := sort_ok Try.func25 ⟨by kernel_rfl, by kernel_rfl⟩ (fun l => by simp only [sortS_25_w]) ok_slices_Sort_w (by kernel_rfl) srt25

noncomputable def G_firm_Answers := mkG (asC (aSl eTDeed) (asC (aI .i64) (as1 (aI .i64)))) (fun x : (List TDeed) × Int × Int => firm_Answers x.1 x.2.1 x.2.2) (fun r : (List Int) => .clean (.sl false false r.length (encL (eI .i64) r)))

theorem q_firm_Answers (p0 : (List TDeed)) (p1 : Int) (p2 : Int) : G_firm_Answers none [.sl false false p0.length (encL eTDeed p0), .int .i64 p1, .int .i64 p2] = (firm_Answers p0 p1 p2).map fun r : (List Int) => (.clean (.sl false false r.length (encL (eI .i64) r)), none) := mkG_eq _ _ _ (p0, p1, p2)

noncomputable def g_firm_Answers : Env := (Am.ext (Am.ext (Am.ext (Am.ext noEnv 19 false G_firm_read) 22 false G_firm_house) 23 false G_firm_book_alive) 25 true G_sortS_25_w)

theorem ge_firm_Answers : GOk Try.prog g_firm_Answers := ((((GOk.none.add ok_firm_read false).add ok_firm_house false).add ok_firm_book_alive false).add ok_sortS_25_w true)

theorem gg_firm_Answers : g_firm_Answers = (Am.ext (Am.ext (Am.ext (Am.ext noEnv 19 false G_firm_read) 22 false G_firm_house) 23 false G_firm_book_alive) 25 true G_sortS_25_w) := Eq.trans rfl rfl

theorem x_firm_Answers : type_of% (And.intro @w <| And.intro @q_firm_read <| And.intro @q_firm_house <| And.intro @q_firm_book_alive <| @gg_firm_Answers) := And.intro @w <| And.intro @q_firm_read <| And.intro @q_firm_house <| And.intro @q_firm_book_alive <| @gg_firm_Answers

theorem m_firm_Answers (p0 : (List TDeed)) (p1 : Int) (p2 : Int) (r : (List Int)) (hh : firm_Answers p0 p1 p2 = some r) : vfunc .clean tab g_firm_Answers FU Try.f14 none [.sl false false p0.length (encL eTDeed p0), .int .i64 p1, .int .i64 p2] = some (.clean (.sl false false r.length (encL (eI .i64) r)), none) := by
  refine vfunc_of rfl Try.ntmps14 Try.results14 ?_
  unfold firm_Answers at hh
  obtain ⟨r1, hr1, hh⟩ := bindS hh
  try simp only [x_firm_Answers, seval, -Int.reduceToNat, hr1]
  obtain ⟨o2, ho2, hh⟩ := bindS hh
  refine tstO_cut 0 (fun s t H e => match s with | s25j1 => t 1 = .int .i64 p1 ∧ t 2 = .int .i64 p2 ∧ t 7 = .mpc (mapK r1.1) (mapV (aAgg eTDeed) r1.1) ∧ t 25 = .bool s25j1) (fun s => s = o2) ?_ ?_
  · rintro s25j1 t H e ⟨t1j1, t2j1, t7j1, t25j1⟩ rfl
    try dsimp only at hh
    try simp only [x_firm_Answers, seval, -Int.reduceToNat, hr1, t1j1, t2j1, t7j1, t25j1]
    refine tstC_br (fun hb3 => ?_) (fun hb3 => ?_)
    · replace hh := ite_t hb3 hh
      cases hh
      try simp only [x_firm_Answers, seval, -Int.reduceToNat, hr1, t1j1, t2j1, t7j1, t25j1]
    · replace hh := ite_f hb3 hh
      try simp only [x_firm_Answers, seval, -Int.reduceToNat, hr1, t1j1, t2j1, t7j1, t25j1]
      obtain ⟨o25, ho25, hh⟩ := bindS hh
      refine runLoop_sim (fun s t H e => match s with | (l9b, l11b, l26b) => ∃ v9b : Nat, ∃ v11b : Nat, ∃ v26b : Nat, ∃ O11b : Nat, ∃ C11b : List D, t 2 = .int .i64 p2 ∧ t 7 = .mpc (mapK r1.1) (mapV (aAgg eTDeed) r1.1) ∧ t 9 = .buf 9 v9b 1 0 (l9b).length ∧ t 10 = .mp 26 v26b ∧ t 11 = .buf 11 v11b 1 O11b (l11b).length ∧ H 9 = some ⟨v9b, 3, encL (eI .i64) l9b, false, true, false⟩ ∧ H 11 = some ⟨v11b, 3, C11b, false, true, false⟩ ∧ H 26 = some ⟨v26b, 45, [.mpc (mapK l26b) (mapV aBool l26b)], false, true, true⟩ ∧ FitR (eI .i64) C11b O11b l11b) (fun o x t H e => match o with | l9bx => x = .exit 0 ∧ ∃ v9bx : Nat, t 9 = .buf 9 v9bx 1 0 (l9bx).length ∧ H 9 = some ⟨v9bx, 3, encL (eI .i64) l9bx, false, true, false⟩) ho25 ?_ ?_ ?_
      ·
        refine ⟨e, e + 1 + 1, e + 1, 0, (encL (eI .i64) ([p1])), ?_, ?_, ?_, ?_, ?_, ?_, ?_, ?_, (FitR.self (eI .i64) ([p1]))⟩
        all_goals (first | rfl | (simp only [x_firm_Answers, seval, -Int.reduceToNat, hr1, t1j1, t2j1, t7j1, t25j1] <;> rfl))
      · rintro ⟨l9b, l11b, l26b⟩ t H e ⟨v9b, v11b, v26b, O11b, C11b, t2b, t7b, t9b, t10b, t11b, H9b, H11b, H26b, F11b⟩ c hh
        simp only [firm_Answers_L2] at hh
        have f1F11b := F11b.fit
        have f2F11b := F11b.eq
        simp only [vmz] at f1F11b f2F11b
        try simp only [x_firm_Answers, seval, -Int.reduceToNat, hr1, t2b, t7b, t9b, t10b, t11b, H9b, H11b, H26b, f1F11b, f2F11b]
        refine tstC_br (fun hb26 => ?_) (fun hb26 => ?_)
        · replace hh := ite_t hb26 hh
          obtain ⟨x27, hx27, hh⟩ := bindS hh
          have bx27 := idx_bd hx27
          obtain ⟨fx27, restx27, ax27⟩ := F11b.idx hx27
          simp only [vmz] at ax27 fx27
          obtain ⟨r28, hr28, hh⟩ := bindS hh
          try simp only [x_firm_Answers, seval, -Int.reduceToNat, hr1, t2b, t7b, t9b, t10b, t11b, H9b, H11b, H26b, f1F11b, f2F11b, bx27, ax27, fx27, hr28]
          refine tstC_br (fun hb29 => ?_) (fun hb29 => ?_)
          · replace hh := ite_t hb29 hh
            have bx27 := idx_bd hx27
            obtain ⟨fx27, restx27, ax27⟩ := F11b.idx hx27
            simp only [vmz] at ax27 fx27
            obtain ⟨x30, hx30, hh⟩ := bindS hh
            obtain ⟨q31a, q31b, q31c, q31d⟩ := app_one (eI .i64) hx30
            simp only [vmz] at q31b
            obtain ⟨x32, hx32, hh⟩ := bindS hh
            obtain ⟨q33a, q33b, q33c, q33d, q33e⟩ := slc_ln (eI .i64) hx32
            simp only [vmz] at q33e
            skip
            have q33F := FitR.tail F11b hx32
            cases hh
            try simp only [x_firm_Answers, seval, -Int.reduceToNat, hr1, t2b, t7b, t9b, t10b, t11b, H9b, H11b, H26b, f1F11b, f2F11b, bx27, ax27, fx27, hr28, bx27, ax27, fx27, q31a, q31b, q31c, q31d, q33a, q33b, q33c, q33e, q33d]
            rw [LK_normal]
            refine ⟨_, rfl, ?_⟩
            refine ⟨e + 1 + 1, e + 1 + 1 + 1, v26b, (O11b + (1 : Int).toNat * 1), (C11b), ?_, ?_, ?_, ?_, ?_, ?_, ?_, ?_, q33F⟩
            all_goals (first | rfl | (simp only [x_firm_Answers, seval, -Int.reduceToNat, hr1, t2b, t7b, t9b, t10b, t11b, H9b, H11b, H26b, f1F11b, f2F11b, bx27, ax27, fx27, hr28, bx27, ax27, fx27, q31a, q31b, q31c, q31d, q33a, q33b, q33c, q33e, q33d] <;> rfl))
          · replace hh := ite_f hb29 hh
            have bx27 := idx_bd hx27
            obtain ⟨fx27, restx27, ax27⟩ := F11b.idx hx27
            simp only [vmz] at ax27 fx27
            try simp only [x_firm_Answers, seval, -Int.reduceToNat, hr1, t2b, t7b, t9b, t10b, t11b, H9b, H11b, H26b, f1F11b, f2F11b, bx27, ax27, fx27, hr28, bx27, ax27, fx27]
            obtain ⟨o39, ho39, hh⟩ := bindS hh
            refine runLoop_sim (fun s t H e => match s with | (s55d, l11d, l26d) => ∃ v9d : Nat, ∃ v11d : Nat, ∃ v26d : Nat, ∃ O11d : Nat, ∃ C11d : List D, t 2 = .int .i64 p2 ∧ t 7 = .mpc (mapK r1.1) (mapV (aAgg eTDeed) r1.1) ∧ t 9 = .buf 9 v9d 1 0 (l9b).length ∧ t 10 = .mp 26 v26d ∧ t 11 = .buf 11 v11d 1 O11d (l11d).length ∧ t 53 = .sl false false ((lookM (TDeed.mk 0 0 0 ([])) r1.1 x27).f_Others).length (encL (eI .i64) ((lookM (TDeed.mk 0 0 0 ([])) r1.1 x27).f_Others)) ∧ t 54 = .int .i64 (((lookM (TDeed.mk 0 0 0 ([])) r1.1 x27).f_Others).length : Int) ∧ t 55 = .int .i64 s55d ∧ H 9 = some ⟨v9d, 3, encL (eI .i64) l9b, false, true, false⟩ ∧ H 11 = some ⟨v11d, 3, C11d, false, true, false⟩ ∧ H 26 = some ⟨v26d, 45, [.mpc (mapK l26d) (mapV aBool l26d)], false, true, true⟩ ∧ FitR (eI .i64) C11d O11d l11d) (fun o x t H e => match o with | (l11dx, l26dx) => x = .exit 2 ∧ ∃ v9dx : Nat, ∃ v11dx : Nat, ∃ v26dx : Nat, ∃ O11dx : Nat, ∃ C11dx : List D, t 2 = .int .i64 p2 ∧ t 7 = .mpc (mapK r1.1) (mapV (aAgg eTDeed) r1.1) ∧ t 9 = .buf 9 v9dx 1 0 (l9b).length ∧ t 10 = .mp 26 v26dx ∧ t 11 = .buf 11 v11dx 1 O11dx (l11dx).length ∧ H 9 = some ⟨v9dx, 3, encL (eI .i64) l9b, false, true, false⟩ ∧ H 11 = some ⟨v11dx, 3, C11dx, false, true, false⟩ ∧ H 26 = some ⟨v26dx, 45, [.mpc (mapK l26dx) (mapV aBool l26dx)], false, true, true⟩ ∧ FitR (eI .i64) C11dx O11dx l11dx) ho39 ?_ ?_ ?_
            ·
              refine ⟨v9b, v11b, v26b, O11b, C11b, ?_, ?_, ?_, ?_, ?_, ?_, ?_, ?_, ?_, ?_, ?_, F11b⟩
              all_goals (first | rfl | (simp only [x_firm_Answers, seval, -Int.reduceToNat, hr1, t2b, t7b, t9b, t10b, t11b, H9b, H11b, H26b, f1F11b, f2F11b, bx27, ax27, fx27, hr28, bx27, ax27, fx27] <;> rfl))
            · rintro ⟨s55d, l11d, l26d⟩ t H e ⟨v9d, v11d, v26d, O11d, C11d, t2d, t7d, t9d, t10d, t11d, t53d, t54d, t55d, H9d, H11d, H26d, F11d⟩ c hh
              simp only [firm_Answers_L4] at hh
              have f1F11d := F11d.fit
              have f2F11d := F11d.eq
              simp only [vmz] at f1F11d f2F11d
              try simp only [x_firm_Answers, seval, -Int.reduceToNat, hr1, f1F11b, f2F11b, bx27, ax27, fx27, hr28, bx27, ax27, fx27, t2d, t7d, t9d, t10d, t11d, t53d, t54d, t55d, H9d, H11d, H26d, f1F11d, f2F11d]
              refine tstC_br (fun hb40 => ?_) (fun hb40 => ?_)
              · replace hh := ite_t hb40 hh
                obtain ⟨x41, hx41, hh⟩ := bindS hh
                have bx41 := idx_bd hx41
                have ax41 := idx_enc (eI .i64) hx41
                have fx41 := idx_fit (eI .i64) hx41
                simp only [vmz] at ax41 fx41
                skip
                try simp only [x_firm_Answers, seval, -Int.reduceToNat, hr1, f1F11b, f2F11b, bx27, ax27, fx27, hr28, bx27, ax27, fx27, t2d, t7d, t9d, t10d, t11d, t53d, t54d, t55d, H9d, H11d, H26d, f1F11d, f2F11d, bx41, ax41, fx41]
                refine tstC_br (fun hb42 => ?_) (fun hb42 => ?_)
                · replace hh := ite_t hb42 hh
                  obtain ⟨x43, hx43, hh⟩ := bindS hh
                  obtain ⟨q44a, q44b, q44c, q44d⟩ := app_one (eI .i64) hx43
                  simp only [vmz] at q44b
                  cases hh
                  try simp only [x_firm_Answers, seval, -Int.reduceToNat, hr1, f1F11b, f2F11b, bx27, ax27, fx27, hr28, bx27, ax27, fx27, t2d, t7d, t9d, t10d, t11d, t53d, t54d, t55d, H9d, H11d, H26d, f1F11d, f2F11d, bx41, ax41, fx41, q44a, q44b, q44c, q44d]
                  rw [LK_normal]
                  refine ⟨_, rfl, ?_⟩
                  refine ⟨v9d, e + 1 + 1 + 1 + 1, v26d, 0, (encL (eI .i64) x43), ?_, ?_, ?_, ?_, ?_, ?_, ?_, ?_, ?_, ?_, ?_, (FitR.self (eI .i64) x43)⟩
                  all_goals (first | rfl | (simp only [x_firm_Answers, seval, -Int.reduceToNat, hr1, f1F11b, f2F11b, bx27, ax27, fx27, hr28, bx27, ax27, fx27, t2d, t7d, t9d, t10d, t11d, t53d, t54d, t55d, H9d, H11d, H26d, f1F11d, f2F11d, bx41, ax41, fx41, q44a, q44b, q44c, q44d] <;> rfl))
                · replace hh := ite_f hb42 hh
                  cases hh
                  try simp only [x_firm_Answers, seval, -Int.reduceToNat, hr1, f1F11b, f2F11b, bx27, ax27, fx27, hr28, bx27, ax27, fx27, t2d, t7d, t9d, t10d, t11d, t53d, t54d, t55d, H9d, H11d, H26d, f1F11d, f2F11d, bx41, ax41, fx41]
                  rw [LK_normal]
                  refine ⟨_, rfl, ?_⟩
                  refine ⟨v9d, v11d, v26d, O11d, C11d, ?_, ?_, ?_, ?_, ?_, ?_, ?_, ?_, ?_, ?_, ?_, F11d⟩
                  all_goals (first | rfl | (simp only [x_firm_Answers, seval, -Int.reduceToNat, hr1, f1F11b, f2F11b, bx27, ax27, fx27, hr28, bx27, ax27, fx27, t2d, t7d, t9d, t10d, t11d, t53d, t54d, t55d, H9d, H11d, H26d, f1F11d, f2F11d, bx41, ax41, fx41] <;> rfl))
              · replace hh := ite_f hb40 hh
                cases hh
                try simp only [x_firm_Answers, seval, -Int.reduceToNat, hr1, f1F11b, f2F11b, bx27, ax27, fx27, hr28, bx27, ax27, fx27, t2d, t7d, t9d, t10d, t11d, t53d, t54d, t55d, H9d, H11d, H26d, f1F11d, f2F11d]
                rw [LK_exit]
                refine ⟨_, rfl, ?_⟩
                refine ⟨rfl, ⟨v9d, v11d, v26d, O11d, C11d, ?_, ?_, ?_, ?_, ?_, ?_, ?_, ?_, F11d⟩⟩
                all_goals (first | rfl | (simp only [x_firm_Answers, seval, -Int.reduceToNat, hr1, f1F11b, f2F11b, bx27, ax27, fx27, hr28, bx27, ax27, fx27, t2d, t7d, t9d, t10d, t11d, t53d, t54d, t55d, H9d, H11d, H26d, f1F11d, f2F11d] <;> rfl))
            · rintro x t H e hx
              rcases o39 with ⟨l11dx, l26dx⟩
              dsimp only at hx hh
              obtain ⟨rfl, ⟨v9dx, v11dx, v26dx, O11dx, C11dx, t2dx, t7dx, t9dx, t10dx, t11dx, H9dx, H11dx, H26dx, F11dx⟩⟩ := hx
              have f1F11dx := F11dx.fit
              have f2F11dx := F11dx.eq
              simp only [vmz] at f1F11dx f2F11dx
              obtain ⟨x45, hx45, hh⟩ := bindS hh
              obtain ⟨q46a, q46b, q46c, q46d, q46e⟩ := slc_ln (eI .i64) hx45
              simp only [vmz] at q46e
              skip
              have q46F := FitR.tail F11dx hx45
              cases hh
              try simp only [x_firm_Answers, seval, -Int.reduceToNat, hr1, f1F11b, f2F11b, bx27, ax27, fx27, hr28, bx27, ax27, fx27, t2dx, t7dx, t9dx, t10dx, t11dx, H9dx, H11dx, H26dx, f1F11dx, f2F11dx, q46a, q46b, q46c, q46e, q46d]
              rw [LK_normal]
              refine ⟨_, rfl, ?_⟩
              refine ⟨v9dx, e, v26dx, (O11dx + (1 : Int).toNat * 1), (C11dx), ?_, ?_, ?_, ?_, ?_, ?_, ?_, ?_, q46F⟩
              all_goals (first | rfl | (simp only [x_firm_Answers, seval, -Int.reduceToNat, hr1, f1F11b, f2F11b, bx27, ax27, fx27, hr28, bx27, ax27, fx27, t2dx, t7dx, t9dx, t10dx, t11dx, H9dx, H11dx, H26dx, f1F11dx, f2F11dx, q46a, q46b, q46c, q46e, q46d] <;> rfl))
        · replace hh := ite_f hb26 hh
          cases hh
          try simp only [x_firm_Answers, seval, -Int.reduceToNat, hr1, t2b, t7b, t9b, t10b, t11b, H9b, H11b, H26b, f1F11b, f2F11b]
          rw [LK_exit]
          refine ⟨_, rfl, ?_⟩
          refine ⟨rfl, ⟨v9b, ?_, ?_⟩⟩
          all_goals (first | rfl | (simp only [x_firm_Answers, seval, -Int.reduceToNat, hr1, t2b, t7b, t9b, t10b, t11b, H9b, H11b, H26b, f1F11b, f2F11b] <;> rfl))
      · rintro x t H e hx
        obtain ⟨l9bx, rfl⟩ : ∃ z, z = o25 := ⟨_, rfl⟩
        dsimp only at hx hh
        obtain ⟨rfl, ⟨v9bx, t9bx, H9bx⟩⟩ := hx
        have i47 := q_sortS_25_w [] [] l9bx
        try simp only [List.nil_append, List.append_nil, List.length_nil, encL_cons, List.length_set, vmz] at i47
        obtain ⟨r48, hr48, hh⟩ := bindS hh
        have q49l := len_sortS_25_w hr48
        replace q49l := q49l.symm
        try simp only [q49l] at i47
        cases hh
        try simp only [x_firm_Answers, seval, -Int.reduceToNat, hr1, t9bx, H9bx, i47, hr48, q49l]
  ·
    clear hh
    have hh := ho2
    try simp only [x_firm_Answers, seval, -Int.reduceToNat, hr1]
    refine tstO_br' (fun hb50 => ?_) (fun hb50 => ?_)
    · replace hh := ite_t hb50 hh
      cases hh
      try simp only [x_firm_Answers, seval, -Int.reduceToNat, hr1]
      rw [CK_normal]
      refine ⟨_, rfl, ?_⟩
      refine ⟨?_, ?_, ?_, ?_⟩
      all_goals (first | rfl | (simp only [x_firm_Answers, seval, -Int.reduceToNat, hr1] <;> rfl))
    · replace hh := ite_f hb50 hh
      obtain ⟨r51, hr51, hh⟩ := bindS hh
      cases hh
      try simp only [x_firm_Answers, seval, -Int.reduceToNat, hr1, hr51]
      rw [CK_normal]
      refine ⟨_, rfl, ?_⟩
      refine ⟨?_, ?_, ?_, ?_⟩
      all_goals (first | rfl | (simp only [x_firm_Answers, seval, -Int.reduceToNat, hr1, hr51] <;> rfl))

theorem ok_firm_Answers : COk Try.prog 14 G_firm_Answers := COk.of (mode := .clean) tok ge_firm_Answers mixed Try.func14 (by kernel_rfl) ⟨by kernel_rfl, by kernel_rfl⟩ (fun _ => Nat.le_of_ble_eq_true (by kernel_rfl)) (fun x r h => m_firm_Answers x.1 x.2.1 x.2.2 r h)

noncomputable def G_r41_Same := mkG (asC (aSl (eI .i64)) (as1 (aSl (eI .i64)))) (fun x : (List Int) × (List Int) => r41_Same x.1 x.2) (fun r : Bool => .clean (.bool r))

theorem q_r41_Same (p0 : (List Int)) (p1 : (List Int)) : G_r41_Same none [.sl false false p0.length (encL (eI .i64) p0), .sl false false p1.length (encL (eI .i64) p1)] = (r41_Same p0 p1).map fun r : Bool => (.clean (.bool r), none) := mkG_eq _ _ _ (p0, p1)

theorem m_r41_Same (p0 : (List Int)) (p1 : (List Int)) (r : Bool) (hh : r41_Same p0 p1 = some r) : vfunc .clean tab noEnv FU Try.f13 none [.sl false false p0.length (encL (eI .i64) p0), .sl false false p1.length (encL (eI .i64) p1)] = some (.clean (.bool r), none) := by
  refine vfunc_of rfl Try.ntmps13 Try.results13 ?_
  unfold r41_Same at hh
  try simp only [w, seval, -Int.reduceToNat]
  refine tstC_br (fun hb1 => ?_) (fun hb1 => ?_)
  · replace hh := ite_t hb1 hh
    cases hh
    try simp only [w, seval, -Int.reduceToNat]
  · replace hh := ite_f hb1 hh
    try simp only [w, seval, -Int.reduceToNat]
    obtain ⟨o6, ho6, hh⟩ := bindS hh
    refine runLoop_sim (fun s t H e => match s with | s5a => t 0 = .sl false false p0.length (encL (eI .i64) p0) ∧ t 1 = .sl false false p1.length (encL (eI .i64) p1) ∧ t 5 = .int .i64 s5a) (fun o x t H e => match o with | (.inl _) => x = .exit 0 | (.inr r) => x = .ret ∧ endM .clean tab none [.tmp 4] ⟨t, H, e⟩ = some (.clean (.bool r), none)) ho6 ?_ ?_ ?_
    ·
      refine ⟨?_, ?_, ?_⟩
      all_goals (first | rfl | (simp only [w, seval, -Int.reduceToNat] <;> rfl))
    · rintro s5a t H e ⟨t0a, t1a, t5a⟩ c hh
      simp only [r41_Same_L1] at hh
      try simp only [w, seval, -Int.reduceToNat, t0a, t1a, t5a]
      refine tstC_br (fun hb7 => ?_) (fun hb7 => ?_)
      · replace hh := ite_t hb7 hh
        obtain ⟨x8, hx8, hh⟩ := bindS hh
        have bx8 := idx_bd hx8
        have ax8 := idx_enc (eI .i64) hx8
        have fx8 := idx_fit (eI .i64) hx8
        simp only [vmz] at ax8 fx8
        skip
        obtain ⟨x9, hx9, hh⟩ := bindS hh
        have bx9 := idx_bd hx9
        have ax9 := idx_enc (eI .i64) hx9
        have fx9 := idx_fit (eI .i64) hx9
        simp only [vmz] at ax9 fx9
        skip
        try simp only [w, seval, -Int.reduceToNat, t0a, t1a, t5a, bx8, ax8, fx8, bx9, ax9, fx9]
        refine dyn_ok (by kernel_rfl) ?_
        try simp only [w, seval, -Int.reduceToNat, t0a, t1a, t5a, bx8, ax8, fx8, bx9, ax9, fx9]
        refine tstC_br (fun hb10 => ?_) (fun hb10 => ?_)
        · replace hh := ite_t hb10 hh
          cases hh
          try simp only [w, seval, -Int.reduceToNat, t0a, t1a, t5a, bx8, ax8, fx8, bx9, ax9, fx9]
          rw [LK_ret]
          refine ⟨_, rfl, ?_⟩
          refine ⟨rfl, ?_⟩
          try simp only [w, seval, -Int.reduceToNat, t0a, t1a, t5a, bx8, ax8, fx8, bx9, ax9, fx9]
        · replace hh := ite_f hb10 hh
          cases hh
          try simp only [w, seval, -Int.reduceToNat, t0a, t1a, t5a, bx8, ax8, fx8, bx9, ax9, fx9]
          rw [LK_normal]
          refine ⟨_, rfl, ?_⟩
          refine ⟨?_, ?_, ?_⟩
          all_goals (first | rfl | (simp only [w, seval, -Int.reduceToNat, t0a, t1a, t5a, bx8, ax8, fx8, bx9, ax9, fx9] <;> rfl))
      · replace hh := ite_f hb7 hh
        cases hh
        try simp only [w, seval, -Int.reduceToNat, t0a, t1a, t5a]
        rw [LK_exit]
        refine ⟨_, rfl, ?_⟩
        exact rfl
    · rintro x t H e hx
      rcases o6 with _ | ra
      ·
        dsimp only at hx hh
        subst hx
        cases hh
        try simp only [w, seval, -Int.reduceToNat]
      ·
        dsimp only at hx hh
        obtain ⟨rfl, hE⟩ := hx
        cases hh
        try simp only [runW_pass_ret, runW_pass_exit, runW_blk_ret, runW_nil, endW_ret]
        exact hE

theorem ok_r41_Same : COk Try.prog 13 G_r41_Same := COk.of (mode := .clean) tok GOk.none mixed Try.func13 (by kernel_rfl) ⟨by kernel_rfl, by kernel_rfl⟩ (fun _ => Nat.le_of_ble_eq_true (by kernel_rfl)) (fun x r h => m_r41_Same x.1 x.2 r h)

noncomputable def G_firm_Check := mkG (as1 (aSl eTDeed)) (fun x : (List TDeed) => firm_Check x) (fun r : Int => .clean (.int .i64 r))

theorem q_firm_Check (p0 : (List TDeed)) : G_firm_Check none [.sl false false p0.length (encL eTDeed p0)] = (firm_Check p0).map fun r : Int => (.clean (.int .i64 r), none) := mkG_eq _ _ _ (p0)

noncomputable def g_firm_Check : Env := (Am.ext noEnv 19 false G_firm_read)

theorem ge_firm_Check : GOk Try.prog g_firm_Check := (GOk.none.add ok_firm_read false)

theorem gg_firm_Check : g_firm_Check = (Am.ext noEnv 19 false G_firm_read) := Eq.trans rfl rfl

theorem x_firm_Check : type_of% (And.intro @w <| And.intro @q_firm_read <| @gg_firm_Check) := And.intro @w <| And.intro @q_firm_read <| @gg_firm_Check

theorem m_firm_Check (p0 : (List TDeed)) (r : Int) (hh : firm_Check p0 = some r) : vfunc .clean tab g_firm_Check FU Try.f9 none [.sl false false p0.length (encL eTDeed p0)] = some (.clean (.int .i64 r), none) := by
  refine vfunc_of rfl Try.ntmps9 Try.results9 ?_
  unfold firm_Check at hh
  obtain ⟨r1, hr1, hh⟩ := bindS hh
  cases hh
  try simp only [x_firm_Check, seval, -Int.reduceToNat, hr1]

theorem ok_firm_Check : COk Try.prog 9 G_firm_Check := COk.of (mode := .clean) tok ge_firm_Check mixed Try.func9 (by kernel_rfl) ⟨by kernel_rfl, by kernel_rfl⟩ (fun _ => Nat.le_of_ble_eq_true (by kernel_rfl)) (fun x r h => m_firm_Check x r h)

noncomputable def G_firm_Alive := mkG (asC (aSl eTDeed) (asC (aI .i64) (as1 (aI .i64)))) (fun x : (List TDeed) × Int × Int => firm_Alive x.1 x.2.1 x.2.2) (fun r : Bool => .clean (.bool r))

theorem q_firm_Alive (p0 : (List TDeed)) (p1 : Int) (p2 : Int) : G_firm_Alive none [.sl false false p0.length (encL eTDeed p0), .int .i64 p1, .int .i64 p2] = (firm_Alive p0 p1 p2).map fun r : Bool => (.clean (.bool r), none) := mkG_eq _ _ _ (p0, p1, p2)

noncomputable def g_firm_Alive : Env := (Am.ext (Am.ext (Am.ext noEnv 19 false G_firm_read) 22 false G_firm_house) 23 false G_firm_book_alive)

theorem ge_firm_Alive : GOk Try.prog g_firm_Alive := (((GOk.none.add ok_firm_read false).add ok_firm_house false).add ok_firm_book_alive false)

theorem gg_firm_Alive : g_firm_Alive = (Am.ext (Am.ext (Am.ext noEnv 19 false G_firm_read) 22 false G_firm_house) 23 false G_firm_book_alive) := Eq.trans rfl rfl

theorem x_firm_Alive : type_of% (And.intro @w <| And.intro @q_firm_read <| And.intro @q_firm_house <| And.intro @q_firm_book_alive <| @gg_firm_Alive) := And.intro @w <| And.intro @q_firm_read <| And.intro @q_firm_house <| And.intro @q_firm_book_alive <| @gg_firm_Alive

theorem m_firm_Alive (p0 : (List TDeed)) (p1 : Int) (p2 : Int) (r : Bool) (hh : firm_Alive p0 p1 p2 = some r) : vfunc .clean tab g_firm_Alive FU Try.f11 none [.sl false false p0.length (encL eTDeed p0), .int .i64 p1, .int .i64 p2] = some (.clean (.bool r), none) := by
  refine vfunc_of rfl Try.ntmps11 Try.results11 ?_
  unfold firm_Alive at hh
  obtain ⟨r1, hr1, hh⟩ := bindS hh
  try simp only [x_firm_Alive, seval, -Int.reduceToNat, hr1]
  refine tstO_br (fun hb2 => ?_) (fun hb2 => ?_)
  · replace hh := ite_t hb2 hh
    obtain ⟨r3, hr3, hh⟩ := bindS hh
    try simp only [x_firm_Alive, seval, -Int.reduceToNat, hr1, hr3]
    refine tstO_br (fun hb4 => ?_) (fun hb4 => ?_)
    · replace hh := ite_t hb4 hh
      obtain ⟨r5, hr5, hh⟩ := bindS hh
      cases hh
      try simp only [x_firm_Alive, seval, -Int.reduceToNat, hr1, hr3, hr5]
    · replace hh := ite_f hb4 hh
      cases hh
      try simp only [x_firm_Alive, seval, -Int.reduceToNat, hr1, hr3]
  · replace hh := ite_f hb2 hh
    cases hh
    try simp only [x_firm_Alive, seval, -Int.reduceToNat, hr1]

theorem ok_firm_Alive : COk Try.prog 11 G_firm_Alive := COk.of (mode := .clean) tok ge_firm_Alive mixed Try.func11 (by kernel_rfl) ⟨by kernel_rfl, by kernel_rfl⟩ (fun _ => Nat.le_of_ble_eq_true (by kernel_rfl)) (fun x r h => m_firm_Alive x.1 x.2.1 x.2.2 r h)

noncomputable def G_l41_example := mkG (as1 (aSl eTDeed)) (fun x : (List TDeed) => l41_example x) (fun r : (List TDeed) => .clean (.sl false false r.length (encL eTDeed r)))

theorem q_l41_example (p0 : (List TDeed)) : G_l41_example none [.sl false false p0.length (encL eTDeed p0)] = (l41_example p0).map fun r : (List TDeed) => (.clean (.sl false false r.length (encL eTDeed r)), none) := mkG_eq _ _ _ (p0)

theorem m_l41_example (p0 : (List TDeed)) (r : (List TDeed)) (hh : l41_example p0 = some r) : vfunc .clean tab noEnv FU Try.f18 none [.sl false false p0.length (encL eTDeed p0)] = some (.clean (.sl false false r.length (encL eTDeed r)), none) := by
  refine vfunc_of rfl Try.ntmps18 Try.results18 ?_
  unfold l41_example at hh
  obtain ⟨x1, hx1, hh⟩ := bindS hh
  obtain ⟨q2a, q2b, q2c, q2d⟩ := app_two eTDeed hx1
  simp only [encL_cons, vmz, List.length_cons, Nat.zero_add, Nat.reduceAdd] at q2a q2b
  cases hh
  try simp only [w, seval, -Int.reduceToNat, q2a, q2b, q2c, q2d]

theorem ok_l41_example : COk Try.prog 18 G_l41_example := COk.of (mode := .clean) tok GOk.none mixed Try.func18 (by kernel_rfl) ⟨by kernel_rfl, by kernel_rfl⟩ (fun _ => Nat.le_of_ble_eq_true (by kernel_rfl)) (fun x r h => m_l41_example x r h)

noncomputable def G_l41_sane := mkG (as0) (fun x : Unit => l41_sane) (fun r : Bool => .clean (.bool r))

theorem q_l41_sane : G_l41_sane none [] = (l41_sane).map fun r : Bool => (.clean (.bool r), none) := mkG_eq _ _ _ ()

noncomputable def g_l41_sane : Env := (Am.ext (Am.ext (Am.ext (Am.ext (Am.ext noEnv 9 false G_firm_Check) 11 false G_firm_Alive) 13 false G_r41_Same) 14 false G_firm_Answers) 18 false G_l41_example)

theorem ge_l41_sane : GOk Try.prog g_l41_sane := (((((GOk.none.add ok_firm_Check false).add ok_firm_Alive false).add ok_r41_Same false).add ok_firm_Answers false).add ok_l41_example false)

theorem gg_l41_sane : g_l41_sane = (Am.ext (Am.ext (Am.ext (Am.ext (Am.ext noEnv 9 false G_firm_Check) 11 false G_firm_Alive) 13 false G_r41_Same) 14 false G_firm_Answers) 18 false G_l41_example) := Eq.trans rfl rfl

theorem x_l41_sane : type_of% (And.intro @w <| And.intro @q_firm_Check <| And.intro @q_firm_Alive <| And.intro @q_r41_Same <| And.intro @q_firm_Answers <| And.intro @q_l41_example <| @gg_l41_sane) := And.intro @w <| And.intro @q_firm_Check <| And.intro @q_firm_Alive <| And.intro @q_r41_Same <| And.intro @q_firm_Answers <| And.intro @q_l41_example <| @gg_l41_sane

theorem m_l41_sane (r : Bool) (hh : l41_sane = some r) : vfunc .clean tab g_l41_sane FU Try.f7 none [] = some (.clean (.bool r), none) := by
  refine vfunc_of rfl Try.ntmps7 Try.results7 ?_
  unfold l41_sane at hh
  have i1 := q_l41_example ([])
  simp only [encL_cons, vmz, List.length_cons, List.length_nil, Nat.zero_add, Nat.reduceAdd, List.length_set] at i1
  obtain ⟨r2, hr2, hh⟩ := bindS hh
  obtain ⟨r3, hr3, hh⟩ := bindS hh
  have i4 := q_r41_Same r3 ([3])
  simp only [encL_cons, vmz, List.length_cons, List.length_nil, Nat.zero_add, Nat.reduceAdd, List.length_set] at i4
  obtain ⟨r5, hr5, hh⟩ := bindS hh
  try simp only [x_l41_sane, seval, -Int.reduceToNat, i1, hr2, hr3, i4, hr5]
  obtain ⟨o6, ho6, hh⟩ := bindS hh
  refine tstO_cut 0 (fun s t H e => match s with | s2j1 => t 1 = .sl false false r2.length (encL eTDeed r2) ∧ t 2 = .bool s2j1) (fun s => s = o6) ?_ ?_
  · rintro s2j1 t H e ⟨t1j1, t2j1⟩ rfl
    try dsimp only at hh
    have i7 := q_l41_example ([(TDeed.mk 2 20 7 ([4]))])
    simp only [encL_cons, vmz, List.length_cons, List.length_nil, Nat.zero_add, Nat.reduceAdd, List.length_set] at i7
    obtain ⟨r8, hr8, hh⟩ := bindS hh
    obtain ⟨r9, hr9, hh⟩ := bindS hh
    have i10 := q_l41_example ([(TDeed.mk 2 19 7 ([4]))])
    simp only [encL_cons, vmz, List.length_cons, List.length_nil, Nat.zero_add, Nat.reduceAdd, List.length_set] at i10
    obtain ⟨r11, hr11, hh⟩ := bindS hh
    obtain ⟨r12, hr12, hh⟩ := bindS hh
    have i13 := q_l41_example ([(TDeed.mk 2 40 6 ([3]))])
    simp only [encL_cons, vmz, List.length_cons, List.length_nil, Nat.zero_add, Nat.reduceAdd, List.length_set] at i13
    obtain ⟨r14, hr14, hh⟩ := bindS hh
    obtain ⟨r15, hr15, hh⟩ := bindS hh
    try simp only [x_l41_sane, seval, -Int.reduceToNat, i1, hr2, hr3, i4, hr5, t1j1, t2j1, i7, hr8, hr9, i10, hr11, hr12, i13, hr14, hr15]
    refine tstO_br (fun hb16 => ?_) (fun hb16 => ?_)
    · replace hh := ite_t hb16 hh
      obtain ⟨r17, hr17, hh⟩ := bindS hh
      try simp only [x_l41_sane, seval, -Int.reduceToNat, i1, hr2, hr3, i4, hr5, t1j1, t2j1, i7, hr8, hr9, i10, hr11, hr12, i13, hr14, hr15, hr17]
      refine tstO_br (fun hb18 => ?_) (fun hb18 => ?_)
      · replace hh := ite_t hb18 hh
        obtain ⟨r19, hr19, hh⟩ := bindS hh
        try simp only [x_l41_sane, seval, -Int.reduceToNat, i1, hr2, hr3, i4, hr5, t1j1, t2j1, i7, hr8, hr9, i10, hr11, hr12, i13, hr14, hr15, hr17, hr19]
        refine tstO_br (fun hb20 => ?_) (fun hb20 => ?_)
        · replace hh := ite_t hb20 hh
          try simp only [x_l41_sane, seval, -Int.reduceToNat, i1, hr2, hr3, i4, hr5, t1j1, t2j1, i7, hr8, hr9, i10, hr11, hr12, i13, hr14, hr15, hr17, hr19]
          refine tstO_br (fun hb21 => ?_) (fun hb21 => ?_)
          · replace hh := ite_t hb21 hh
            try simp only [x_l41_sane, seval, -Int.reduceToNat, i1, hr2, hr3, i4, hr5, t1j1, t2j1, i7, hr8, hr9, i10, hr11, hr12, i13, hr14, hr15, hr17, hr19]
            refine tstO_br (fun hb22 => ?_) (fun hb22 => ?_)
            · replace hh := ite_t hb22 hh
              cases hh
              try simp only [x_l41_sane, seval, -Int.reduceToNat, i1, hr2, hr3, i4, hr5, t1j1, t2j1, i7, hr8, hr9, i10, hr11, hr12, i13, hr14, hr15, hr17, hr19]
            · replace hh := ite_f hb22 hh
              cases hh
              try simp only [x_l41_sane, seval, -Int.reduceToNat, i1, hr2, hr3, i4, hr5, t1j1, t2j1, i7, hr8, hr9, i10, hr11, hr12, i13, hr14, hr15, hr17, hr19]
          · replace hh := ite_f hb21 hh
            cases hh
            try simp only [x_l41_sane, seval, -Int.reduceToNat, i1, hr2, hr3, i4, hr5, t1j1, t2j1, i7, hr8, hr9, i10, hr11, hr12, i13, hr14, hr15, hr17, hr19]
        · replace hh := ite_f hb20 hh
          cases hh
          try simp only [x_l41_sane, seval, -Int.reduceToNat, i1, hr2, hr3, i4, hr5, t1j1, t2j1, i7, hr8, hr9, i10, hr11, hr12, i13, hr14, hr15, hr17, hr19]
      · replace hh := ite_f hb18 hh
        cases hh
        try simp only [x_l41_sane, seval, -Int.reduceToNat, i1, hr2, hr3, i4, hr5, t1j1, t2j1, i7, hr8, hr9, i10, hr11, hr12, i13, hr14, hr15, hr17]
    · replace hh := ite_f hb16 hh
      cases hh
      try simp only [x_l41_sane, seval, -Int.reduceToNat, i1, hr2, hr3, i4, hr5, t1j1, t2j1, i7, hr8, hr9, i10, hr11, hr12, i13, hr14, hr15]
  ·
    clear hh
    have hh := ho6
    try simp only [x_l41_sane, seval, -Int.reduceToNat, i1, hr2, hr3, i4, hr5]
    refine tstO_br (fun hb23 => ?_) (fun hb23 => ?_)
    · replace hh := ite_t hb23 hh
      obtain ⟨r24, hr24, hh⟩ := bindS hh
      have i25 := q_r41_Same r24 ([4, 5])
      simp only [encL_cons, vmz, List.length_cons, List.length_nil, Nat.zero_add, Nat.reduceAdd, List.length_set] at i25
      obtain ⟨r26, hr26, hh⟩ := bindS hh
      try simp only [x_l41_sane, seval, -Int.reduceToNat, i1, hr2, hr3, i4, hr5, hr24, i25, hr26]
      refine tstO_br (fun hb27 => ?_) (fun hb27 => ?_)
      · replace hh := ite_t hb27 hh
        obtain ⟨r28, hr28, hh⟩ := bindS hh
        have i29 := q_r41_Same r28 ([5, 6])
        simp only [encL_cons, vmz, List.length_cons, List.length_nil, Nat.zero_add, Nat.reduceAdd, List.length_set] at i29
        obtain ⟨r30, hr30, hh⟩ := bindS hh
        try simp only [x_l41_sane, seval, -Int.reduceToNat, i1, hr2, hr3, i4, hr5, hr24, i25, hr26, hr28, i29, hr30]
        refine tstO_br (fun hb31 => ?_) (fun hb31 => ?_)
        · replace hh := ite_t hb31 hh
          obtain ⟨r32, hr32, hh⟩ := bindS hh
          have i33 := q_r41_Same r32 ([6])
          simp only [encL_cons, vmz, List.length_cons, List.length_nil, Nat.zero_add, Nat.reduceAdd, List.length_set] at i33
          obtain ⟨r34, hr34, hh⟩ := bindS hh
          cases hh
          try simp only [x_l41_sane, seval, -Int.reduceToNat, i1, hr2, hr3, i4, hr5, hr24, i25, hr26, hr28, i29, hr30, hr32, i33, hr34]
          rw [CK_normal]
          refine ⟨_, rfl, ?_⟩
          refine ⟨?_, ?_⟩
          all_goals (first | rfl | (simp only [x_l41_sane, seval, -Int.reduceToNat, i1, hr2, hr3, i4, hr5, hr24, i25, hr26, hr28, i29, hr30, hr32, i33, hr34] <;> rfl))
        · replace hh := ite_f hb31 hh
          cases hh
          try simp only [x_l41_sane, seval, -Int.reduceToNat, i1, hr2, hr3, i4, hr5, hr24, i25, hr26, hr28, i29, hr30]
          rw [CK_normal]
          refine ⟨_, rfl, ?_⟩
          refine ⟨?_, ?_⟩
          all_goals (first | rfl | (simp only [x_l41_sane, seval, -Int.reduceToNat, i1, hr2, hr3, i4, hr5, hr24, i25, hr26, hr28, i29, hr30] <;> rfl))
      · replace hh := ite_f hb27 hh
        cases hh
        try simp only [x_l41_sane, seval, -Int.reduceToNat, i1, hr2, hr3, i4, hr5, hr24, i25, hr26]
        rw [CK_normal]
        refine ⟨_, rfl, ?_⟩
        refine ⟨?_, ?_⟩
        all_goals (first | rfl | (simp only [x_l41_sane, seval, -Int.reduceToNat, i1, hr2, hr3, i4, hr5, hr24, i25, hr26] <;> rfl))
    · replace hh := ite_f hb23 hh
      cases hh
      try simp only [x_l41_sane, seval, -Int.reduceToNat, i1, hr2, hr3, i4, hr5]
      rw [CK_normal]
      refine ⟨_, rfl, ?_⟩
      refine ⟨?_, ?_⟩
      all_goals (first | rfl | (simp only [x_l41_sane, seval, -Int.reduceToNat, i1, hr2, hr3, i4, hr5] <;> rfl))

theorem ok_l41_sane : COk Try.prog 7 G_l41_sane := COk.of (mode := .clean) tok ge_l41_sane mixed Try.func7 (by kernel_rfl) ⟨by kernel_rfl, by kernel_rfl⟩ (fun _ => Nat.le_of_ble_eq_true (by kernel_rfl)) (fun x r h => m_l41_sane  r h)

noncomputable def G_r41_Few := mkG (as1 (aSl eTDeed)) (fun x : (List TDeed) => r41_Few x) (fun r : Bool => .clean (.bool r))

theorem q_r41_Few (p0 : (List TDeed)) : G_r41_Few none [.sl false false p0.length (encL eTDeed p0)] = (r41_Few p0).map fun r : Bool => (.clean (.bool r), none) := mkG_eq _ _ _ (p0)

theorem m_r41_Few (p0 : (List TDeed)) (r : Bool) (hh : r41_Few p0 = some r) : vfunc .clean tab noEnv FU Try.f8 none [.sl false false p0.length (encL eTDeed p0)] = some (.clean (.bool r), none) := by
  refine vfunc_of rfl Try.ntmps8 Try.results8 ?_
  unfold r41_Few at hh
  try simp only [w, seval, -Int.reduceToNat]
  obtain ⟨o6, ho6, hh⟩ := bindS hh
  refine runLoop_sim (fun s t H e => match s with | s3a => t 0 = .sl false false p0.length (encL eTDeed p0) ∧ t 3 = .int .i64 s3a) (fun o x t H e => match o with | (.inl _) => x = .exit 0 ∧ t 0 = .sl false false p0.length (encL eTDeed p0) | (.inr r) => x = .ret ∧ endM .clean tab none [.tmp 2] ⟨t, H, e⟩ = some (.clean (.bool r), none)) ho6 ?_ ?_ ?_
  ·
    refine ⟨?_, ?_⟩
    all_goals (first | rfl | (simp only [w, seval, -Int.reduceToNat] <;> rfl))
  · rintro s3a t H e ⟨t0a, t3a⟩ c hh
    simp only [r41_Few_L1] at hh
    try simp only [w, seval, -Int.reduceToNat, t0a, t3a]
    obtain ⟨o7, ho7, hh⟩ := bindS hh
    refine tstO_cut 0 (fun s t H e => match s with | s11j3 => t 0 = .sl false false p0.length (encL eTDeed p0) ∧ t 3 = .int .i64 s3a ∧ t 11 = .bool s11j3) (fun s => s = o7) ?_ ?_
    · rintro s11j3 t H e ⟨t0j3, t3j3, t11j3⟩ rfl
      try dsimp only at hh
      try simp only [w, seval, -Int.reduceToNat, t0j3, t3j3, t11j3]
      refine tstC_br (fun hb8 => ?_) (fun hb8 => ?_)
      · replace hh := ite_t hb8 hh
        obtain ⟨x9, hx9, hh⟩ := bindS hh
        have bx9 := idx_bd hx9
        have ax9 := idx_enc eTDeed hx9
        have fx9 := idx_fit eTDeed hx9
        simp only [vmz] at ax9 fx9
        skip
        try simp only [w, seval, -Int.reduceToNat, t0j3, t3j3, t11j3, bx9, ax9, fx9]
        refine tstC_br (fun hb10 => ?_) (fun hb10 => ?_)
        · replace hh := ite_t hb10 hh
          cases hh
          try simp only [w, seval, -Int.reduceToNat, t0j3, t3j3, t11j3, bx9, ax9, fx9]
          rw [LK_ret]
          refine ⟨_, rfl, ?_⟩
          refine ⟨rfl, ?_⟩
          try simp only [w, seval, -Int.reduceToNat, t0j3, t3j3, t11j3, bx9, ax9, fx9]
        · replace hh := ite_f hb10 hh
          cases hh
          try simp only [w, seval, -Int.reduceToNat, t0j3, t3j3, t11j3, bx9, ax9, fx9]
          rw [LK_normal]
          refine ⟨_, rfl, ?_⟩
          refine ⟨?_, ?_⟩
          all_goals (first | rfl | (simp only [w, seval, -Int.reduceToNat, t0j3, t3j3, t11j3, bx9, ax9, fx9] <;> rfl))
      · replace hh := ite_f hb8 hh
        cases hh
        try simp only [w, seval, -Int.reduceToNat, t0j3, t3j3, t11j3]
        rw [LK_exit]
        refine ⟨_, rfl, ?_⟩
        refine ⟨rfl, ?_⟩
        all_goals (first | rfl | (simp only [w, seval, -Int.reduceToNat, t0j3, t3j3, t11j3] <;> rfl))
    ·
      clear hh
      have hh := ho7
      try simp only [w, seval, -Int.reduceToNat, t0a, t3a]
      refine tstO_br (fun hb11 => ?_) (fun hb11 => ?_)
      · replace hh := ite_t hb11 hh
        cases hh
        try simp only [w, seval, -Int.reduceToNat, t0a, t3a]
        rw [CK_normal]
        refine ⟨_, rfl, ?_⟩
        refine ⟨?_, ?_, ?_⟩
        all_goals (first | rfl | (simp only [w, seval, -Int.reduceToNat, t0a, t3a] <;> rfl))
      · replace hh := ite_f hb11 hh
        cases hh
        try simp only [w, seval, -Int.reduceToNat, t0a, t3a]
        rw [CK_normal]
        refine ⟨_, rfl, ?_⟩
        refine ⟨?_, ?_, ?_⟩
        all_goals (first | rfl | (simp only [w, seval, -Int.reduceToNat, t0a, t3a] <;> rfl))
  · rintro x t H e hx
    rcases o6 with _ | ra
    ·
      dsimp only at hx hh
      obtain ⟨rfl, t0ax⟩ := hx
      try simp only [w, seval, -Int.reduceToNat, t0ax]
      refine tstO_br' (fun hb12 => ?_) (fun hb12 => ?_)
      · replace hh := ite_t hb12 hh
        cases hh
        try simp only [w, seval, -Int.reduceToNat, t0ax]
      · replace hh := ite_f hb12 hh
        try simp only [w, seval, -Int.reduceToNat, t0ax]
        refine tstO_br (fun hb13 => ?_) (fun hb13 => ?_)
        · replace hh := ite_t hb13 hh
          cases hh
          try simp only [w, seval, -Int.reduceToNat, t0ax]
        · replace hh := ite_f hb13 hh
          cases hh
          try simp only [w, seval, -Int.reduceToNat, t0ax]
    ·
      dsimp only at hx hh
      obtain ⟨rfl, hE⟩ := hx
      cases hh
      try simp only [runW_pass_ret, runW_pass_exit, runW_blk_ret, runW_nil, endW_ret]
      exact hE

theorem ok_r41_Few : COk Try.prog 8 G_r41_Few := COk.of (mode := .clean) tok GOk.none mixed Try.func8 (by kernel_rfl) ⟨by kernel_rfl, by kernel_rfl⟩ (fun _ => Nat.le_of_ble_eq_true (by kernel_rfl)) (fun x r h => m_r41_Few x r h)

noncomputable def G_r41_House := mkG (as1 (aI .i64)) (fun x : Int => r41_House x) (fun r : Bool => .clean (.bool r))

theorem q_r41_House (p0 : Int) : G_r41_House none [.int .i64 p0] = (r41_House p0).map fun r : Bool => (.clean (.bool r), none) := mkG_eq _ _ _ (p0)

theorem m_r41_House (p0 : Int) (r : Bool) (hh : r41_House p0 = some r) : vfunc .clean tab noEnv FU Try.f24 none [.int .i64 p0] = some (.clean (.bool r), none) := by
  refine vfunc_of rfl Try.ntmps24 Try.results24 ?_
  unfold r41_House at hh
  try simp only [w, seval, -Int.reduceToNat]
  refine tstO_br (fun hb1 => ?_) (fun hb1 => ?_)
  · replace hh := ite_t hb1 hh
    cases hh
    try simp only [w, seval, -Int.reduceToNat]
  · replace hh := ite_f hb1 hh
    cases hh
    try simp only [w, seval, -Int.reduceToNat]

theorem ok_r41_House : COk Try.prog 24 G_r41_House := COk.of (mode := .clean) tok GOk.none mixed Try.func24 (by kernel_rfl) ⟨by kernel_rfl, by kernel_rfl⟩ (fun _ => Nat.le_of_ble_eq_true (by kernel_rfl)) (fun x r h => m_r41_House x r h)

noncomputable def G_r41_fits := mkG (as1 (aAgg eTDeed)) (fun x : TDeed => r41_fits x) (fun r : Bool => .clean (.bool r))

theorem q_r41_fits (p0_0 : Int) (p0_1 : Int) (p0_2 : Int) (p0_3 : (List Int)) : G_r41_fits none [.agg [.int .i64 p0_0, .int .i64 p0_1, .int .i64 p0_2, .sl false false p0_3.length (encL (eI .i64) p0_3)]] = (r41_fits (TDeed.mk p0_0 p0_1 p0_2 p0_3)).map fun r : Bool => (.clean (.bool r), none) := mkG_eq _ _ _ ((TDeed.mk p0_0 p0_1 p0_2 p0_3))

noncomputable def g_r41_fits : Env := (Am.ext noEnv 24 false G_r41_House)

theorem ge_r41_fits : GOk Try.prog g_r41_fits := (GOk.none.add ok_r41_House false)

theorem gg_r41_fits : g_r41_fits = (Am.ext noEnv 24 false G_r41_House) := Eq.trans rfl rfl

theorem x_r41_fits : type_of% (And.intro @w <| And.intro @q_r41_House <| @gg_r41_fits) := And.intro @w <| And.intro @q_r41_House <| @gg_r41_fits

theorem m_r41_fits (p0 : TDeed) (r : Bool) (hh : r41_fits p0 = some r) : vfunc .clean tab g_r41_fits FU Try.f20 none [.agg [.int .i64 p0.f_Kind, .int .i64 p0.f_Day, .int .i64 p0.f_House, .sl false false p0.f_Others.length (encL (eI .i64) p0.f_Others)]] = some (.clean (.bool r), none) := by
  refine vfunc_of rfl Try.ntmps20 Try.results20 ?_
  unfold r41_fits at hh
  obtain ⟨r1, hr1, hh⟩ := bindS hh
  try simp only [x_r41_fits, seval, -Int.reduceToNat, hr1]
  obtain ⟨o2, ho2, hh⟩ := bindS hh
  refine tstO_cut 0 (fun s t H e => match s with | s52j1 => ∃ v1j1 : Nat, t 1 = .ptr 1 v1j1 0 ∧ t 3 = .int .i64 (p0.f_Others.length : Int) ∧ t 52 = .bool s52j1 ∧ H 1 = some ⟨v1j1, 34, [.int .i64 p0.f_Kind, .int .i64 p0.f_Day, .int .i64 p0.f_House, .sl false false p0.f_Others.length (encL (eI .i64) p0.f_Others)], false, false, false⟩) (fun s => s = o2) ?_ ?_
  · rintro s52j1 t H e ⟨v1j1, t1j1, t3j1, t52j1, H1j1⟩ rfl
    try dsimp only at hh
    try simp only [x_r41_fits, seval, -Int.reduceToNat, hr1, t1j1, t3j1, t52j1, H1j1]
    refine tstC_br (fun hb3 => ?_) (fun hb3 => ?_)
    · replace hh := ite_t hb3 hh
      cases hh
      try simp only [x_r41_fits, seval, -Int.reduceToNat, hr1, t1j1, t3j1, t52j1, H1j1]
    · replace hh := ite_f hb3 hh
      try simp only [x_r41_fits, seval, -Int.reduceToNat, hr1, t1j1, t3j1, t52j1, H1j1]
      obtain ⟨o12, ho12, hh⟩ := bindS hh
      refine runLoop_sim (fun s t H e => match s with | s4b => ∃ v1b : Nat, t 1 = .ptr 1 v1b 0 ∧ t 3 = .int .i64 (p0.f_Others.length : Int) ∧ t 4 = .int .i64 s4b ∧ H 1 = some ⟨v1b, 34, [.int .i64 p0.f_Kind, .int .i64 p0.f_Day, .int .i64 p0.f_House, .sl false false p0.f_Others.length (encL (eI .i64) p0.f_Others)], false, false, false⟩) (fun o x t H e => match o with | (.inl _) => x = .exit 0 | (.inr r) => x = .ret ∧ endM .clean tab none [.tmp 2] ⟨t, H, e⟩ = some (.clean (.bool r), none)) ho12 ?_ ?_ ?_
      ·
        refine ⟨v1j1, ?_, ?_, ?_, ?_⟩
        all_goals (first | rfl | (simp only [x_r41_fits, seval, -Int.reduceToNat, hr1, t1j1, t3j1, t52j1, H1j1] <;> rfl))
      · rintro s4b t H e ⟨v1b, t1b, t3b, t4b, H1b⟩ c hh
        simp only [r41_fits_L2] at hh
        try simp only [x_r41_fits, seval, -Int.reduceToNat, hr1, t1b, t3b, t4b, H1b]
        refine tstC_br (fun hb13 => ?_) (fun hb13 => ?_)
        · replace hh := ite_t hb13 hh
          obtain ⟨x14, hx14, hh⟩ := bindS hh
          have bx14 := idx_bd hx14
          have ax14 := idx_enc (eI .i64) hx14
          have fx14 := idx_fit (eI .i64) hx14
          simp only [vmz] at ax14 fx14
          skip
          obtain ⟨r15, hr15, hh⟩ := bindS hh
          try simp only [x_r41_fits, seval, -Int.reduceToNat, hr1, t1b, t3b, t4b, H1b, bx14, ax14, fx14, hr15]
          refine tstP_br' (fun hb16 => ?_) (fun hb16 => ?_)
          · replace hh := ite_t hb16 hh
            try simp only [x_r41_fits, seval, -Int.reduceToNat, hr1, t1b, t3b, t4b, H1b, bx14, ax14, fx14, hr15]
            refine dyn_ok (by kernel_rfl) ?_
            cases hh
            try simp only [x_r41_fits, seval, -Int.reduceToNat, hr1, t1b, t3b, t4b, H1b, bx14, ax14, fx14, hr15]
            rw [LK_ret]
            refine ⟨_, rfl, ?_⟩
            refine ⟨rfl, ?_⟩
            try simp only [x_r41_fits, seval, -Int.reduceToNat, hr1, t1b, t3b, t4b, H1b, bx14, ax14, fx14, hr15]
          · replace hh := ite_f hb16 hh
            have bx14 := idx_bd hx14
            have ax14 := idx_enc (eI .i64) hx14
            have fx14 := idx_fit (eI .i64) hx14
            simp only [vmz] at ax14 fx14
            skip
            try simp only [x_r41_fits, seval, -Int.reduceToNat, hr1, t1b, t3b, t4b, H1b, bx14, ax14, fx14, hr15, bx14, ax14, fx14]
            refine tstP_br' (fun hb17 => ?_) (fun hb17 => ?_)
            · replace hh := ite_t hb17 hh
              try simp only [x_r41_fits, seval, -Int.reduceToNat, hr1, t1b, t3b, t4b, H1b, bx14, ax14, fx14, hr15, bx14, ax14, fx14]
              refine dyn_ok (by kernel_rfl) ?_
              cases hh
              try simp only [x_r41_fits, seval, -Int.reduceToNat, hr1, t1b, t3b, t4b, H1b, bx14, ax14, fx14, hr15, bx14, ax14, fx14]
              rw [LK_ret]
              refine ⟨_, rfl, ?_⟩
              refine ⟨rfl, ?_⟩
              try simp only [x_r41_fits, seval, -Int.reduceToNat, hr1, t1b, t3b, t4b, H1b, bx14, ax14, fx14, hr15, bx14, ax14, fx14]
            · replace hh := ite_f hb17 hh
              try simp only [x_r41_fits, seval, -Int.reduceToNat, hr1, t1b, t3b, t4b, H1b, bx14, ax14, fx14, hr15, bx14, ax14, fx14]
              refine tstP_br (fun hb18 => ?_) (fun hb18 => ?_)
              · replace hh := ite_t hb18 hh
                obtain ⟨x19, hx19, hh⟩ := bindS hh
                have bx19 := idx_bd hx19
                have ax19 := idx_enc (eI .i64) hx19
                have fx19 := idx_fit (eI .i64) hx19
                simp only [vmz] at ax19 fx19
                skip
                have bx14 := idx_bd hx14
                have ax14 := idx_enc (eI .i64) hx14
                have fx14 := idx_fit (eI .i64) hx14
                simp only [vmz] at ax14 fx14
                skip
                try simp only [x_r41_fits, seval, -Int.reduceToNat, hr1, t1b, t3b, t4b, H1b, bx14, ax14, fx14, hr15, bx14, ax14, fx14, bx19, ax19, fx19, bx14, ax14, fx14]
                refine dyn_ok (by kernel_rfl) ?_
                try simp only [x_r41_fits, seval, -Int.reduceToNat, hr1, t1b, t3b, t4b, H1b, bx14, ax14, fx14, hr15, bx14, ax14, fx14, bx19, ax19, fx19, bx14, ax14, fx14]
                refine tstC_br (fun hb20 => ?_) (fun hb20 => ?_)
                · replace hh := ite_t hb20 hh
                  cases hh
                  try simp only [x_r41_fits, seval, -Int.reduceToNat, hr1, t1b, t3b, t4b, H1b, bx14, ax14, fx14, hr15, bx14, ax14, fx14, bx19, ax19, fx19, bx14, ax14, fx14]
                  rw [LK_ret]
                  refine ⟨_, rfl, ?_⟩
                  refine ⟨rfl, ?_⟩
                  try simp only [x_r41_fits, seval, -Int.reduceToNat, hr1, t1b, t3b, t4b, H1b, bx14, ax14, fx14, hr15, bx14, ax14, fx14, bx19, ax19, fx19, bx14, ax14, fx14]
                · replace hh := ite_f hb20 hh
                  cases hh
                  try simp only [x_r41_fits, seval, -Int.reduceToNat, hr1, t1b, t3b, t4b, H1b, bx14, ax14, fx14, hr15, bx14, ax14, fx14, bx19, ax19, fx19, bx14, ax14, fx14]
                  rw [LK_normal]
                  refine ⟨_, rfl, ?_⟩
                  refine ⟨v1b, ?_, ?_, ?_, ?_⟩
                  all_goals (first | rfl | (simp only [x_r41_fits, seval, -Int.reduceToNat, hr1, t1b, t3b, t4b, H1b, bx14, ax14, fx14, hr15, bx14, ax14, fx14, bx19, ax19, fx19, bx14, ax14, fx14] <;> rfl))
              · replace hh := ite_f hb18 hh
                try simp only [x_r41_fits, seval, -Int.reduceToNat, hr1, t1b, t3b, t4b, H1b, bx14, ax14, fx14, hr15, bx14, ax14, fx14]
                refine dyn_ok (by kernel_rfl) ?_
                cases hh
                try simp only [x_r41_fits, seval, -Int.reduceToNat, hr1, t1b, t3b, t4b, H1b, bx14, ax14, fx14, hr15, bx14, ax14, fx14]
                rw [LK_normal]
                refine ⟨_, rfl, ?_⟩
                refine ⟨v1b, ?_, ?_, ?_, ?_⟩
                all_goals (first | rfl | (simp only [x_r41_fits, seval, -Int.reduceToNat, hr1, t1b, t3b, t4b, H1b, bx14, ax14, fx14, hr15, bx14, ax14, fx14] <;> rfl))
        · replace hh := ite_f hb13 hh
          cases hh
          try simp only [x_r41_fits, seval, -Int.reduceToNat, hr1, t1b, t3b, t4b, H1b]
          rw [LK_exit]
          refine ⟨_, rfl, ?_⟩
          exact rfl
      · rintro x t H e hx
        rcases o12 with _ | rb
        ·
          dsimp only at hx hh
          subst hx
          cases hh
          try simp only [x_r41_fits, seval, -Int.reduceToNat, hr1]
        ·
          dsimp only at hx hh
          obtain ⟨rfl, hE⟩ := hx
          cases hh
          try simp only [runW_pass_ret, runW_pass_exit, runW_blk_ret, runW_nil, endW_ret]
          exact hE
  ·
    clear hh
    have hh := ho2
    try simp only [x_r41_fits, seval, -Int.reduceToNat, hr1]
    refine tstO_br' (fun hb21 => ?_) (fun hb21 => ?_)
    · replace hh := ite_t hb21 hh
      cases hh
      try simp only [x_r41_fits, seval, -Int.reduceToNat, hr1]
      rw [CK_normal]
      refine ⟨_, rfl, ?_⟩
      refine ⟨0, ?_, ?_, ?_, ?_⟩
      all_goals (first | rfl | (simp only [x_r41_fits, seval, -Int.reduceToNat, hr1] <;> rfl))
    · replace hh := ite_f hb21 hh
      try simp only [x_r41_fits, seval, -Int.reduceToNat, hr1]
      refine tstO_br' (fun hb22 => ?_) (fun hb22 => ?_)
      · replace hh := ite_t hb22 hh
        cases hh
        try simp only [x_r41_fits, seval, -Int.reduceToNat, hr1]
        rw [CK_normal]
        refine ⟨_, rfl, ?_⟩
        refine ⟨0, ?_, ?_, ?_, ?_⟩
        all_goals (first | rfl | (simp only [x_r41_fits, seval, -Int.reduceToNat, hr1] <;> rfl))
      · replace hh := ite_f hb22 hh
        try simp only [x_r41_fits, seval, -Int.reduceToNat, hr1]
        refine tstO_br' (fun hb23 => ?_) (fun hb23 => ?_)
        · replace hh := ite_t hb23 hh
          cases hh
          try simp only [x_r41_fits, seval, -Int.reduceToNat, hr1]
          rw [CK_normal]
          refine ⟨_, rfl, ?_⟩
          refine ⟨0, ?_, ?_, ?_, ?_⟩
          all_goals (first | rfl | (simp only [x_r41_fits, seval, -Int.reduceToNat, hr1] <;> rfl))
        · replace hh := ite_f hb23 hh
          try simp only [x_r41_fits, seval, -Int.reduceToNat, hr1]
          refine tstO_br (fun hb24 => ?_) (fun hb24 => ?_)
          · replace hh := ite_t hb24 hh
            try simp only [x_r41_fits, seval, -Int.reduceToNat, hr1]
            refine tstO_br' (fun hb25 => ?_) (fun hb25 => ?_)
            · replace hh := ite_t hb25 hh
              cases hh
              try simp only [x_r41_fits, seval, -Int.reduceToNat, hr1]
              rw [CK_normal]
              refine ⟨_, rfl, ?_⟩
              refine ⟨0, ?_, ?_, ?_, ?_⟩
              all_goals (first | rfl | (simp only [x_r41_fits, seval, -Int.reduceToNat, hr1] <;> rfl))
            · replace hh := ite_f hb25 hh
              try simp only [x_r41_fits, seval, -Int.reduceToNat, hr1]
              refine tstO_br (fun hb26 => ?_) (fun hb26 => ?_)
              · replace hh := ite_t hb26 hh
                try simp only [x_r41_fits, seval, -Int.reduceToNat, hr1]
                refine tstO_br' (fun hb27 => ?_) (fun hb27 => ?_)
                · replace hh := ite_t hb27 hh
                  cases hh
                  try simp only [x_r41_fits, seval, -Int.reduceToNat, hr1]
                  rw [CK_normal]
                  refine ⟨_, rfl, ?_⟩
                  refine ⟨0, ?_, ?_, ?_, ?_⟩
                  all_goals (first | rfl | (simp only [x_r41_fits, seval, -Int.reduceToNat, hr1] <;> rfl))
                · replace hh := ite_f hb27 hh
                  try simp only [x_r41_fits, seval, -Int.reduceToNat, hr1]
                  refine tstO_br (fun hb28 => ?_) (fun hb28 => ?_)
                  · replace hh := ite_t hb28 hh
                    try simp only [x_r41_fits, seval, -Int.reduceToNat, hr1]
                    refine tstO_br' (fun hb29 => ?_) (fun hb29 => ?_)
                    · replace hh := ite_t hb29 hh
                      cases hh
                      try simp only [x_r41_fits, seval, -Int.reduceToNat, hr1]
                      rw [CK_normal]
                      refine ⟨_, rfl, ?_⟩
                      refine ⟨0, ?_, ?_, ?_, ?_⟩
                      all_goals (first | rfl | (simp only [x_r41_fits, seval, -Int.reduceToNat, hr1] <;> rfl))
                    · replace hh := ite_f hb29 hh
                      cases hh
                      try simp only [x_r41_fits, seval, -Int.reduceToNat, hr1]
                      rw [CK_normal]
                      refine ⟨_, rfl, ?_⟩
                      refine ⟨0, ?_, ?_, ?_, ?_⟩
                      all_goals (first | rfl | (simp only [x_r41_fits, seval, -Int.reduceToNat, hr1] <;> rfl))
                  · replace hh := ite_f hb28 hh
                    cases hh
                    try simp only [x_r41_fits, seval, -Int.reduceToNat, hr1]
                    rw [CK_normal]
                    refine ⟨_, rfl, ?_⟩
                    refine ⟨0, ?_, ?_, ?_, ?_⟩
                    all_goals (first | rfl | (simp only [x_r41_fits, seval, -Int.reduceToNat, hr1] <;> rfl))
              · replace hh := ite_f hb26 hh
                try simp only [x_r41_fits, seval, -Int.reduceToNat, hr1]
                refine tstO_br (fun hb30 => ?_) (fun hb30 => ?_)
                · replace hh := ite_t hb30 hh
                  try simp only [x_r41_fits, seval, -Int.reduceToNat, hr1]
                  refine tstO_br' (fun hb31 => ?_) (fun hb31 => ?_)
                  · replace hh := ite_t hb31 hh
                    cases hh
                    try simp only [x_r41_fits, seval, -Int.reduceToNat, hr1]
                    rw [CK_normal]
                    refine ⟨_, rfl, ?_⟩
                    refine ⟨0, ?_, ?_, ?_, ?_⟩
                    all_goals (first | rfl | (simp only [x_r41_fits, seval, -Int.reduceToNat, hr1] <;> rfl))
                  · replace hh := ite_f hb31 hh
                    cases hh
                    try simp only [x_r41_fits, seval, -Int.reduceToNat, hr1]
                    rw [CK_normal]
                    refine ⟨_, rfl, ?_⟩
                    refine ⟨0, ?_, ?_, ?_, ?_⟩
                    all_goals (first | rfl | (simp only [x_r41_fits, seval, -Int.reduceToNat, hr1] <;> rfl))
                · replace hh := ite_f hb30 hh
                  cases hh
                  try simp only [x_r41_fits, seval, -Int.reduceToNat, hr1]
                  rw [CK_normal]
                  refine ⟨_, rfl, ?_⟩
                  refine ⟨0, ?_, ?_, ?_, ?_⟩
                  all_goals (first | rfl | (simp only [x_r41_fits, seval, -Int.reduceToNat, hr1] <;> rfl))
          · replace hh := ite_f hb24 hh
            try simp only [x_r41_fits, seval, -Int.reduceToNat, hr1]
            refine tstO_br (fun hb32 => ?_) (fun hb32 => ?_)
            · replace hh := ite_t hb32 hh
              try simp only [x_r41_fits, seval, -Int.reduceToNat, hr1]
              refine tstO_br' (fun hb33 => ?_) (fun hb33 => ?_)
              · replace hh := ite_t hb33 hh
                cases hh
                try simp only [x_r41_fits, seval, -Int.reduceToNat, hr1]
                rw [CK_normal]
                refine ⟨_, rfl, ?_⟩
                refine ⟨0, ?_, ?_, ?_, ?_⟩
                all_goals (first | rfl | (simp only [x_r41_fits, seval, -Int.reduceToNat, hr1] <;> rfl))
              · replace hh := ite_f hb33 hh
                try simp only [x_r41_fits, seval, -Int.reduceToNat, hr1]
                refine tstO_br (fun hb34 => ?_) (fun hb34 => ?_)
                · replace hh := ite_t hb34 hh
                  try simp only [x_r41_fits, seval, -Int.reduceToNat, hr1]
                  refine tstO_br' (fun hb35 => ?_) (fun hb35 => ?_)
                  · replace hh := ite_t hb35 hh
                    cases hh
                    try simp only [x_r41_fits, seval, -Int.reduceToNat, hr1]
                    rw [CK_normal]
                    refine ⟨_, rfl, ?_⟩
                    refine ⟨0, ?_, ?_, ?_, ?_⟩
                    all_goals (first | rfl | (simp only [x_r41_fits, seval, -Int.reduceToNat, hr1] <;> rfl))
                  · replace hh := ite_f hb35 hh
                    cases hh
                    try simp only [x_r41_fits, seval, -Int.reduceToNat, hr1]
                    rw [CK_normal]
                    refine ⟨_, rfl, ?_⟩
                    refine ⟨0, ?_, ?_, ?_, ?_⟩
                    all_goals (first | rfl | (simp only [x_r41_fits, seval, -Int.reduceToNat, hr1] <;> rfl))
                · replace hh := ite_f hb34 hh
                  cases hh
                  try simp only [x_r41_fits, seval, -Int.reduceToNat, hr1]
                  rw [CK_normal]
                  refine ⟨_, rfl, ?_⟩
                  refine ⟨0, ?_, ?_, ?_, ?_⟩
                  all_goals (first | rfl | (simp only [x_r41_fits, seval, -Int.reduceToNat, hr1] <;> rfl))
            · replace hh := ite_f hb32 hh
              try simp only [x_r41_fits, seval, -Int.reduceToNat, hr1]
              refine tstO_br (fun hb36 => ?_) (fun hb36 => ?_)
              · replace hh := ite_t hb36 hh
                try simp only [x_r41_fits, seval, -Int.reduceToNat, hr1]
                refine tstO_br' (fun hb37 => ?_) (fun hb37 => ?_)
                · replace hh := ite_t hb37 hh
                  cases hh
                  try simp only [x_r41_fits, seval, -Int.reduceToNat, hr1]
                  rw [CK_normal]
                  refine ⟨_, rfl, ?_⟩
                  refine ⟨0, ?_, ?_, ?_, ?_⟩
                  all_goals (first | rfl | (simp only [x_r41_fits, seval, -Int.reduceToNat, hr1] <;> rfl))
                · replace hh := ite_f hb37 hh
                  cases hh
                  try simp only [x_r41_fits, seval, -Int.reduceToNat, hr1]
                  rw [CK_normal]
                  refine ⟨_, rfl, ?_⟩
                  refine ⟨0, ?_, ?_, ?_, ?_⟩
                  all_goals (first | rfl | (simp only [x_r41_fits, seval, -Int.reduceToNat, hr1] <;> rfl))
              · replace hh := ite_f hb36 hh
                cases hh
                try simp only [x_r41_fits, seval, -Int.reduceToNat, hr1]
                rw [CK_normal]
                refine ⟨_, rfl, ?_⟩
                refine ⟨0, ?_, ?_, ?_, ?_⟩
                all_goals (first | rfl | (simp only [x_r41_fits, seval, -Int.reduceToNat, hr1] <;> rfl))

theorem ok_r41_fits : COk Try.prog 20 G_r41_fits := COk.of (mode := .clean) tok ge_r41_fits mixed Try.func20 (by kernel_rfl) ⟨by kernel_rfl, by kernel_rfl⟩ (fun _ => Nat.le_of_ble_eq_true (by kernel_rfl)) (fun x r h => m_r41_fits x r h)

noncomputable def G_r41_End := mkG (asC (aSl eTDeed) (as1 (aI .i64))) (fun x : (List TDeed) × Int => r41_End x.1 x.2) (fun r : Int => .clean (.int .i64 r))

theorem q_r41_End (p0 : (List TDeed)) (p1 : Int) : G_r41_End none [.sl false false p0.length (encL eTDeed p0), .int .i64 p1] = (r41_End p0 p1).map fun r : Int => (.clean (.int .i64 r), none) := mkG_eq _ _ _ (p0, p1)

theorem m_r41_End (p0 : (List TDeed)) (p1 : Int) (r : Int) (hh : r41_End p0 p1 = some r) : vfunc .clean tab noEnv FU Try.f16 none [.sl false false p0.length (encL eTDeed p0), .int .i64 p1] = some (.clean (.int .i64 r), none) := by
  refine vfunc_of rfl Try.ntmps16 Try.results16 ?_
  unfold r41_End at hh
  try simp only [w, seval, -Int.reduceToNat]
  obtain ⟨o4, ho4, hh⟩ := bindS hh
  refine runLoop_sim (fun s t H e => match s with | s5a => t 0 = .sl false false p0.length (encL eTDeed p0) ∧ t 1 = .int .i64 p1 ∧ t 5 = .int .i64 s5a) (fun o x t H e => match o with | (.inl _) => x = .exit 0 | (.inr r) => x = .ret ∧ endM .clean tab none [.tmp 4] ⟨t, H, e⟩ = some (.clean (.int .i64 r), none)) ho4 ?_ ?_ ?_
  ·
    refine ⟨?_, ?_, ?_⟩
    all_goals (first | rfl | (simp only [w, seval, -Int.reduceToNat] <;> rfl))
  · rintro s5a t H e ⟨t0a, t1a, t5a⟩ c hh
    simp only [r41_End_L1] at hh
    try simp only [w, seval, -Int.reduceToNat, t0a, t1a, t5a]
    refine tstC_br (fun hb5 => ?_) (fun hb5 => ?_)
    · replace hh := ite_t hb5 hh
      obtain ⟨x6, hx6, hh⟩ := bindS hh
      have bx6 := idx_bd hx6
      have ax6 := idx_enc eTDeed hx6
      have fx6 := idx_fit eTDeed hx6
      simp only [vmz] at ax6 fx6
      skip
      try simp only [w, seval, -Int.reduceToNat, t0a, t1a, t5a, bx6, ax6, fx6]
      refine tstC_br (fun hb7 => ?_) (fun hb7 => ?_)
      · replace hh := ite_t hb7 hh
        cases hh
        try simp only [w, seval, -Int.reduceToNat, t0a, t1a, t5a, bx6, ax6, fx6]
        rw [LK_ret]
        refine ⟨_, rfl, ?_⟩
        refine ⟨rfl, ?_⟩
        try simp only [w, seval, -Int.reduceToNat, t0a, t1a, t5a, bx6, ax6, fx6]
      · replace hh := ite_f hb7 hh
        cases hh
        try simp only [w, seval, -Int.reduceToNat, t0a, t1a, t5a, bx6, ax6, fx6]
        rw [LK_normal]
        refine ⟨_, rfl, ?_⟩
        refine ⟨?_, ?_, ?_⟩
        all_goals (first | rfl | (simp only [w, seval, -Int.reduceToNat, t0a, t1a, t5a, bx6, ax6, fx6] <;> rfl))
    · replace hh := ite_f hb5 hh
      cases hh
      try simp only [w, seval, -Int.reduceToNat, t0a, t1a, t5a]
      rw [LK_exit]
      refine ⟨_, rfl, ?_⟩
      exact rfl
  · rintro x t H e hx
    rcases o4 with _ | ra
    ·
      dsimp only at hx hh
      subst hx
      cases hh
      try simp only [w, seval, -Int.reduceToNat]
    ·
      dsimp only at hx hh
      obtain ⟨rfl, hE⟩ := hx
      cases hh
      try simp only [runW_pass_ret, runW_pass_exit, runW_blk_ret, runW_nil, endW_ret]
      exact hE

theorem ok_r41_End : COk Try.prog 16 G_r41_End := COk.of (mode := .clean) tok GOk.none mixed Try.func16 (by kernel_rfl) ⟨by kernel_rfl, by kernel_rfl⟩ (fun _ => Nat.le_of_ble_eq_true (by kernel_rfl)) (fun x r h => m_r41_End x.1 x.2 r h)

noncomputable def G_r41_Ended := mkG (asC (aSl eTDeed) (asC (aI .i64) (as1 (aI .i64)))) (fun x : (List TDeed) × Int × Int => r41_Ended x.1 x.2.1 x.2.2) (fun r : Bool => .clean (.bool r))

theorem q_r41_Ended (p0 : (List TDeed)) (p1 : Int) (p2 : Int) : G_r41_Ended none [.sl false false p0.length (encL eTDeed p0), .int .i64 p1, .int .i64 p2] = (r41_Ended p0 p1 p2).map fun r : Bool => (.clean (.bool r), none) := mkG_eq _ _ _ (p0, p1, p2)

noncomputable def g_r41_Ended : Env := (Am.ext noEnv 16 false G_r41_End)

theorem ge_r41_Ended : GOk Try.prog g_r41_Ended := (GOk.none.add ok_r41_End false)

theorem gg_r41_Ended : g_r41_Ended = (Am.ext noEnv 16 false G_r41_End) := Eq.trans rfl rfl

theorem x_r41_Ended : type_of% (And.intro @w <| And.intro @q_r41_End <| @gg_r41_Ended) := And.intro @w <| And.intro @q_r41_End <| @gg_r41_Ended

theorem m_r41_Ended (p0 : (List TDeed)) (p1 : Int) (p2 : Int) (r : Bool) (hh : r41_Ended p0 p1 p2 = some r) : vfunc .clean tab g_r41_Ended FU Try.f21 none [.sl false false p0.length (encL eTDeed p0), .int .i64 p1, .int .i64 p2] = some (.clean (.bool r), none) := by
  refine vfunc_of rfl Try.ntmps21 Try.results21 ?_
  unfold r41_Ended at hh
  obtain ⟨r1, hr1, hh⟩ := bindS hh
  try simp only [x_r41_Ended, seval, -Int.reduceToNat, hr1]
  refine tstC_br (fun hb2 => ?_) (fun hb2 => ?_)
  · replace hh := ite_t hb2 hh
    cases hh
    try simp only [x_r41_Ended, seval, -Int.reduceToNat, hr1]
  · replace hh := ite_f hb2 hh
    obtain ⟨x3, hx3, hh⟩ := bindS hh
    have bx3 := idx_bd hx3
    have ax3 := idx_enc eTDeed hx3
    have fx3 := idx_fit eTDeed hx3
    simp only [vmz] at ax3 fx3
    skip
    cases hh
    try simp only [x_r41_Ended, seval, -Int.reduceToNat, hr1, bx3, ax3, fx3]

theorem ok_r41_Ended : COk Try.prog 21 G_r41_Ended := COk.of (mode := .clean) tok ge_r41_Ended mixed Try.func21 (by kernel_rfl) ⟨by kernel_rfl, by kernel_rfl⟩ (fun _ => Nat.le_of_ble_eq_true (by kernel_rfl)) (fun x r h => m_r41_Ended x.1 x.2.1 x.2.2 r h)
end Go.Proofs.Ytnnkcegdkhclcaa.Am
