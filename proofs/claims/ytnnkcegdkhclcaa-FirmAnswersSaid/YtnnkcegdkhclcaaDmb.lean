/- The machine computes the plain functions (written by wip/dec.py). -/
import Derived.Test.YtnnkcegdkhclcaaDma
namespace Go.Proofs.Ytnnkcegdkhclcaa.Am
open Go.RowKit Go.Proofs.Ytnnkcegdkhclcaa.P
set_option maxRecDepth 100000
set_option maxHeartbeats 4000000
set_option linter.unusedSimpArgs false
set_option linter.unusedVariables false

noncomputable def G_r41_Check := mkG (as1 (aSl eTDeed)) (fun x : (List TDeed) => r41_Check x) (fun r : Int => .clean (.int .i64 r))

theorem q_r41_Check (p0 : (List TDeed)) : G_r41_Check none [.sl false false p0.length (encL eTDeed p0)] = (r41_Check p0).map fun r : Int => (.clean (.int .i64 r), none) := mkG_eq _ _ _ (p0)

noncomputable def g_r41_Check : Env := (Am.ext (Am.ext (Am.ext noEnv 16 false G_r41_End) 20 false G_r41_fits) 21 false G_r41_Ended)

theorem ge_r41_Check : GOk Try.prog g_r41_Check := (((GOk.none.add ok_r41_End false).add ok_r41_fits false).add ok_r41_Ended false)

theorem gg_r41_Check : g_r41_Check = (Am.ext (Am.ext (Am.ext noEnv 16 false G_r41_End) 20 false G_r41_fits) 21 false G_r41_Ended) := Eq.trans rfl rfl

theorem x_r41_Check : type_of% (And.intro @w <| And.intro @q_r41_End <| And.intro @q_r41_fits <| And.intro @q_r41_Ended <| @gg_r41_Check) := And.intro @w <| And.intro @q_r41_End <| And.intro @q_r41_fits <| And.intro @q_r41_Ended <| @gg_r41_Check

theorem m_r41_Check (p0 : (List TDeed)) (r : Int) (hh : r41_Check p0 = some r) : vfunc .clean tab g_r41_Check FU Try.f10 none [.sl false false p0.length (encL eTDeed p0)] = some (.clean (.int .i64 r), none) := by
  refine vfunc_of rfl Try.ntmps10 Try.results10 ?_
  unfold r41_Check at hh
  try simp only [x_r41_Check, seval, -Int.reduceToNat]
  refine tstC_br (fun hb1 => ?_) (fun hb1 => ?_)
  · replace hh := ite_t hb1 hh
    cases hh
    try simp only [x_r41_Check, seval, -Int.reduceToNat]
  · replace hh := ite_f hb1 hh
    try simp only [x_r41_Check, seval, -Int.reduceToNat]
    obtain ⟨o13, ho13, hh⟩ := bindS hh
    refine runLoop_sim (fun s t H e => match s with | s3a => t 0 = .sl false false p0.length (encL eTDeed p0) ∧ t 3 = .int .i64 s3a) (fun o x t H e => match o with | (.inl _) => x = .exit 0 ∧ t 0 = .sl false false p0.length (encL eTDeed p0) | (.inr r) => x = .ret ∧ endM .clean tab none [.tmp 2] ⟨t, H, e⟩ = some (.clean (.int .i64 r), none)) ho13 ?_ ?_ ?_
    ·
      refine ⟨?_, ?_⟩
      all_goals (first | rfl | (simp only [x_r41_Check, seval, -Int.reduceToNat] <;> rfl))
    · rintro s3a t H e ⟨t0a, t3a⟩ c hh
      simp only [r41_Check_L1] at hh
      try simp only [x_r41_Check, seval, -Int.reduceToNat, t0a, t3a]
      refine tstC_br (fun hb14 => ?_) (fun hb14 => ?_)
      · replace hh := ite_t hb14 hh
        obtain ⟨x15, hx15, hh⟩ := bindS hh
        have bx15 := idx_bd hx15
        have ax15 := idx_enc eTDeed hx15
        have fx15 := idx_fit eTDeed hx15
        simp only [vmz] at ax15 fx15
        skip
        obtain ⟨r16, hr16, hh⟩ := bindS hh
        try simp only [x_r41_Check, seval, -Int.reduceToNat, t0a, t3a, bx15, ax15, fx15, hr16]
        refine tstC_br (fun hb17 => ?_) (fun hb17 => ?_)
        · replace hh := ite_t hb17 hh
          cases hh
          try simp only [x_r41_Check, seval, -Int.reduceToNat, t0a, t3a, bx15, ax15, fx15, hr16]
          rw [LK_ret]
          refine ⟨_, rfl, ?_⟩
          refine ⟨rfl, ?_⟩
          try simp only [x_r41_Check, seval, -Int.reduceToNat, t0a, t3a, bx15, ax15, fx15, hr16]
        · replace hh := ite_f hb17 hh
          try simp only [x_r41_Check, seval, -Int.reduceToNat, t0a, t3a, bx15, ax15, fx15, hr16]
          obtain ⟨o18, ho18, hh⟩ := bindS hh
          refine tstO_cut 0 (fun s t H e => match s with | s30j3 => ∃ v4j3 : Nat, t 0 = .sl false false p0.length (encL eTDeed p0) ∧ t 3 = .int .i64 s3a ∧ t 4 = .ptr 4 v4j3 0 ∧ t 30 = .bool s30j3 ∧ H 4 = some ⟨v4j3, 34, [.int .i64 x15.f_Kind, .int .i64 x15.f_Day, .int .i64 x15.f_House, .sl false false x15.f_Others.length (encL (eI .i64) x15.f_Others)], false, false, false⟩) (fun s => s = o18) ?_ ?_
          · rintro s30j3 t H e ⟨v4j3, t0j3, t3j3, t4j3, t30j3, H4j3⟩ rfl
            try dsimp only at hh
            try simp only [x_r41_Check, seval, -Int.reduceToNat, bx15, ax15, fx15, hr16, t0j3, t3j3, t4j3, t30j3, H4j3]
            refine tstC_br (fun hb19 => ?_) (fun hb19 => ?_)
            · replace hh := ite_t hb19 hh
              cases hh
              try simp only [x_r41_Check, seval, -Int.reduceToNat, bx15, ax15, fx15, hr16, t0j3, t3j3, t4j3, t30j3, H4j3]
              rw [LK_ret]
              refine ⟨_, rfl, ?_⟩
              refine ⟨rfl, ?_⟩
              try simp only [x_r41_Check, seval, -Int.reduceToNat, bx15, ax15, fx15, hr16, t0j3, t3j3, t4j3, t30j3, H4j3]
            · replace hh := ite_f hb19 hh
              obtain ⟨x20, hx20, hh⟩ := bindS hh
              obtain ⟨q21a, q21b, q21c, q21d, q21e⟩ := slc_nh eTDeed hx20
              simp only [vmz] at q21e
              obtain ⟨r22, hr22, hh⟩ := bindS hh
              try simp only [x_r41_Check, seval, -Int.reduceToNat, bx15, ax15, fx15, hr16, t0j3, t3j3, t4j3, t30j3, H4j3, q21a, q21b, q21c, q21d, q21e, hr22]
              refine dyn_ok (by kernel_rfl) ?_
              try simp only [x_r41_Check, seval, -Int.reduceToNat, bx15, ax15, fx15, hr16, t0j3, t3j3, t4j3, t30j3, H4j3, q21a, q21b, q21c, q21d, q21e, hr22]
              refine tstC_br (fun hb23 => ?_) (fun hb23 => ?_)
              · replace hh := ite_t hb23 hh
                cases hh
                try simp only [x_r41_Check, seval, -Int.reduceToNat, bx15, ax15, fx15, hr16, t0j3, t3j3, t4j3, t30j3, H4j3, q21a, q21b, q21c, q21d, q21e, hr22]
                rw [LK_ret]
                refine ⟨_, rfl, ?_⟩
                refine ⟨rfl, ?_⟩
                try simp only [x_r41_Check, seval, -Int.reduceToNat, bx15, ax15, fx15, hr16, t0j3, t3j3, t4j3, t30j3, H4j3, q21a, q21b, q21c, q21d, q21e, hr22]
              · replace hh := ite_f hb23 hh
                cases hh
                try simp only [x_r41_Check, seval, -Int.reduceToNat, bx15, ax15, fx15, hr16, t0j3, t3j3, t4j3, t30j3, H4j3, q21a, q21b, q21c, q21d, q21e, hr22]
                rw [LK_normal]
                refine ⟨_, rfl, ?_⟩
                refine ⟨?_, ?_⟩
                all_goals (first | rfl | (simp only [x_r41_Check, seval, -Int.reduceToNat, bx15, ax15, fx15, hr16, t0j3, t3j3, t4j3, t30j3, H4j3, q21a, q21b, q21c, q21d, q21e, hr22] <;> rfl))
          ·
            clear hh
            have hh := ho18
            try simp only [x_r41_Check, seval, -Int.reduceToNat, t0a, t3a, bx15, ax15, fx15, hr16]
            refine tstO_br' (fun hb24 => ?_) (fun hb24 => ?_)
            · replace hh := ite_t hb24 hh
              cases hh
              try simp only [x_r41_Check, seval, -Int.reduceToNat, t0a, t3a, bx15, ax15, fx15, hr16]
              rw [CK_normal]
              refine ⟨_, rfl, ?_⟩
              refine ⟨e + 1, ?_, ?_, ?_, ?_, ?_⟩
              all_goals (first | rfl | (simp only [x_r41_Check, seval, -Int.reduceToNat, t0a, t3a, bx15, ax15, fx15, hr16] <;> rfl))
            · replace hh := ite_f hb24 hh
              cases hh
              try simp only [x_r41_Check, seval, -Int.reduceToNat, t0a, t3a, bx15, ax15, fx15, hr16]
              rw [CK_normal]
              refine ⟨_, rfl, ?_⟩
              refine ⟨e + 1, ?_, ?_, ?_, ?_, ?_⟩
              all_goals (first | rfl | (simp only [x_r41_Check, seval, -Int.reduceToNat, t0a, t3a, bx15, ax15, fx15, hr16] <;> rfl))
      · replace hh := ite_f hb14 hh
        cases hh
        try simp only [x_r41_Check, seval, -Int.reduceToNat, t0a, t3a]
        rw [LK_exit]
        refine ⟨_, rfl, ?_⟩
        refine ⟨rfl, ?_⟩
        all_goals (first | rfl | (simp only [x_r41_Check, seval, -Int.reduceToNat, t0a, t3a] <;> rfl))
    · rintro x t H e hx
      rcases o13 with _ | ra
      ·
        dsimp only at hx hh
        obtain ⟨rfl, t0ax⟩ := hx
        try simp only [x_r41_Check, seval, -Int.reduceToNat, t0ax]
        obtain ⟨o37, ho37, hh⟩ := bindS hh
        refine runLoop_sim (fun s t H e => match s with | s5d => t 0 = .sl false false p0.length (encL eTDeed p0) ∧ t 5 = .int .i64 s5d) (fun o x t H e => match o with | (.inl _) => x = .exit 2 | (.inr r) => x = .ret ∧ endM .clean tab none [.tmp 2] ⟨t, H, e⟩ = some (.clean (.int .i64 r), none)) ho37 ?_ ?_ ?_
        ·
          refine ⟨?_, ?_⟩
          all_goals (first | rfl | (simp only [x_r41_Check, seval, -Int.reduceToNat, t0ax] <;> rfl))
        · rintro s5d t H e ⟨t0d, t5d⟩ c hh
          simp only [r41_Check_L4] at hh
          try simp only [x_r41_Check, seval, -Int.reduceToNat, t0d, t5d]
          refine tstC_br (fun hb38 => ?_) (fun hb38 => ?_)
          · replace hh := ite_t hb38 hh
            try simp only [x_r41_Check, seval, -Int.reduceToNat, t0d, t5d]
            obtain ⟨o44, ho44, hh⟩ := bindS hh
            refine runLoop_sim (fun s t H e => match s with | s6f => t 0 = .sl false false p0.length (encL eTDeed p0) ∧ t 5 = .int .i64 s5d ∧ t 6 = .int .i64 s6f) (fun o x t H e => match o with | (.inl _) => x = .exit 4 ∧ t 0 = .sl false false p0.length (encL eTDeed p0) ∧ t 5 = .int .i64 s5d | (.inr r) => x = .ret ∧ endM .clean tab none [.tmp 2] ⟨t, H, e⟩ = some (.clean (.int .i64 r), none)) ho44 ?_ ?_ ?_
            ·
              refine ⟨?_, ?_, ?_⟩
              all_goals (first | rfl | (simp only [x_r41_Check, seval, -Int.reduceToNat, t0d, t5d] <;> rfl))
            · rintro s6f t H e ⟨t0f, t5f, t6f⟩ c hh
              simp only [r41_Check_L6] at hh
              obtain ⟨x45, hx45, hh⟩ := bindS hh
              have bx45 := idx_bd hx45
              have ax45 := idx_enc eTDeed hx45
              have fx45 := idx_fit eTDeed hx45
              simp only [vmz] at ax45 fx45
              skip
              try simp only [x_r41_Check, seval, -Int.reduceToNat, t0f, t5f, t6f, bx45, ax45, fx45]
              refine tstC_br (fun hb46 => ?_) (fun hb46 => ?_)
              · replace hh := ite_t hb46 hh
                have bx45 := idx_bd hx45
                have ax45 := idx_enc eTDeed hx45
                have fx45 := idx_fit eTDeed hx45
                simp only [vmz] at ax45 fx45
                skip
                obtain ⟨x47, hx47, hh⟩ := bindS hh
                have bx47 := idx_bd hx47
                have ax47 := idx_enc (eI .i64) hx47
                have fx47 := idx_fit (eI .i64) hx47
                simp only [vmz] at ax47 fx47
                skip
                have bx45 := idx_bd hx45
                have ax45 := idx_enc eTDeed hx45
                have fx45 := idx_fit eTDeed hx45
                simp only [vmz] at ax45 fx45
                skip
                obtain ⟨r48, hr48, hh⟩ := bindS hh
                try simp only [x_r41_Check, seval, -Int.reduceToNat, t0f, t5f, t6f, bx45, ax45, fx45, bx45, ax45, fx45, bx47, ax47, fx47, bx45, ax45, fx45, hr48]
                refine dyn_ok (by kernel_rfl) ?_
                try simp only [x_r41_Check, seval, -Int.reduceToNat, t0f, t5f, t6f, bx45, ax45, fx45, bx45, ax45, fx45, bx47, ax47, fx47, bx45, ax45, fx45, hr48]
                refine tstC_br (fun hb49 => ?_) (fun hb49 => ?_)
                · replace hh := ite_t hb49 hh
                  cases hh
                  try simp only [x_r41_Check, seval, -Int.reduceToNat, t0f, t5f, t6f, bx45, ax45, fx45, bx45, ax45, fx45, bx47, ax47, fx47, bx45, ax45, fx45, hr48]
                  rw [LK_ret]
                  refine ⟨_, rfl, ?_⟩
                  refine ⟨rfl, ?_⟩
                  try simp only [x_r41_Check, seval, -Int.reduceToNat, t0f, t5f, t6f, bx45, ax45, fx45, bx45, ax45, fx45, bx47, ax47, fx47, bx45, ax45, fx45, hr48]
                · replace hh := ite_f hb49 hh
                  cases hh
                  try simp only [x_r41_Check, seval, -Int.reduceToNat, t0f, t5f, t6f, bx45, ax45, fx45, bx45, ax45, fx45, bx47, ax47, fx47, bx45, ax45, fx45, hr48]
                  rw [LK_normal]
                  refine ⟨_, rfl, ?_⟩
                  refine ⟨?_, ?_, ?_⟩
                  all_goals (first | rfl | (simp only [x_r41_Check, seval, -Int.reduceToNat, t0f, t5f, t6f, bx45, ax45, fx45, bx45, ax45, fx45, bx47, ax47, fx47, bx45, ax45, fx45, hr48] <;> rfl))
              · replace hh := ite_f hb46 hh
                cases hh
                try simp only [x_r41_Check, seval, -Int.reduceToNat, t0f, t5f, t6f, bx45, ax45, fx45]
                rw [LK_exit]
                refine ⟨_, rfl, ?_⟩
                refine ⟨rfl, ⟨?_, ?_⟩⟩
                all_goals (first | rfl | (simp only [x_r41_Check, seval, -Int.reduceToNat, t0f, t5f, t6f, bx45, ax45, fx45] <;> rfl))
            · rintro x t H e hx
              rcases o44 with _ | rf
              ·
                dsimp only at hx hh
                obtain ⟨rfl, ⟨t0fx, t5fx⟩⟩ := hx
                cases hh
                try simp only [x_r41_Check, seval, -Int.reduceToNat, t0fx, t5fx]
                rw [LK_normal]
                refine ⟨_, rfl, ?_⟩
                refine ⟨?_, ?_⟩
                all_goals (first | rfl | (simp only [x_r41_Check, seval, -Int.reduceToNat, t0fx, t5fx] <;> rfl))
              ·
                dsimp only at hx hh
                obtain ⟨rfl, hE⟩ := hx
                cases hh
                try simp only [runW_pass_ret, runW_pass_exit, runW_blk_ret, runW_nil, endW_ret]
                rw [LK_ret]
                refine ⟨_, rfl, ?_⟩
                first | exact ⟨rfl, hE⟩ | (simp only [x_r41_Check, seval, -Int.reduceToNat] at hE; exact ⟨rfl, hE⟩)
          · replace hh := ite_f hb38 hh
            cases hh
            try simp only [x_r41_Check, seval, -Int.reduceToNat, t0d, t5d]
            rw [LK_exit]
            refine ⟨_, rfl, ?_⟩
            exact rfl
        · rintro x t H e hx
          rcases o37 with _ | rd
          ·
            dsimp only at hx hh
            subst hx
            cases hh
            try simp only [x_r41_Check, seval, -Int.reduceToNat]
          ·
            dsimp only at hx hh
            obtain ⟨rfl, hE⟩ := hx
            cases hh
            try simp only [runW_pass_ret, runW_pass_exit, runW_blk_ret, runW_nil, endW_ret]
            exact hE
      ·
        dsimp only at hx hh
        obtain ⟨rfl, hE⟩ := hx
        cases hh
        try simp only [runW_pass_ret, runW_pass_exit, runW_blk_ret, runW_nil, endW_ret]
        exact hE

theorem ok_r41_Check : COk Try.prog 10 G_r41_Check := COk.of (mode := .clean) tok ge_r41_Check mixed Try.func10 (by kernel_rfl) ⟨by kernel_rfl, by kernel_rfl⟩ (fun _ => Nat.le_of_ble_eq_true (by kernel_rfl)) (fun x r h => m_r41_Check x r h)

noncomputable def G_r41_Alive := mkG (asC (aSl eTDeed) (asC (aI .i64) (as1 (aI .i64)))) (fun x : (List TDeed) × Int × Int => r41_Alive x.1 x.2.1 x.2.2) (fun r : Bool => .clean (.bool r))

theorem q_r41_Alive (p0 : (List TDeed)) (p1 : Int) (p2 : Int) : G_r41_Alive none [.sl false false p0.length (encL eTDeed p0), .int .i64 p1, .int .i64 p2] = (r41_Alive p0 p1 p2).map fun r : Bool => (.clean (.bool r), none) := mkG_eq _ _ _ (p0, p1, p2)

noncomputable def g_r41_Alive : Env := (Am.ext (Am.ext (Am.ext noEnv 10 false G_r41_Check) 21 false G_r41_Ended) 24 false G_r41_House)

theorem ge_r41_Alive : GOk Try.prog g_r41_Alive := (((GOk.none.add ok_r41_Check false).add ok_r41_Ended false).add ok_r41_House false)

theorem gg_r41_Alive : g_r41_Alive = (Am.ext (Am.ext (Am.ext noEnv 10 false G_r41_Check) 21 false G_r41_Ended) 24 false G_r41_House) := Eq.trans rfl rfl

theorem x_r41_Alive : type_of% (And.intro @w <| And.intro @q_r41_Check <| And.intro @q_r41_Ended <| And.intro @q_r41_House <| @gg_r41_Alive) := And.intro @w <| And.intro @q_r41_Check <| And.intro @q_r41_Ended <| And.intro @q_r41_House <| @gg_r41_Alive

theorem m_r41_Alive (p0 : (List TDeed)) (p1 : Int) (p2 : Int) (r : Bool) (hh : r41_Alive p0 p1 p2 = some r) : vfunc .clean tab g_r41_Alive FU Try.f12 none [.sl false false p0.length (encL eTDeed p0), .int .i64 p1, .int .i64 p2] = some (.clean (.bool r), none) := by
  refine vfunc_of rfl Try.ntmps12 Try.results12 ?_
  unfold r41_Alive at hh
  obtain ⟨r1, hr1, hh⟩ := bindS hh
  try simp only [x_r41_Alive, seval, -Int.reduceToNat, hr1]
  refine tstO_br (fun hb2 => ?_) (fun hb2 => ?_)
  · replace hh := ite_t hb2 hh
    obtain ⟨r3, hr3, hh⟩ := bindS hh
    try simp only [x_r41_Alive, seval, -Int.reduceToNat, hr1, hr3]
    refine tstO_br (fun hb4 => ?_) (fun hb4 => ?_)
    · replace hh := ite_t hb4 hh
      obtain ⟨r5, hr5, hh⟩ := bindS hh
      cases hh
      try simp only [x_r41_Alive, seval, -Int.reduceToNat, hr1, hr3, hr5]
    · replace hh := ite_f hb4 hh
      cases hh
      try simp only [x_r41_Alive, seval, -Int.reduceToNat, hr1, hr3]
  · replace hh := ite_f hb2 hh
    cases hh
    try simp only [x_r41_Alive, seval, -Int.reduceToNat, hr1]

theorem ok_r41_Alive : COk Try.prog 12 G_r41_Alive := COk.of (mode := .clean) tok ge_r41_Alive mixed Try.func12 (by kernel_rfl) ⟨by kernel_rfl, by kernel_rfl⟩ (fun _ => Nat.le_of_ble_eq_true (by kernel_rfl)) (fun x r h => m_r41_Alive x.1 x.2.1 x.2.2 r h)

noncomputable def G_r41_Answers := mkG (asC (aSl eTDeed) (asC (aI .i64) (as1 (aI .i64)))) (fun x : (List TDeed) × Int × Int => r41_Answers x.1 x.2.1 x.2.2) (fun r : (List Int) => .clean (.sl false false r.length (encL (eI .i64) r)))

theorem q_r41_Answers (p0 : (List TDeed)) (p1 : Int) (p2 : Int) : G_r41_Answers none [.sl false false p0.length (encL eTDeed p0), .int .i64 p1, .int .i64 p2] = (r41_Answers p0 p1 p2).map fun r : (List Int) => (.clean (.sl false false r.length (encL (eI .i64) r)), none) := mkG_eq _ _ _ (p0, p1, p2)

noncomputable def g_r41_Answers : Env := (Am.ext (Am.ext (Am.ext noEnv 10 false G_r41_Check) 21 false G_r41_Ended) 24 false G_r41_House)

theorem ge_r41_Answers : GOk Try.prog g_r41_Answers := (((GOk.none.add ok_r41_Check false).add ok_r41_Ended false).add ok_r41_House false)

theorem gg_r41_Answers : g_r41_Answers = (Am.ext (Am.ext (Am.ext noEnv 10 false G_r41_Check) 21 false G_r41_Ended) 24 false G_r41_House) := Eq.trans rfl rfl

theorem x_r41_Answers : type_of% (And.intro @w <| And.intro @q_r41_Check <| And.intro @q_r41_Ended <| And.intro @q_r41_House <| @gg_r41_Answers) := And.intro @w <| And.intro @q_r41_Check <| And.intro @q_r41_Ended <| And.intro @q_r41_House <| @gg_r41_Answers

theorem m_r41_Answers (p0 : (List TDeed)) (p1 : Int) (p2 : Int) (r : (List Int)) (hh : r41_Answers p0 p1 p2 = some r) : vfunc .clean tab g_r41_Answers FU Try.f15 none [.sl false false p0.length (encL eTDeed p0), .int .i64 p1, .int .i64 p2] = some (.clean (.sl false false r.length (encL (eI .i64) r)), none) := by
  refine vfunc_of rfl Try.ntmps15 Try.results15 ?_
  unfold r41_Answers at hh
  obtain ⟨r1, hr1, hh⟩ := bindS hh
  try simp only [x_r41_Answers, seval, -Int.reduceToNat, hr1]
  obtain ⟨o2, ho2, hh⟩ := bindS hh
  refine tstO_cut 0 (fun s t H e => match s with | s20j1 => t 0 = .sl false false p0.length (encL eTDeed p0) ∧ t 1 = .int .i64 p1 ∧ t 2 = .int .i64 p2 ∧ t 20 = .bool s20j1) (fun s => s = o2) ?_ ?_
  · rintro s20j1 t H e ⟨t0j1, t1j1, t2j1, t20j1⟩ rfl
    try dsimp only at hh
    try simp only [x_r41_Answers, seval, -Int.reduceToNat, hr1, t0j1, t1j1, t2j1, t20j1]
    refine tstC_br (fun hb3 => ?_) (fun hb3 => ?_)
    · replace hh := ite_t hb3 hh
      cases hh
      try simp only [x_r41_Answers, seval, -Int.reduceToNat, hr1, t0j1, t1j1, t2j1, t20j1]
    · replace hh := ite_f hb3 hh
      obtain ⟨x4, hx4, hh⟩ := bindS hh
      obtain ⟨q5a, q5b, q5c, q5d, q5e⟩ := mk_one eBool hx4
      simp only [vmz] at q5d
      obtain ⟨x6, hx6, hh⟩ := bindS hh
      have bx6 := idx_bd hx6
      have ax6 := idx_enc eBool hx6
      have fx6 := idx_fit eBool hx6
      simp only [vmz] at ax6 fx6
      skip
      have p7 := put_enc eBool (x' := true) (fo := 0) (cs := [.bool true]) hx6 rfl (Nat.le_of_ble_eq_true rfl)
      simp only [vmz, Nat.add_zero] at p7
      have up7 := p7
      simp only [putCells, List.length_cons, List.length_nil, Nat.zero_add, Nat.reduceAdd] at up7
      try simp only [x_r41_Answers, seval, -Int.reduceToNat, hr1, t0j1, t1j1, t2j1, t20j1, q5a, q5b, q5c, q5d, q5e, bx6, ax6, fx6, p7, up7]
      obtain ⟨o46, ho46, hh⟩ := bindS hh
      refine runLoop_sim (fun s t H e => match s with | (s8b, l7b) => ∃ v7b : Nat, t 0 = .sl false false p0.length (encL eTDeed p0) ∧ t 2 = .int .i64 p2 ∧ t 7 = .buf 7 v7b 1 0 (l7b).length ∧ t 8 = .bool s8b ∧ H 7 = some ⟨v7b, 4, encL eBool l7b, false, true, false⟩) (fun o x t H e => match o with | l7bx => x = .exit 0 ∧ ∃ v7bx : Nat, t 0 = .sl false false p0.length (encL eTDeed p0) ∧ t 2 = .int .i64 p2 ∧ t 7 = .buf 7 v7bx 1 0 (l7bx).length ∧ H 7 = some ⟨v7bx, 4, encL eBool l7bx, false, true, false⟩) ho46 ?_ ?_ ?_
      ·
        refine ⟨e, ?_, ?_, ?_, ?_, ?_⟩
        all_goals (first | rfl | (simp only [x_r41_Answers, seval, -Int.reduceToNat, hr1, t0j1, t1j1, t2j1, t20j1, q5a, q5b, q5c, q5d, q5e, bx6, ax6, fx6, p7, up7] <;> rfl))
      · rintro ⟨s8b, l7b⟩ t H e ⟨v7b, t0b, t2b, t7b, t8b, H7b⟩ c hh
        simp only [r41_Answers_L2] at hh
        try simp only [x_r41_Answers, seval, -Int.reduceToNat, hr1, q5a, q5b, q5c, q5d, q5e, bx6, ax6, fx6, p7, up7, t0b, t2b, t7b, t8b, H7b]
        refine tstC_br (fun hb47 => ?_) (fun hb47 => ?_)
        · replace hh := ite_t hb47 hh
          try simp only [x_r41_Answers, seval, -Int.reduceToNat, hr1, q5a, q5b, q5c, q5d, q5e, bx6, ax6, fx6, p7, up7, t0b, t2b, t7b, t8b, H7b]
          obtain ⟨o66, ho66, hh⟩ := bindS hh
          refine runLoop_sim (fun s t H e => match s with | (s8h, s9h, l7h) => ∃ v7h : Nat, t 0 = .sl false false p0.length (encL eTDeed p0) ∧ t 2 = .int .i64 p2 ∧ t 7 = .buf 7 v7h 1 0 (l7h).length ∧ t 8 = .bool s8h ∧ t 9 = .int .i64 s9h ∧ H 7 = some ⟨v7h, 4, encL eBool l7h, false, true, false⟩) (fun o x t H e => match o with | (s8hx, l7hx) => x = .exit 2 ∧ ∃ v7hx : Nat, t 0 = .sl false false p0.length (encL eTDeed p0) ∧ t 2 = .int .i64 p2 ∧ t 7 = .buf 7 v7hx 1 0 (l7hx).length ∧ t 8 = .bool s8hx ∧ H 7 = some ⟨v7hx, 4, encL eBool l7hx, false, true, false⟩) ho66 ?_ ?_ ?_
          ·
            refine ⟨v7b, ?_, ?_, ?_, ?_, ?_, ?_⟩
            all_goals (first | rfl | (simp only [x_r41_Answers, seval, -Int.reduceToNat, hr1, q5a, q5b, q5c, q5d, q5e, bx6, ax6, fx6, p7, up7, t0b, t2b, t7b, t8b, H7b] <;> rfl))
          · rintro ⟨s8h, s9h, l7h⟩ t H e ⟨v7h, t0h, t2h, t7h, t8h, t9h, H7h⟩ c hh
            simp only [r41_Answers_L8] at hh
            try simp only [x_r41_Answers, seval, -Int.reduceToNat, hr1, q5a, q5b, q5c, q5d, q5e, bx6, ax6, fx6, p7, up7, t0h, t2h, t7h, t8h, t9h, H7h]
            refine tstC_br (fun hb67 => ?_) (fun hb67 => ?_)
            · replace hh := ite_t hb67 hh
              obtain ⟨x68, hx68, hh⟩ := bindS hh
              have bx68 := idx_bd hx68
              have ax68 := idx_enc eTDeed hx68
              have fx68 := idx_fit eTDeed hx68
              simp only [vmz] at ax68 fx68
              skip
              obtain ⟨x69, hx69, hh⟩ := bindS hh
              have bx69 := idx_bd hx69
              have ax69 := idx_enc eBool hx69
              have fx69 := idx_fit eBool hx69
              simp only [vmz] at ax69 fx69
              skip
              try simp only [x_r41_Answers, seval, -Int.reduceToNat, hr1, q5a, q5b, q5c, q5d, q5e, bx6, ax6, fx6, p7, up7, t0h, t2h, t7h, t8h, t9h, H7h, bx68, ax68, fx68, bx69, ax69, fx69]
              obtain ⟨o70, ho70, hh⟩ := bindS hh
              refine tstO_cut 0 (fun s t H e => match s with | s49j11 => ∃ v7j11 : Nat, t 0 = .sl false false p0.length (encL eTDeed p0) ∧ t 2 = .int .i64 p2 ∧ t 7 = .buf 7 v7j11 1 0 (l7h).length ∧ t 8 = .bool s8h ∧ t 9 = .int .i64 s9h ∧ t 49 = .bool s49j11 ∧ H 7 = some ⟨v7j11, 4, encL eBool l7h, false, true, false⟩) (fun s => s = o70) ?_ ?_
              · rintro s49j11 t H e ⟨v7j11, t0j11, t2j11, t7j11, t8j11, t9j11, t49j11, H7j11⟩ rfl
                try dsimp only at hh
                try simp only [x_r41_Answers, seval, -Int.reduceToNat, hr1, q5a, q5b, q5c, q5d, q5e, bx6, ax6, fx6, p7, up7, bx68, ax68, fx68, bx69, ax69, fx69, t0j11, t2j11, t7j11, t8j11, t9j11, t49j11, H7j11]
                refine tstC_br (fun hb71 => ?_) (fun hb71 => ?_)
                · replace hh := ite_t hb71 hh
                  cases hh
                  try simp only [x_r41_Answers, seval, -Int.reduceToNat, hr1, q5a, q5b, q5c, q5d, q5e, bx6, ax6, fx6, p7, up7, bx68, ax68, fx68, bx69, ax69, fx69, t0j11, t2j11, t7j11, t8j11, t9j11, t49j11, H7j11]
                  rw [LK_normal]
                  refine ⟨_, rfl, ?_⟩
                  refine ⟨v7j11, ?_, ?_, ?_, ?_, ?_, ?_⟩
                  all_goals (first | rfl | (simp only [x_r41_Answers, seval, -Int.reduceToNat, hr1, q5a, q5b, q5c, q5d, q5e, bx6, ax6, fx6, p7, up7, bx68, ax68, fx68, bx69, ax69, fx69, t0j11, t2j11, t7j11, t8j11, t9j11, t49j11, H7j11] <;> rfl))
                · replace hh := ite_f hb71 hh
                  try simp only [x_r41_Answers, seval, -Int.reduceToNat, hr1, q5a, q5b, q5c, q5d, q5e, bx6, ax6, fx6, p7, up7, bx68, ax68, fx68, bx69, ax69, fx69, t0j11, t2j11, t7j11, t8j11, t9j11, t49j11, H7j11]
                  obtain ⟨o78, ho78, hh⟩ := bindS hh
                  refine runLoop_sim (fun s t H e => match s with | (s8l, s10l, l7l) => ∃ v7l : Nat, t 0 = .sl false false p0.length (encL eTDeed p0) ∧ t 2 = .int .i64 p2 ∧ t 7 = .buf 7 v7l 1 0 (l7l).length ∧ t 8 = .bool s8l ∧ t 9 = .int .i64 s9h ∧ t 10 = .int .i64 s10l ∧ H 7 = some ⟨v7l, 4, encL eBool l7l, false, true, false⟩) (fun o x t H e => match o with | (s8lx, l7lx) => x = .exit 4 ∧ ∃ v7lx : Nat, t 0 = .sl false false p0.length (encL eTDeed p0) ∧ t 2 = .int .i64 p2 ∧ t 7 = .buf 7 v7lx 1 0 (l7lx).length ∧ t 8 = .bool s8lx ∧ t 9 = .int .i64 s9h ∧ H 7 = some ⟨v7lx, 4, encL eBool l7lx, false, true, false⟩) ho78 ?_ ?_ ?_
                  ·
                    refine ⟨v7j11, ?_, ?_, ?_, ?_, ?_, ?_, ?_⟩
                    all_goals (first | rfl | (simp only [x_r41_Answers, seval, -Int.reduceToNat, hr1, q5a, q5b, q5c, q5d, q5e, bx6, ax6, fx6, p7, up7, bx68, ax68, fx68, bx69, ax69, fx69, t0j11, t2j11, t7j11, t8j11, t9j11, t49j11, H7j11] <;> rfl))
                  · rintro ⟨s8l, s10l, l7l⟩ t H e ⟨v7l, t0l, t2l, t7l, t8l, t9l, t10l, H7l⟩ c hh
                    simp only [r41_Answers_L12] at hh
                    have bx68 := idx_bd hx68
                    have ax68 := idx_enc eTDeed hx68
                    have fx68 := idx_fit eTDeed hx68
                    simp only [vmz] at ax68 fx68
                    skip
                    try simp only [x_r41_Answers, seval, -Int.reduceToNat, hr1, q5a, q5b, q5c, q5d, q5e, bx6, ax6, fx6, p7, up7, bx68, ax68, fx68, bx69, ax69, fx69, t0l, t2l, t7l, t8l, t9l, t10l, H7l, bx68, ax68, fx68]
                    refine tstC_br (fun hb79 => ?_) (fun hb79 => ?_)
                    · replace hh := ite_t hb79 hh
                      have bx68 := idx_bd hx68
                      have ax68 := idx_enc eTDeed hx68
                      have fx68 := idx_fit eTDeed hx68
                      simp only [vmz] at ax68 fx68
                      skip
                      obtain ⟨x80, hx80, hh⟩ := bindS hh
                      have bx80 := idx_bd hx80
                      have ax80 := idx_enc (eI .i64) hx80
                      have fx80 := idx_fit (eI .i64) hx80
                      simp only [vmz] at ax80 fx80
                      skip
                      obtain ⟨x81, hx81, hh⟩ := bindS hh
                      have bx81 := idx_bd hx81
                      have ax81 := idx_enc eBool hx81
                      have fx81 := idx_fit eBool hx81
                      simp only [vmz] at ax81 fx81
                      skip
                      try simp only [x_r41_Answers, seval, -Int.reduceToNat, hr1, q5a, q5b, q5c, q5d, q5e, bx6, ax6, fx6, p7, up7, bx68, ax68, fx68, bx69, ax69, fx69, t0l, t2l, t7l, t8l, t9l, t10l, H7l, bx68, ax68, fx68, bx68, ax68, fx68, bx80, ax80, fx80, bx81, ax81, fx81]
                      refine tstC_br (fun hb82 => ?_) (fun hb82 => ?_)
                      · replace hh := ite_t hb82 hh
                        have bx68 := idx_bd hx68
                        have ax68 := idx_enc eTDeed hx68
                        have fx68 := idx_fit eTDeed hx68
                        simp only [vmz] at ax68 fx68
                        skip
                        have bx80 := idx_bd hx80
                        have ax80 := idx_enc (eI .i64) hx80
                        have fx80 := idx_fit (eI .i64) hx80
                        simp only [vmz] at ax80 fx80
                        skip
                        have bx81 := idx_bd hx81
                        have ax81 := idx_enc eBool hx81
                        have fx81 := idx_fit eBool hx81
                        simp only [vmz] at ax81 fx81
                        skip
                        have p83 := put_enc eBool (x' := true) (fo := 0) (cs := [.bool true]) hx81 rfl (Nat.le_of_ble_eq_true rfl)
                        simp only [vmz, Nat.add_zero] at p83
                        have up83 := p83
                        simp only [putCells, List.length_cons, List.length_nil, Nat.zero_add, Nat.reduceAdd] at up83
                        cases hh
                        try simp only [x_r41_Answers, seval, -Int.reduceToNat, hr1, q5a, q5b, q5c, q5d, q5e, bx6, ax6, fx6, p7, up7, bx68, ax68, fx68, bx69, ax69, fx69, t0l, t2l, t7l, t8l, t9l, t10l, H7l, bx68, ax68, fx68, bx68, ax68, fx68, bx80, ax80, fx80, bx81, ax81, fx81, bx68, ax68, fx68, bx80, ax80, fx80, bx81, ax81, fx81, p83, up83]
                        rw [LK_normal]
                        refine ⟨_, rfl, ?_⟩
                        refine ⟨v7l, ?_, ?_, ?_, ?_, ?_, ?_, ?_⟩
                        all_goals (first | rfl | (simp only [x_r41_Answers, seval, -Int.reduceToNat, hr1, q5a, q5b, q5c, q5d, q5e, bx6, ax6, fx6, p7, up7, bx68, ax68, fx68, bx69, ax69, fx69, t0l, t2l, t7l, t8l, t9l, t10l, H7l, bx68, ax68, fx68, bx68, ax68, fx68, bx80, ax80, fx80, bx81, ax81, fx81, bx68, ax68, fx68, bx80, ax80, fx80, bx81, ax81, fx81, p83, up83] <;> rfl))
                      · replace hh := ite_f hb82 hh
                        cases hh
                        try simp only [x_r41_Answers, seval, -Int.reduceToNat, hr1, q5a, q5b, q5c, q5d, q5e, bx6, ax6, fx6, p7, up7, bx68, ax68, fx68, bx69, ax69, fx69, t0l, t2l, t7l, t8l, t9l, t10l, H7l, bx68, ax68, fx68, bx68, ax68, fx68, bx80, ax80, fx80, bx81, ax81, fx81]
                        rw [LK_normal]
                        refine ⟨_, rfl, ?_⟩
                        refine ⟨v7l, ?_, ?_, ?_, ?_, ?_, ?_, ?_⟩
                        all_goals (first | rfl | (simp only [x_r41_Answers, seval, -Int.reduceToNat, hr1, q5a, q5b, q5c, q5d, q5e, bx6, ax6, fx6, p7, up7, bx68, ax68, fx68, bx69, ax69, fx69, t0l, t2l, t7l, t8l, t9l, t10l, H7l, bx68, ax68, fx68, bx68, ax68, fx68, bx80, ax80, fx80, bx81, ax81, fx81] <;> rfl))
                    · replace hh := ite_f hb79 hh
                      cases hh
                      try simp only [x_r41_Answers, seval, -Int.reduceToNat, hr1, q5a, q5b, q5c, q5d, q5e, bx6, ax6, fx6, p7, up7, bx68, ax68, fx68, bx69, ax69, fx69, t0l, t2l, t7l, t8l, t9l, t10l, H7l, bx68, ax68, fx68]
                      rw [LK_exit]
                      refine ⟨_, rfl, ?_⟩
                      refine ⟨rfl, ⟨v7l, ?_, ?_, ?_, ?_, ?_, ?_⟩⟩
                      all_goals (first | rfl | (simp only [x_r41_Answers, seval, -Int.reduceToNat, hr1, q5a, q5b, q5c, q5d, q5e, bx6, ax6, fx6, p7, up7, bx68, ax68, fx68, bx69, ax69, fx69, t0l, t2l, t7l, t8l, t9l, t10l, H7l, bx68, ax68, fx68] <;> rfl))
                  · rintro x t H e hx
                    rcases o78 with ⟨s8lx, l7lx⟩
                    dsimp only at hx hh
                    obtain ⟨rfl, ⟨v7lx, t0lx, t2lx, t7lx, t8lx, t9lx, H7lx⟩⟩ := hx
                    cases hh
                    try simp only [x_r41_Answers, seval, -Int.reduceToNat, hr1, q5a, q5b, q5c, q5d, q5e, bx6, ax6, fx6, p7, up7, bx68, ax68, fx68, bx69, ax69, fx69, t0lx, t2lx, t7lx, t8lx, t9lx, H7lx]
                    rw [LK_normal]
                    refine ⟨_, rfl, ?_⟩
                    refine ⟨v7lx, ?_, ?_, ?_, ?_, ?_, ?_⟩
                    all_goals (first | rfl | (simp only [x_r41_Answers, seval, -Int.reduceToNat, hr1, q5a, q5b, q5c, q5d, q5e, bx6, ax6, fx6, p7, up7, bx68, ax68, fx68, bx69, ax69, fx69, t0lx, t2lx, t7lx, t8lx, t9lx, H7lx] <;> rfl))
              ·
                clear hh
                have hh := ho70
                try simp only [x_r41_Answers, seval, -Int.reduceToNat, hr1, q5a, q5b, q5c, q5d, q5e, bx6, ax6, fx6, p7, up7, t0h, t2h, t7h, t8h, t9h, H7h, bx68, ax68, fx68, bx69, ax69, fx69]
                refine tstO_br' (fun hb84 => ?_) (fun hb84 => ?_)
                · replace hh := ite_t hb84 hh
                  cases hh
                  try simp only [x_r41_Answers, seval, -Int.reduceToNat, hr1, q5a, q5b, q5c, q5d, q5e, bx6, ax6, fx6, p7, up7, t0h, t2h, t7h, t8h, t9h, H7h, bx68, ax68, fx68, bx69, ax69, fx69]
                  rw [CK_normal]
                  refine ⟨_, rfl, ?_⟩
                  refine ⟨v7h, ?_, ?_, ?_, ?_, ?_, ?_, ?_⟩
                  all_goals (first | rfl | (simp only [x_r41_Answers, seval, -Int.reduceToNat, hr1, q5a, q5b, q5c, q5d, q5e, bx6, ax6, fx6, p7, up7, t0h, t2h, t7h, t8h, t9h, H7h, bx68, ax68, fx68, bx69, ax69, fx69] <;> rfl))
                · replace hh := ite_f hb84 hh
                  have bx68 := idx_bd hx68
                  have ax68 := idx_enc eTDeed hx68
                  have fx68 := idx_fit eTDeed hx68
                  simp only [vmz] at ax68 fx68
                  skip
                  cases hh
                  try simp only [x_r41_Answers, seval, -Int.reduceToNat, hr1, q5a, q5b, q5c, q5d, q5e, bx6, ax6, fx6, p7, up7, t0h, t2h, t7h, t8h, t9h, H7h, bx68, ax68, fx68, bx69, ax69, fx69, bx68, ax68, fx68]
                  rw [CK_normal]
                  refine ⟨_, rfl, ?_⟩
                  refine ⟨v7h, ?_, ?_, ?_, ?_, ?_, ?_, ?_⟩
                  all_goals (first | rfl | (simp only [x_r41_Answers, seval, -Int.reduceToNat, hr1, q5a, q5b, q5c, q5d, q5e, bx6, ax6, fx6, p7, up7, t0h, t2h, t7h, t8h, t9h, H7h, bx68, ax68, fx68, bx69, ax69, fx69, bx68, ax68, fx68] <;> rfl))
            · replace hh := ite_f hb67 hh
              cases hh
              try simp only [x_r41_Answers, seval, -Int.reduceToNat, hr1, q5a, q5b, q5c, q5d, q5e, bx6, ax6, fx6, p7, up7, t0h, t2h, t7h, t8h, t9h, H7h]
              rw [LK_exit]
              refine ⟨_, rfl, ?_⟩
              refine ⟨rfl, ⟨v7h, ?_, ?_, ?_, ?_, ?_⟩⟩
              all_goals (first | rfl | (simp only [x_r41_Answers, seval, -Int.reduceToNat, hr1, q5a, q5b, q5c, q5d, q5e, bx6, ax6, fx6, p7, up7, t0h, t2h, t7h, t8h, t9h, H7h] <;> rfl))
          · rintro x t H e hx
            rcases o66 with ⟨s8hx, l7hx⟩
            dsimp only at hx hh
            obtain ⟨rfl, ⟨v7hx, t0hx, t2hx, t7hx, t8hx, H7hx⟩⟩ := hx
            cases hh
            try simp only [x_r41_Answers, seval, -Int.reduceToNat, hr1, q5a, q5b, q5c, q5d, q5e, bx6, ax6, fx6, p7, up7, t0hx, t2hx, t7hx, t8hx, H7hx]
            rw [LK_normal]
            refine ⟨_, rfl, ?_⟩
            refine ⟨v7hx, ?_, ?_, ?_, ?_, ?_⟩
            all_goals (first | rfl | (simp only [x_r41_Answers, seval, -Int.reduceToNat, hr1, q5a, q5b, q5c, q5d, q5e, bx6, ax6, fx6, p7, up7, t0hx, t2hx, t7hx, t8hx, H7hx] <;> rfl))
        · replace hh := ite_f hb47 hh
          cases hh
          try simp only [x_r41_Answers, seval, -Int.reduceToNat, hr1, q5a, q5b, q5c, q5d, q5e, bx6, ax6, fx6, p7, up7, t0b, t2b, t7b, t8b, H7b]
          rw [LK_exit]
          refine ⟨_, rfl, ?_⟩
          refine ⟨rfl, ⟨v7b, ?_, ?_, ?_, ?_⟩⟩
          all_goals (first | rfl | (simp only [x_r41_Answers, seval, -Int.reduceToNat, hr1, q5a, q5b, q5c, q5d, q5e, bx6, ax6, fx6, p7, up7, t0b, t2b, t7b, t8b, H7b] <;> rfl))
      · rintro x t H e hx
        obtain ⟨l7bx, rfl⟩ : ∃ z, z = o46 := ⟨_, rfl⟩
        dsimp only at hx hh
        obtain ⟨rfl, ⟨v7bx, t0bx, t2bx, t7bx, H7bx⟩⟩ := hx
        try simp only [x_r41_Answers, seval, -Int.reduceToNat, hr1, q5a, q5b, q5c, q5d, q5e, bx6, ax6, fx6, p7, up7, t0bx, t2bx, t7bx, H7bx]
        obtain ⟨o92, ho92, hh⟩ := bindS hh
        refine runLoop_sim (fun s t H e => match s with | (s12m, l11m) => ∃ v7m : Nat, ∃ v11m : Nat, t 0 = .sl false false p0.length (encL eTDeed p0) ∧ t 2 = .int .i64 p2 ∧ t 7 = .buf 7 v7m 1 0 (l7bx).length ∧ t 11 = .buf 11 v11m 1 0 (l11m).length ∧ t 12 = .int .i64 s12m ∧ H 7 = some ⟨v7m, 4, encL eBool l7bx, false, true, false⟩ ∧ H 11 = some ⟨v11m, 3, encL (eI .i64) l11m, false, true, false⟩) (fun o x t H e => match o with | l11mx => x = .exit 6 ∧ ∃ v11mx : Nat, t 11 = .buf 11 v11mx 1 0 (l11mx).length ∧ H 11 = some ⟨v11mx, 3, encL (eI .i64) l11mx, false, true, false⟩) ho92 ?_ ?_ ?_
        ·
          refine ⟨v7bx, e, ?_, ?_, ?_, ?_, ?_, ?_, ?_⟩
          all_goals (first | rfl | (simp only [x_r41_Answers, seval, -Int.reduceToNat, hr1, q5a, q5b, q5c, q5d, q5e, bx6, ax6, fx6, p7, up7, t0bx, t2bx, t7bx, H7bx] <;> rfl))
        · rintro ⟨s12m, l11m⟩ t H e ⟨v7m, v11m, t0m, t2m, t7m, t11m, t12m, H7m, H11m⟩ c hh
          simp only [r41_Answers_L13] at hh
          try simp only [x_r41_Answers, seval, -Int.reduceToNat, hr1, q5a, q5b, q5c, q5d, q5e, bx6, ax6, fx6, p7, up7, t0m, t2m, t7m, t11m, t12m, H7m, H11m]
          refine tstC_br (fun hb93 => ?_) (fun hb93 => ?_)
          · replace hh := ite_t hb93 hh
            obtain ⟨x94, hx94, hh⟩ := bindS hh
            have bx94 := idx_bd hx94
            have ax94 := idx_enc eBool hx94
            have fx94 := idx_fit eBool hx94
            simp only [vmz] at ax94 fx94
            skip
            try simp only [x_r41_Answers, seval, -Int.reduceToNat, hr1, q5a, q5b, q5c, q5d, q5e, bx6, ax6, fx6, p7, up7, t0m, t2m, t7m, t11m, t12m, H7m, H11m, bx94, ax94, fx94]
            refine tstO_br (fun hb95 => ?_) (fun hb95 => ?_)
            · replace hh := ite_t hb95 hh
              obtain ⟨r96, hr96, hh⟩ := bindS hh
              try simp only [x_r41_Answers, seval, -Int.reduceToNat, hr1, q5a, q5b, q5c, q5d, q5e, bx6, ax6, fx6, p7, up7, t0m, t2m, t7m, t11m, t12m, H7m, H11m, bx94, ax94, fx94, hr96]
              refine tstC_br (fun hb97 => ?_) (fun hb97 => ?_)
              · replace hh := ite_t hb97 hh
                obtain ⟨x98, hx98, hh⟩ := bindS hh
                obtain ⟨q99a, q99b, q99c, q99d⟩ := app_one (eI .i64) hx98
                simp only [vmz] at q99b
                cases hh
                try simp only [x_r41_Answers, seval, -Int.reduceToNat, hr1, q5a, q5b, q5c, q5d, q5e, bx6, ax6, fx6, p7, up7, t0m, t2m, t7m, t11m, t12m, H7m, H11m, bx94, ax94, fx94, hr96, q99a, q99b, q99c, q99d]
                rw [LK_normal]
                refine ⟨_, rfl, ?_⟩
                refine ⟨v7m, e + 1 + 1, ?_, ?_, ?_, ?_, ?_, ?_, ?_⟩
                all_goals (first | rfl | (simp only [x_r41_Answers, seval, -Int.reduceToNat, hr1, q5a, q5b, q5c, q5d, q5e, bx6, ax6, fx6, p7, up7, t0m, t2m, t7m, t11m, t12m, H7m, H11m, bx94, ax94, fx94, hr96, q99a, q99b, q99c, q99d] <;> rfl))
              · replace hh := ite_f hb97 hh
                cases hh
                try simp only [x_r41_Answers, seval, -Int.reduceToNat, hr1, q5a, q5b, q5c, q5d, q5e, bx6, ax6, fx6, p7, up7, t0m, t2m, t7m, t11m, t12m, H7m, H11m, bx94, ax94, fx94, hr96]
                rw [LK_normal]
                refine ⟨_, rfl, ?_⟩
                refine ⟨v7m, v11m, ?_, ?_, ?_, ?_, ?_, ?_, ?_⟩
                all_goals (first | rfl | (simp only [x_r41_Answers, seval, -Int.reduceToNat, hr1, q5a, q5b, q5c, q5d, q5e, bx6, ax6, fx6, p7, up7, t0m, t2m, t7m, t11m, t12m, H7m, H11m, bx94, ax94, fx94, hr96] <;> rfl))
            · replace hh := ite_f hb95 hh
              cases hh
              try simp only [x_r41_Answers, seval, -Int.reduceToNat, hr1, q5a, q5b, q5c, q5d, q5e, bx6, ax6, fx6, p7, up7, t0m, t2m, t7m, t11m, t12m, H7m, H11m, bx94, ax94, fx94]
              rw [LK_normal]
              refine ⟨_, rfl, ?_⟩
              refine ⟨v7m, v11m, ?_, ?_, ?_, ?_, ?_, ?_, ?_⟩
              all_goals (first | rfl | (simp only [x_r41_Answers, seval, -Int.reduceToNat, hr1, q5a, q5b, q5c, q5d, q5e, bx6, ax6, fx6, p7, up7, t0m, t2m, t7m, t11m, t12m, H7m, H11m, bx94, ax94, fx94] <;> rfl))
          · replace hh := ite_f hb93 hh
            cases hh
            try simp only [x_r41_Answers, seval, -Int.reduceToNat, hr1, q5a, q5b, q5c, q5d, q5e, bx6, ax6, fx6, p7, up7, t0m, t2m, t7m, t11m, t12m, H7m, H11m]
            rw [LK_exit]
            refine ⟨_, rfl, ?_⟩
            refine ⟨rfl, ⟨v11m, ?_, ?_⟩⟩
            all_goals (first | rfl | (simp only [x_r41_Answers, seval, -Int.reduceToNat, hr1, q5a, q5b, q5c, q5d, q5e, bx6, ax6, fx6, p7, up7, t0m, t2m, t7m, t11m, t12m, H7m, H11m] <;> rfl))
        · rintro x t H e hx
          obtain ⟨l11mx, rfl⟩ : ∃ z, z = o92 := ⟨_, rfl⟩
          dsimp only at hx hh
          obtain ⟨rfl, ⟨v11mx, t11mx, H11mx⟩⟩ := hx
          cases hh
          try simp only [x_r41_Answers, seval, -Int.reduceToNat, hr1, q5a, q5b, q5c, q5d, q5e, bx6, ax6, fx6, p7, up7, t11mx, H11mx]
  ·
    clear hh
    have hh := ho2
    try simp only [x_r41_Answers, seval, -Int.reduceToNat, hr1]
    refine tstO_br' (fun hb100 => ?_) (fun hb100 => ?_)
    · replace hh := ite_t hb100 hh
      cases hh
      try simp only [x_r41_Answers, seval, -Int.reduceToNat, hr1]
      rw [CK_normal]
      refine ⟨_, rfl, ?_⟩
      refine ⟨?_, ?_, ?_, ?_⟩
      all_goals (first | rfl | (simp only [x_r41_Answers, seval, -Int.reduceToNat, hr1] <;> rfl))
    · replace hh := ite_f hb100 hh
      obtain ⟨r101, hr101, hh⟩ := bindS hh
      cases hh
      try simp only [x_r41_Answers, seval, -Int.reduceToNat, hr1, hr101]
      rw [CK_normal]
      refine ⟨_, rfl, ?_⟩
      refine ⟨?_, ?_, ?_, ?_⟩
      all_goals (first | rfl | (simp only [x_r41_Answers, seval, -Int.reduceToNat, hr1, hr101] <;> rfl))

theorem ok_r41_Answers : COk Try.prog 15 G_r41_Answers := COk.of (mode := .clean) tok ge_r41_Answers mixed Try.func15 (by kernel_rfl) ⟨by kernel_rfl, by kernel_rfl⟩ (fun _ => Nat.le_of_ble_eq_true (by kernel_rfl)) (fun x r h => m_r41_Answers x.1 x.2.1 x.2.2 r h)

noncomputable def G_l41_FirmTells := mkG (asC (aSl eTDeed) (asC (aI .i64) (as1 (aI .i64)))) (fun x : (List TDeed) × Int × Int => l41_FirmTells x.1 x.2.1 x.2.2) (fun r : Bool => .clean (.bool r))

theorem q_l41_FirmTells (p0 : (List TDeed)) (p1 : Int) (p2 : Int) : G_l41_FirmTells none [.sl false false p0.length (encL eTDeed p0), .int .i64 p1, .int .i64 p2] = (l41_FirmTells p0 p1 p2).map fun r : Bool => (.clean (.bool r), none) := mkG_eq _ _ _ (p0, p1, p2)

noncomputable def g_l41_FirmTells : Env := (Am.ext (Am.ext (Am.ext (Am.ext (Am.ext (Am.ext (Am.ext (Am.ext (Am.ext noEnv 7 false G_l41_sane) 8 false G_r41_Few) 9 false G_firm_Check) 10 false G_r41_Check) 11 false G_firm_Alive) 12 false G_r41_Alive) 13 false G_r41_Same) 14 false G_firm_Answers) 15 false G_r41_Answers)

theorem ge_l41_FirmTells : GOk Try.prog g_l41_FirmTells := (((((((((GOk.none.add ok_l41_sane false).add ok_r41_Few false).add ok_firm_Check false).add ok_r41_Check false).add ok_firm_Alive false).add ok_r41_Alive false).add ok_r41_Same false).add ok_firm_Answers false).add ok_r41_Answers false)

theorem gg_l41_FirmTells : g_l41_FirmTells = (Am.ext (Am.ext (Am.ext (Am.ext (Am.ext (Am.ext (Am.ext (Am.ext (Am.ext noEnv 7 false G_l41_sane) 8 false G_r41_Few) 9 false G_firm_Check) 10 false G_r41_Check) 11 false G_firm_Alive) 12 false G_r41_Alive) 13 false G_r41_Same) 14 false G_firm_Answers) 15 false G_r41_Answers) := Eq.trans rfl rfl

theorem x_l41_FirmTells : type_of% (And.intro @w <| And.intro @q_l41_sane <| And.intro @q_r41_Few <| And.intro @q_firm_Check <| And.intro @q_r41_Check <| And.intro @q_firm_Alive <| And.intro @q_r41_Alive <| And.intro @q_r41_Same <| And.intro @q_firm_Answers <| And.intro @q_r41_Answers <| @gg_l41_FirmTells) := And.intro @w <| And.intro @q_l41_sane <| And.intro @q_r41_Few <| And.intro @q_firm_Check <| And.intro @q_r41_Check <| And.intro @q_firm_Alive <| And.intro @q_r41_Alive <| And.intro @q_r41_Same <| And.intro @q_firm_Answers <| And.intro @q_r41_Answers <| @gg_l41_FirmTells

theorem m_l41_FirmTells (p0 : (List TDeed)) (p1 : Int) (p2 : Int) (r : Bool) (hh : l41_FirmTells p0 p1 p2 = some r) : vfunc .clean tab g_l41_FirmTells FU Try.f3 none [.sl false false p0.length (encL eTDeed p0), .int .i64 p1, .int .i64 p2] = some (.clean (.bool r), none) := by
  refine vfunc_of rfl Try.ntmps3 Try.results3 ?_
  unfold l41_FirmTells at hh
  obtain ⟨r1, hr1, hh⟩ := bindS hh
  obtain ⟨r2, hr2, hh⟩ := bindS hh
  try simp only [x_l41_FirmTells, seval, -Int.reduceToNat, hr1, hr2]
  refine tstC_br (fun hb3 => ?_) (fun hb3 => ?_)
  · replace hh := ite_t hb3 hh
    cases hh
    try simp only [x_l41_FirmTells, seval, -Int.reduceToNat, hr1, hr2]
  · replace hh := ite_f hb3 hh
    try simp only [x_l41_FirmTells, seval, -Int.reduceToNat, hr1, hr2]
    refine tstO_br (fun hb4 => ?_) (fun hb4 => ?_)
    · replace hh := ite_t hb4 hh
      obtain ⟨r5, hr5, hh⟩ := bindS hh
      obtain ⟨r6, hr6, hh⟩ := bindS hh
      try simp only [x_l41_FirmTells, seval, -Int.reduceToNat, hr1, hr2, hr5, hr6]
      refine tstO_br (fun hb7 => ?_) (fun hb7 => ?_)
      · replace hh := ite_t hb7 hh
        obtain ⟨r8, hr8, hh⟩ := bindS hh
        obtain ⟨r9, hr9, hh⟩ := bindS hh
        try simp only [x_l41_FirmTells, seval, -Int.reduceToNat, hr1, hr2, hr5, hr6, hr8, hr9]
        refine tstO_br (fun hb10 => ?_) (fun hb10 => ?_)
        · replace hh := ite_t hb10 hh
          obtain ⟨r11, hr11, hh⟩ := bindS hh
          obtain ⟨r12, hr12, hh⟩ := bindS hh
          obtain ⟨r13, hr13, hh⟩ := bindS hh
          cases hh
          try simp only [x_l41_FirmTells, seval, -Int.reduceToNat, hr1, hr2, hr5, hr6, hr8, hr9, hr11, hr12, hr13]
        · replace hh := ite_f hb10 hh
          cases hh
          try simp only [x_l41_FirmTells, seval, -Int.reduceToNat, hr1, hr2, hr5, hr6, hr8, hr9]
      · replace hh := ite_f hb7 hh
        cases hh
        try simp only [x_l41_FirmTells, seval, -Int.reduceToNat, hr1, hr2, hr5, hr6]
    · replace hh := ite_f hb4 hh
      cases hh
      try simp only [x_l41_FirmTells, seval, -Int.reduceToNat, hr1, hr2]

theorem ok_l41_FirmTells : COk Try.prog 3 G_l41_FirmTells := COk.of (mode := .clean) tok ge_l41_FirmTells mixed Try.func3 (by kernel_rfl) ⟨by kernel_rfl, by kernel_rfl⟩ (fun _ => Nat.le_of_ble_eq_true (by kernel_rfl)) (fun x r h => m_l41_FirmTells x.1 x.2.1 x.2.2 r h)

noncomputable def G_r41_Has := mkG (asC (aSl (eI .i64)) (as1 (aI .i64))) (fun x : (List Int) × Int => r41_Has x.1 x.2) (fun r : Bool => .clean (.bool r))

theorem q_r41_Has (p0 : (List Int)) (p1 : Int) : G_r41_Has none [.sl false false p0.length (encL (eI .i64) p0), .int .i64 p1] = (r41_Has p0 p1).map fun r : Bool => (.clean (.bool r), none) := mkG_eq _ _ _ (p0, p1)

theorem m_r41_Has (p0 : (List Int)) (p1 : Int) (r : Bool) (hh : r41_Has p0 p1 = some r) : vfunc .clean tab noEnv FU Try.f17 none [.sl false false p0.length (encL (eI .i64) p0), .int .i64 p1] = some (.clean (.bool r), none) := by
  refine vfunc_of rfl Try.ntmps17 Try.results17 ?_
  unfold r41_Has at hh
  try simp only [w, seval, -Int.reduceToNat]
  obtain ⟨o4, ho4, hh⟩ := bindS hh
  refine runLoop_sim (fun s t H e => match s with | s5a => t 0 = .sl false false p0.length (encL (eI .i64) p0) ∧ t 1 = .int .i64 p1 ∧ t 5 = .int .i64 s5a) (fun o x t H e => match o with | (.inl _) => x = .exit 0 | (.inr r) => x = .ret ∧ endM .clean tab none [.tmp 4] ⟨t, H, e⟩ = some (.clean (.bool r), none)) ho4 ?_ ?_ ?_
  ·
    refine ⟨?_, ?_, ?_⟩
    all_goals (first | rfl | (simp only [w, seval, -Int.reduceToNat] <;> rfl))
  · rintro s5a t H e ⟨t0a, t1a, t5a⟩ c hh
    simp only [r41_Has_L1] at hh
    try simp only [w, seval, -Int.reduceToNat, t0a, t1a, t5a]
    refine tstC_br (fun hb5 => ?_) (fun hb5 => ?_)
    · replace hh := ite_t hb5 hh
      obtain ⟨x6, hx6, hh⟩ := bindS hh
      have bx6 := idx_bd hx6
      have ax6 := idx_enc (eI .i64) hx6
      have fx6 := idx_fit (eI .i64) hx6
      simp only [vmz] at ax6 fx6
      skip
      try simp only [w, seval, -Int.reduceToNat, t0a, t1a, t5a, bx6, ax6, fx6]
      refine tstC_br (fun hb7 => ?_) (fun hb7 => ?_)
      · replace hh := ite_t hb7 hh
        cases hh
        try simp only [w, seval, -Int.reduceToNat, t0a, t1a, t5a, bx6, ax6, fx6]
        rw [LK_ret]
        refine ⟨_, rfl, ?_⟩
        refine ⟨rfl, ?_⟩
        try simp only [w, seval, -Int.reduceToNat, t0a, t1a, t5a, bx6, ax6, fx6]
      · replace hh := ite_f hb7 hh
        cases hh
        try simp only [w, seval, -Int.reduceToNat, t0a, t1a, t5a, bx6, ax6, fx6]
        rw [LK_normal]
        refine ⟨_, rfl, ?_⟩
        refine ⟨?_, ?_, ?_⟩
        all_goals (first | rfl | (simp only [w, seval, -Int.reduceToNat, t0a, t1a, t5a, bx6, ax6, fx6] <;> rfl))
    · replace hh := ite_f hb5 hh
      cases hh
      try simp only [w, seval, -Int.reduceToNat, t0a, t1a, t5a]
      rw [LK_exit]
      refine ⟨_, rfl, ?_⟩
      exact rfl
  · rintro x t H e hx
    rcases o4 with _ | ra
    ·
      dsimp only at hx hh
      subst hx
      cases hh
      try simp only [w, seval, -Int.reduceToNat]
    ·
      dsimp only at hx hh
      obtain ⟨rfl, hE⟩ := hx
      cases hh
      try simp only [runW_pass_ret, runW_pass_exit, runW_blk_ret, runW_nil, endW_ret]
      exact hE

theorem ok_r41_Has : COk Try.prog 17 G_r41_Has := COk.of (mode := .clean) tok GOk.none mixed Try.func17 (by kernel_rfl) ⟨by kernel_rfl, by kernel_rfl⟩ (fun _ => Nat.le_of_ble_eq_true (by kernel_rfl)) (fun x r h => m_r41_Has x.1 x.2 r h)

noncomputable def G_l41_FirmAnswers := mkG (asC (aSl eTDeed) (asC (aI .i64) (as1 (aI .i64)))) (fun x : (List TDeed) × Int × Int => l41_FirmAnswers x.1 x.2.1 x.2.2) (fun r : Bool => .clean (.bool r))

theorem q_l41_FirmAnswers (p0 : (List TDeed)) (p1 : Int) (p2 : Int) : G_l41_FirmAnswers none [.sl false false p0.length (encL eTDeed p0), .int .i64 p1, .int .i64 p2] = (l41_FirmAnswers p0 p1 p2).map fun r : Bool => (.clean (.bool r), none) := mkG_eq _ _ _ (p0, p1, p2)

noncomputable def g_l41_FirmAnswers : Env := (Am.ext (Am.ext (Am.ext (Am.ext (Am.ext (Am.ext (Am.ext (Am.ext noEnv 7 false G_l41_sane) 8 false G_r41_Few) 9 false G_firm_Check) 11 false G_firm_Alive) 13 false G_r41_Same) 14 false G_firm_Answers) 16 false G_r41_End) 17 false G_r41_Has)

theorem ge_l41_FirmAnswers : GOk Try.prog g_l41_FirmAnswers := ((((((((GOk.none.add ok_l41_sane false).add ok_r41_Few false).add ok_firm_Check false).add ok_firm_Alive false).add ok_r41_Same false).add ok_firm_Answers false).add ok_r41_End false).add ok_r41_Has false)

theorem gg_l41_FirmAnswers : g_l41_FirmAnswers = (Am.ext (Am.ext (Am.ext (Am.ext (Am.ext (Am.ext (Am.ext (Am.ext noEnv 7 false G_l41_sane) 8 false G_r41_Few) 9 false G_firm_Check) 11 false G_firm_Alive) 13 false G_r41_Same) 14 false G_firm_Answers) 16 false G_r41_End) 17 false G_r41_Has) := Eq.trans rfl rfl

theorem x_l41_FirmAnswers : type_of% (And.intro @w <| And.intro @q_l41_sane <| And.intro @q_r41_Few <| And.intro @q_firm_Check <| And.intro @q_firm_Alive <| And.intro @q_r41_Same <| And.intro @q_firm_Answers <| And.intro @q_r41_End <| And.intro @q_r41_Has <| @gg_l41_FirmAnswers) := And.intro @w <| And.intro @q_l41_sane <| And.intro @q_r41_Few <| And.intro @q_firm_Check <| And.intro @q_firm_Alive <| And.intro @q_r41_Same <| And.intro @q_firm_Answers <| And.intro @q_r41_End <| And.intro @q_r41_Has <| @gg_l41_FirmAnswers

theorem m_l41_FirmAnswers (p0 : (List TDeed)) (p1 : Int) (p2 : Int) (r : Bool) (hh : l41_FirmAnswers p0 p1 p2 = some r) : vfunc .clean tab g_l41_FirmAnswers FU Try.f4 none [.sl false false p0.length (encL eTDeed p0), .int .i64 p1, .int .i64 p2] = some (.clean (.bool r), none) := by
  refine vfunc_of rfl Try.ntmps4 Try.results4 ?_
  unfold l41_FirmAnswers at hh
  obtain ⟨r1, hr1, hh⟩ := bindS hh
  obtain ⟨r2, hr2, hh⟩ := bindS hh
  try simp only [x_l41_FirmAnswers, seval, -Int.reduceToNat, hr1, hr2]
  obtain ⟨o3, ho3, hh⟩ := bindS hh
  refine tstO_cut 0 (fun s t H e => match s with | s34j1 => t 0 = .sl false false p0.length (encL eTDeed p0) ∧ t 1 = .int .i64 p1 ∧ t 2 = .int .i64 p2 ∧ t 7 = .bool r1 ∧ t 34 = .bool s34j1) (fun s => s = o3) ?_ ?_
  · rintro s34j1 t H e ⟨t0j1, t1j1, t2j1, t7j1, t34j1⟩ rfl
    try dsimp only at hh
    try simp only [x_l41_FirmAnswers, seval, -Int.reduceToNat, hr1, hr2, t0j1, t1j1, t2j1, t7j1, t34j1]
    refine tstC_br (fun hb4 => ?_) (fun hb4 => ?_)
    · replace hh := ite_t hb4 hh
      cases hh
      try simp only [x_l41_FirmAnswers, seval, -Int.reduceToNat, hr1, hr2, t0j1, t1j1, t2j1, t7j1, t34j1]
    · replace hh := ite_f hb4 hh
      obtain ⟨r5, hr5, hh⟩ := bindS hh
      try simp only [x_l41_FirmAnswers, seval, -Int.reduceToNat, hr1, hr2, t0j1, t1j1, t2j1, t7j1, t34j1, hr5]
      obtain ⟨o13, ho13, hh⟩ := bindS hh
      refine runLoop_sim (fun s t H e => match s with | s9b => t 0 = .sl false false p0.length (encL eTDeed p0) ∧ t 1 = .int .i64 p1 ∧ t 2 = .int .i64 p2 ∧ t 7 = .bool r1 ∧ t 8 = .sl false false r5.length (encL (eI .i64) r5) ∧ t 9 = .int .i64 s9b) (fun o x t H e => match o with | (.inl _) => x = .exit 0 ∧ t 0 = .sl false false p0.length (encL eTDeed p0) ∧ t 1 = .int .i64 p1 ∧ t 2 = .int .i64 p2 ∧ t 7 = .bool r1 ∧ t 8 = .sl false false r5.length (encL (eI .i64) r5) | (.inr r) => x = .ret ∧ endM .clean tab none [.tmp 6] ⟨t, H, e⟩ = some (.clean (.bool r), none)) ho13 ?_ ?_ ?_
      ·
        refine ⟨?_, ?_, ?_, ?_, ?_, ?_⟩
        all_goals (first | rfl | (simp only [x_l41_FirmAnswers, seval, -Int.reduceToNat, hr1, hr2, t0j1, t1j1, t2j1, t7j1, t34j1, hr5] <;> rfl))
      · rintro s9b t H e ⟨t0b, t1b, t2b, t7b, t8b, t9b⟩ c hh
        simp only [l41_FirmAnswers_L2] at hh
        try simp only [x_l41_FirmAnswers, seval, -Int.reduceToNat, hr1, hr2, hr5, t0b, t1b, t2b, t7b, t8b, t9b]
        refine tstC_br (fun hb14 => ?_) (fun hb14 => ?_)
        · replace hh := ite_t hb14 hh
          obtain ⟨x15, hx15, hh⟩ := bindS hh
          have bx15 := idx_bd hx15
          have ax15 := idx_enc (eI .i64) hx15
          have fx15 := idx_fit (eI .i64) hx15
          simp only [vmz] at ax15 fx15
          skip
          obtain ⟨r16, hr16, hh⟩ := bindS hh
          try simp only [x_l41_FirmAnswers, seval, -Int.reduceToNat, hr1, hr2, hr5, t0b, t1b, t2b, t7b, t8b, t9b, bx15, ax15, fx15, hr16]
          refine tstP_br' (fun hb17 => ?_) (fun hb17 => ?_)
          · replace hh := ite_t hb17 hh
            try simp only [x_l41_FirmAnswers, seval, -Int.reduceToNat, hr1, hr2, hr5, t0b, t1b, t2b, t7b, t8b, t9b, bx15, ax15, fx15, hr16]
            refine dyn_ok (by kernel_rfl) ?_
            cases hh
            try simp only [x_l41_FirmAnswers, seval, -Int.reduceToNat, hr1, hr2, hr5, t0b, t1b, t2b, t7b, t8b, t9b, bx15, ax15, fx15, hr16]
            rw [LK_ret]
            refine ⟨_, rfl, ?_⟩
            refine ⟨rfl, ?_⟩
            try simp only [x_l41_FirmAnswers, seval, -Int.reduceToNat, hr1, hr2, hr5, t0b, t1b, t2b, t7b, t8b, t9b, bx15, ax15, fx15, hr16]
          · replace hh := ite_f hb17 hh
            try simp only [x_l41_FirmAnswers, seval, -Int.reduceToNat, hr1, hr2, hr5, t0b, t1b, t2b, t7b, t8b, t9b, bx15, ax15, fx15, hr16]
            refine tstP_br (fun hb18 => ?_) (fun hb18 => ?_)
            · replace hh := ite_t hb18 hh
              obtain ⟨x19, hx19, hh⟩ := bindS hh
              have bx19 := idx_bd hx19
              have ax19 := idx_enc (eI .i64) hx19
              have fx19 := idx_fit (eI .i64) hx19
              simp only [vmz] at ax19 fx19
              skip
              have bx15 := idx_bd hx15
              have ax15 := idx_enc (eI .i64) hx15
              have fx15 := idx_fit (eI .i64) hx15
              simp only [vmz] at ax15 fx15
              skip
              try simp only [x_l41_FirmAnswers, seval, -Int.reduceToNat, hr1, hr2, hr5, t0b, t1b, t2b, t7b, t8b, t9b, bx15, ax15, fx15, hr16, bx19, ax19, fx19, bx15, ax15, fx15]
              refine dyn_ok (by kernel_rfl) ?_
              try simp only [x_l41_FirmAnswers, seval, -Int.reduceToNat, hr1, hr2, hr5, t0b, t1b, t2b, t7b, t8b, t9b, bx15, ax15, fx15, hr16, bx19, ax19, fx19, bx15, ax15, fx15]
              refine tstC_br (fun hb20 => ?_) (fun hb20 => ?_)
              · replace hh := ite_t hb20 hh
                cases hh
                try simp only [x_l41_FirmAnswers, seval, -Int.reduceToNat, hr1, hr2, hr5, t0b, t1b, t2b, t7b, t8b, t9b, bx15, ax15, fx15, hr16, bx19, ax19, fx19, bx15, ax15, fx15]
                rw [LK_ret]
                refine ⟨_, rfl, ?_⟩
                refine ⟨rfl, ?_⟩
                try simp only [x_l41_FirmAnswers, seval, -Int.reduceToNat, hr1, hr2, hr5, t0b, t1b, t2b, t7b, t8b, t9b, bx15, ax15, fx15, hr16, bx19, ax19, fx19, bx15, ax15, fx15]
              · replace hh := ite_f hb20 hh
                cases hh
                try simp only [x_l41_FirmAnswers, seval, -Int.reduceToNat, hr1, hr2, hr5, t0b, t1b, t2b, t7b, t8b, t9b, bx15, ax15, fx15, hr16, bx19, ax19, fx19, bx15, ax15, fx15]
                rw [LK_normal]
                refine ⟨_, rfl, ?_⟩
                refine ⟨?_, ?_, ?_, ?_, ?_, ?_⟩
                all_goals (first | rfl | (simp only [x_l41_FirmAnswers, seval, -Int.reduceToNat, hr1, hr2, hr5, t0b, t1b, t2b, t7b, t8b, t9b, bx15, ax15, fx15, hr16, bx19, ax19, fx19, bx15, ax15, fx15] <;> rfl))
            · replace hh := ite_f hb18 hh
              try simp only [x_l41_FirmAnswers, seval, -Int.reduceToNat, hr1, hr2, hr5, t0b, t1b, t2b, t7b, t8b, t9b, bx15, ax15, fx15, hr16]
              refine dyn_ok (by kernel_rfl) ?_
              cases hh
              try simp only [x_l41_FirmAnswers, seval, -Int.reduceToNat, hr1, hr2, hr5, t0b, t1b, t2b, t7b, t8b, t9b, bx15, ax15, fx15, hr16]
              rw [LK_normal]
              refine ⟨_, rfl, ?_⟩
              refine ⟨?_, ?_, ?_, ?_, ?_, ?_⟩
              all_goals (first | rfl | (simp only [x_l41_FirmAnswers, seval, -Int.reduceToNat, hr1, hr2, hr5, t0b, t1b, t2b, t7b, t8b, t9b, bx15, ax15, fx15, hr16] <;> rfl))
        · replace hh := ite_f hb14 hh
          cases hh
          try simp only [x_l41_FirmAnswers, seval, -Int.reduceToNat, hr1, hr2, hr5, t0b, t1b, t2b, t7b, t8b, t9b]
          rw [LK_exit]
          refine ⟨_, rfl, ?_⟩
          refine ⟨rfl, ⟨?_, ?_, ?_, ?_, ?_⟩⟩
          all_goals (first | rfl | (simp only [x_l41_FirmAnswers, seval, -Int.reduceToNat, hr1, hr2, hr5, t0b, t1b, t2b, t7b, t8b, t9b] <;> rfl))
      · rintro x t H e hx
        rcases o13 with _ | rb
        ·
          dsimp only at hx hh
          obtain ⟨rfl, ⟨t0bx, t1bx, t2bx, t7bx, t8bx⟩⟩ := hx
          obtain ⟨r21, hr21, hh⟩ := bindS hh
          try simp only [x_l41_FirmAnswers, seval, -Int.reduceToNat, hr1, hr2, hr5, t0bx, t1bx, t2bx, t7bx, t8bx, hr21]
          refine tstC_br (fun hb22 => ?_) (fun hb22 => ?_)
          · replace hh := ite_t hb22 hh
            try simp only [x_l41_FirmAnswers, seval, -Int.reduceToNat, hr1, hr2, hr5, t0bx, t1bx, t2bx, t7bx, t8bx, hr21]
            obtain ⟨o23, ho23, hh⟩ := bindS hh
            refine tstO_cut 0 (fun s t H e => match s with | s6j3 => t 6 = .bool s6j3) (fun s => s = o23) ?_ ?_
            · rintro s6j3 t H e t6j3 rfl
              try dsimp only at hh
              cases hh
              try simp only [x_l41_FirmAnswers, seval, -Int.reduceToNat, hr1, hr2, hr5, hr21, t6j3]
            ·
              clear hh
              have hh := ho23
              try simp only [x_l41_FirmAnswers, seval, -Int.reduceToNat, hr1, hr2, hr5, t0bx, t1bx, t2bx, t7bx, t8bx, hr21]
              refine tstO_br (fun hb24 => ?_) (fun hb24 => ?_)
              · replace hh := ite_t hb24 hh
                have i25 := q_r41_Same r5 ([p1])
                simp only [encL_cons, vmz, List.length_cons, List.length_nil, Nat.zero_add, Nat.reduceAdd, List.length_set] at i25
                obtain ⟨r26, hr26, hh⟩ := bindS hh
                cases hh
                try simp only [x_l41_FirmAnswers, seval, -Int.reduceToNat, hr1, hr2, hr5, t0bx, t1bx, t2bx, t7bx, t8bx, hr21, i25, hr26]
                rw [CK_normal]
                refine ⟨_, rfl, ?_⟩
                refine ?_
                all_goals (first | rfl | (simp only [x_l41_FirmAnswers, seval, -Int.reduceToNat, hr1, hr2, hr5, t0bx, t1bx, t2bx, t7bx, t8bx, hr21, i25, hr26] <;> rfl))
              · replace hh := ite_f hb24 hh
                cases hh
                try simp only [x_l41_FirmAnswers, seval, -Int.reduceToNat, hr1, hr2, hr5, t0bx, t1bx, t2bx, t7bx, t8bx, hr21]
                rw [CK_normal]
                refine ⟨_, rfl, ?_⟩
                refine ?_
                all_goals (first | rfl | (simp only [x_l41_FirmAnswers, seval, -Int.reduceToNat, hr1, hr2, hr5, t0bx, t1bx, t2bx, t7bx, t8bx, hr21] <;> rfl))
          · replace hh := ite_f hb22 hh
            obtain ⟨r27, hr27, hh⟩ := bindS hh
            try simp only [x_l41_FirmAnswers, seval, -Int.reduceToNat, hr1, hr2, hr5, t0bx, t1bx, t2bx, t7bx, t8bx, hr21, hr27]
            refine tstC_br (fun hb28 => ?_) (fun hb28 => ?_)
            · replace hh := ite_t hb28 hh
              cases hh
              try simp only [x_l41_FirmAnswers, seval, -Int.reduceToNat, hr1, hr2, hr5, t0bx, t1bx, t2bx, t7bx, t8bx, hr21, hr27]
            · replace hh := ite_f hb28 hh
              try simp only [x_l41_FirmAnswers, seval, -Int.reduceToNat, hr1, hr2, hr5, t0bx, t1bx, t2bx, t7bx, t8bx, hr21, hr27]
              obtain ⟨o46, ho46, hh⟩ := bindS hh
              refine runLoop_sim (fun s t H e => match s with | (s11d, s12d) => t 0 = .sl false false p0.length (encL eTDeed p0) ∧ t 2 = .int .i64 p2 ∧ t 7 = .bool r1 ∧ t 8 = .sl false false r5.length (encL (eI .i64) r5) ∧ t 10 = .int .i64 r27 ∧ t 11 = .int .i64 s11d ∧ t 12 = .int .i64 s12d) (fun o x t H e => match o with | (.inl s11dx) => x = .exit 2 ∧ t 0 = .sl false false p0.length (encL eTDeed p0) ∧ t 2 = .int .i64 p2 ∧ t 7 = .bool r1 ∧ t 8 = .sl false false r5.length (encL (eI .i64) r5) ∧ t 10 = .int .i64 r27 ∧ t 11 = .int .i64 s11dx | (.inr r) => x = .ret ∧ endM .clean tab none [.tmp 6] ⟨t, H, e⟩ = some (.clean (.bool r), none)) ho46 ?_ ?_ ?_
              ·
                refine ⟨?_, ?_, ?_, ?_, ?_, ?_, ?_⟩
                all_goals (first | rfl | (simp only [x_l41_FirmAnswers, seval, -Int.reduceToNat, hr1, hr2, hr5, t0bx, t1bx, t2bx, t7bx, t8bx, hr21, hr27] <;> rfl))
              · rintro ⟨s11d, s12d⟩ t H e ⟨t0d, t2d, t7d, t8d, t10d, t11d, t12d⟩ c hh
                simp only [l41_FirmAnswers_L4] at hh
                try simp only [x_l41_FirmAnswers, seval, -Int.reduceToNat, hr1, hr2, hr5, hr21, hr27, t0d, t2d, t7d, t8d, t10d, t11d, t12d]
                refine tstC_br (fun hb47 => ?_) (fun hb47 => ?_)
                · replace hh := ite_t hb47 hh
                  obtain ⟨r48, hr48, hh⟩ := bindS hh
                  try simp only [x_l41_FirmAnswers, seval, -Int.reduceToNat, hr1, hr2, hr5, hr21, hr27, t0d, t2d, t7d, t8d, t10d, t11d, t12d, hr48]
                  refine tstC_br (fun hb49 => ?_) (fun hb49 => ?_)
                  · replace hh := ite_t hb49 hh
                    cases hh
                    try simp only [x_l41_FirmAnswers, seval, -Int.reduceToNat, hr1, hr2, hr5, hr21, hr27, t0d, t2d, t7d, t8d, t10d, t11d, t12d, hr48]
                    rw [LK_normal]
                    refine ⟨_, rfl, ?_⟩
                    refine ⟨?_, ?_, ?_, ?_, ?_, ?_, ?_⟩
                    all_goals (first | rfl | (simp only [x_l41_FirmAnswers, seval, -Int.reduceToNat, hr1, hr2, hr5, hr21, hr27, t0d, t2d, t7d, t8d, t10d, t11d, t12d, hr48] <;> rfl))
                  · replace hh := ite_f hb49 hh
                    try simp only [x_l41_FirmAnswers, seval, -Int.reduceToNat, hr1, hr2, hr5, hr21, hr27, t0d, t2d, t7d, t8d, t10d, t11d, t12d, hr48]
                    obtain ⟨o56, ho56, hh⟩ := bindS hh
                    refine runLoop_sim (fun s t H e => match s with | (s13f, s14f) => t 0 = .sl false false p0.length (encL eTDeed p0) ∧ t 2 = .int .i64 p2 ∧ t 7 = .bool r1 ∧ t 8 = .sl false false r5.length (encL (eI .i64) r5) ∧ t 10 = .int .i64 r27 ∧ t 11 = .int .i64 (IntKind.i64.wrap (s11d + 1)) ∧ t 12 = .int .i64 s12d ∧ t 13 = .bool s13f ∧ t 14 = .int .i64 s14f) (fun o x t H e => match o with | s13fx => x = .exit 4 ∧ t 0 = .sl false false p0.length (encL eTDeed p0) ∧ t 2 = .int .i64 p2 ∧ t 7 = .bool r1 ∧ t 8 = .sl false false r5.length (encL (eI .i64) r5) ∧ t 10 = .int .i64 r27 ∧ t 11 = .int .i64 (IntKind.i64.wrap (s11d + 1)) ∧ t 12 = .int .i64 s12d ∧ t 13 = .bool s13fx) ho56 ?_ ?_ ?_
                    ·
                      refine ⟨?_, ?_, ?_, ?_, ?_, ?_, ?_, ?_, ?_⟩
                      all_goals (first | rfl | (simp only [x_l41_FirmAnswers, seval, -Int.reduceToNat, hr1, hr2, hr5, hr21, hr27, t0d, t2d, t7d, t8d, t10d, t11d, t12d, hr48] <;> rfl))
                    · rintro ⟨s13f, s14f⟩ t H e ⟨t0f, t2f, t7f, t8f, t10f, t11f, t12f, t13f, t14f⟩ c hh
                      simp only [l41_FirmAnswers_L6] at hh
                      obtain ⟨x57, hx57, hh⟩ := bindS hh
                      have bx57 := idx_bd hx57
                      have ax57 := idx_enc eTDeed hx57
                      have fx57 := idx_fit eTDeed hx57
                      simp only [vmz] at ax57 fx57
                      skip
                      try simp only [x_l41_FirmAnswers, seval, -Int.reduceToNat, hr1, hr2, hr5, hr21, hr27, hr48, t0f, t2f, t7f, t8f, t10f, t11f, t12f, t13f, t14f, bx57, ax57, fx57]
                      refine tstC_br (fun hb58 => ?_) (fun hb58 => ?_)
                      · replace hh := ite_t hb58 hh
                        try simp only [x_l41_FirmAnswers, seval, -Int.reduceToNat, hr1, hr2, hr5, hr21, hr27, hr48, t0f, t2f, t7f, t8f, t10f, t11f, t12f, t13f, t14f, bx57, ax57, fx57]
                        refine tstO_br' (fun hb59 => ?_) (fun hb59 => ?_)
                        · replace hh := ite_t hb59 hh
                          cases hh
                          try simp only [x_l41_FirmAnswers, seval, -Int.reduceToNat, hr1, hr2, hr5, hr21, hr27, hr48, t0f, t2f, t7f, t8f, t10f, t11f, t12f, t13f, t14f, bx57, ax57, fx57]
                          rw [LK_normal]
                          refine ⟨_, rfl, ?_⟩
                          refine ⟨?_, ?_, ?_, ?_, ?_, ?_, ?_, ?_, ?_⟩
                          all_goals (first | rfl | (simp only [x_l41_FirmAnswers, seval, -Int.reduceToNat, hr1, hr2, hr5, hr21, hr27, hr48, t0f, t2f, t7f, t8f, t10f, t11f, t12f, t13f, t14f, bx57, ax57, fx57] <;> rfl))
                        · replace hh := ite_f hb59 hh
                          have bx57 := idx_bd hx57
                          have ax57 := idx_enc eTDeed hx57
                          have fx57 := idx_fit eTDeed hx57
                          simp only [vmz] at ax57 fx57
                          skip
                          obtain ⟨x60, hx60, hh⟩ := bindS hh
                          have bx60 := idx_bd hx60
                          have ax60 := idx_enc (eI .i64) hx60
                          have fx60 := idx_fit (eI .i64) hx60
                          simp only [vmz] at ax60 fx60
                          skip
                          obtain ⟨r61, hr61, hh⟩ := bindS hh
                          obtain ⟨r62, hr62, hh⟩ := bindS hh
                          cases hh
                          try simp only [x_l41_FirmAnswers, seval, -Int.reduceToNat, hr1, hr2, hr5, hr21, hr27, hr48, t0f, t2f, t7f, t8f, t10f, t11f, t12f, t13f, t14f, bx57, ax57, fx57, bx57, ax57, fx57, bx60, ax60, fx60, hr61, hr62]
                          rw [LK_normal]
                          refine ⟨_, rfl, ?_⟩
                          refine ⟨?_, ?_, ?_, ?_, ?_, ?_, ?_, ?_, ?_⟩
                          all_goals (first | rfl | (simp only [x_l41_FirmAnswers, seval, -Int.reduceToNat, hr1, hr2, hr5, hr21, hr27, hr48, t0f, t2f, t7f, t8f, t10f, t11f, t12f, t13f, t14f, bx57, ax57, fx57, bx57, ax57, fx57, bx60, ax60, fx60, hr61, hr62] <;> rfl))
                      · replace hh := ite_f hb58 hh
                        cases hh
                        try simp only [x_l41_FirmAnswers, seval, -Int.reduceToNat, hr1, hr2, hr5, hr21, hr27, hr48, t0f, t2f, t7f, t8f, t10f, t11f, t12f, t13f, t14f, bx57, ax57, fx57]
                        rw [LK_exit]
                        refine ⟨_, rfl, ?_⟩
                        refine ⟨rfl, ⟨?_, ?_, ?_, ?_, ?_, ?_, ?_, ?_⟩⟩
                        all_goals (first | rfl | (simp only [x_l41_FirmAnswers, seval, -Int.reduceToNat, hr1, hr2, hr5, hr21, hr27, hr48, t0f, t2f, t7f, t8f, t10f, t11f, t12f, t13f, t14f, bx57, ax57, fx57] <;> rfl))
                    · rintro x t H e hx
                      obtain ⟨s13fx, rfl⟩ : ∃ z, z = o56 := ⟨_, rfl⟩
                      dsimp only at hx hh
                      obtain ⟨rfl, ⟨t0fx, t2fx, t7fx, t8fx, t10fx, t11fx, t12fx, t13fx⟩⟩ := hx
                      try simp only [x_l41_FirmAnswers, seval, -Int.reduceToNat, hr1, hr2, hr5, hr21, hr27, hr48, t0fx, t2fx, t7fx, t8fx, t10fx, t11fx, t12fx, t13fx]
                      refine tstC_br (fun hb63 => ?_) (fun hb63 => ?_)
                      · replace hh := ite_t hb63 hh
                        cases hh
                        try simp only [x_l41_FirmAnswers, seval, -Int.reduceToNat, hr1, hr2, hr5, hr21, hr27, hr48, t0fx, t2fx, t7fx, t8fx, t10fx, t11fx, t12fx, t13fx]
                        rw [LK_ret]
                        refine ⟨_, rfl, ?_⟩
                        refine ⟨rfl, ?_⟩
                        try simp only [x_l41_FirmAnswers, seval, -Int.reduceToNat, hr1, hr2, hr5, hr21, hr27, hr48, t0fx, t2fx, t7fx, t8fx, t10fx, t11fx, t12fx, t13fx]
                      · replace hh := ite_f hb63 hh
                        cases hh
                        try simp only [x_l41_FirmAnswers, seval, -Int.reduceToNat, hr1, hr2, hr5, hr21, hr27, hr48, t0fx, t2fx, t7fx, t8fx, t10fx, t11fx, t12fx, t13fx]
                        rw [LK_normal]
                        refine ⟨_, rfl, ?_⟩
                        refine ⟨?_, ?_, ?_, ?_, ?_, ?_, ?_⟩
                        all_goals (first | rfl | (simp only [x_l41_FirmAnswers, seval, -Int.reduceToNat, hr1, hr2, hr5, hr21, hr27, hr48, t0fx, t2fx, t7fx, t8fx, t10fx, t11fx, t12fx, t13fx] <;> rfl))
                · replace hh := ite_f hb47 hh
                  cases hh
                  try simp only [x_l41_FirmAnswers, seval, -Int.reduceToNat, hr1, hr2, hr5, hr21, hr27, t0d, t2d, t7d, t8d, t10d, t11d, t12d]
                  rw [LK_exit]
                  refine ⟨_, rfl, ?_⟩
                  refine ⟨rfl, ⟨?_, ?_, ?_, ?_, ?_, ?_⟩⟩
                  all_goals (first | rfl | (simp only [x_l41_FirmAnswers, seval, -Int.reduceToNat, hr1, hr2, hr5, hr21, hr27, t0d, t2d, t7d, t8d, t10d, t11d, t12d] <;> rfl))
              · rintro x t H e hx
                rcases o46 with s11dx | rd
                ·
                  dsimp only at hx hh
                  obtain ⟨rfl, ⟨t0dx, t2dx, t7dx, t8dx, t10dx, t11dx⟩⟩ := hx
                  try simp only [x_l41_FirmAnswers, seval, -Int.reduceToNat, hr1, hr2, hr5, hr21, hr27, t0dx, t2dx, t7dx, t8dx, t10dx, t11dx]
                  obtain ⟨o77, ho77, hh⟩ := bindS hh
                  refine runLoop_sim (fun s t H e => match s with | s15g => t 0 = .sl false false p0.length (encL eTDeed p0) ∧ t 2 = .int .i64 p2 ∧ t 7 = .bool r1 ∧ t 8 = .sl false false r5.length (encL (eI .i64) r5) ∧ t 10 = .int .i64 r27 ∧ t 11 = .int .i64 s11dx ∧ t 15 = .int .i64 s15g) (fun o x t H e => match o with | (.inl _) => x = .exit 6 ∧ t 7 = .bool r1 ∧ t 8 = .sl false false r5.length (encL (eI .i64) r5) ∧ t 11 = .int .i64 s11dx | (.inr r) => x = .ret ∧ endM .clean tab none [.tmp 6] ⟨t, H, e⟩ = some (.clean (.bool r), none)) ho77 ?_ ?_ ?_
                  ·
                    refine ⟨?_, ?_, ?_, ?_, ?_, ?_, ?_⟩
                    all_goals (first | rfl | (simp only [x_l41_FirmAnswers, seval, -Int.reduceToNat, hr1, hr2, hr5, hr21, hr27, t0dx, t2dx, t7dx, t8dx, t10dx, t11dx] <;> rfl))
                  · rintro s15g t H e ⟨t0g, t2g, t7g, t8g, t10g, t11g, t15g⟩ c hh
                    simp only [l41_FirmAnswers_L7] at hh
                    obtain ⟨x78, hx78, hh⟩ := bindS hh
                    have bx78 := idx_bd hx78
                    have ax78 := idx_enc eTDeed hx78
                    have fx78 := idx_fit eTDeed hx78
                    simp only [vmz] at ax78 fx78
                    skip
                    try simp only [x_l41_FirmAnswers, seval, -Int.reduceToNat, hr1, hr2, hr5, hr21, hr27, t0g, t2g, t7g, t8g, t10g, t11g, t15g, bx78, ax78, fx78]
                    refine tstC_br (fun hb79 => ?_) (fun hb79 => ?_)
                    · replace hh := ite_t hb79 hh
                      have bx78 := idx_bd hx78
                      have ax78 := idx_enc eTDeed hx78
                      have fx78 := idx_fit eTDeed hx78
                      simp only [vmz] at ax78 fx78
                      skip
                      obtain ⟨x80, hx80, hh⟩ := bindS hh
                      have bx80 := idx_bd hx80
                      have ax80 := idx_enc (eI .i64) hx80
                      have fx80 := idx_fit (eI .i64) hx80
                      simp only [vmz] at ax80 fx80
                      skip
                      obtain ⟨r81, hr81, hh⟩ := bindS hh
                      try simp only [x_l41_FirmAnswers, seval, -Int.reduceToNat, hr1, hr2, hr5, hr21, hr27, t0g, t2g, t7g, t8g, t10g, t11g, t15g, bx78, ax78, fx78, bx78, ax78, fx78, bx80, ax80, fx80, hr81]
                      obtain ⟨o86, ho86, hh⟩ := bindS hh
                      refine runLoop_sim (fun s t H e => match s with | s17i => t 0 = .sl false false p0.length (encL eTDeed p0) ∧ t 2 = .int .i64 p2 ∧ t 7 = .bool r1 ∧ t 8 = .sl false false r5.length (encL (eI .i64) r5) ∧ t 10 = .int .i64 r27 ∧ t 11 = .int .i64 s11dx ∧ t 15 = .int .i64 s15g ∧ t 16 = .sl false false r81.length (encL (eI .i64) r81) ∧ t 17 = .int .i64 s17i) (fun o x t H e => match o with | (.inl _) => x = .exit 8 ∧ t 0 = .sl false false p0.length (encL eTDeed p0) ∧ t 2 = .int .i64 p2 ∧ t 7 = .bool r1 ∧ t 8 = .sl false false r5.length (encL (eI .i64) r5) ∧ t 10 = .int .i64 r27 ∧ t 11 = .int .i64 s11dx ∧ t 15 = .int .i64 s15g | (.inr r) => x = .ret ∧ endM .clean tab none [.tmp 6] ⟨t, H, e⟩ = some (.clean (.bool r), none)) ho86 ?_ ?_ ?_
                      ·
                        refine ⟨?_, ?_, ?_, ?_, ?_, ?_, ?_, ?_, ?_⟩
                        all_goals (first | rfl | (simp only [x_l41_FirmAnswers, seval, -Int.reduceToNat, hr1, hr2, hr5, hr21, hr27, t0g, t2g, t7g, t8g, t10g, t11g, t15g, bx78, ax78, fx78, bx78, ax78, fx78, bx80, ax80, fx80, hr81] <;> rfl))
                      · rintro s17i t H e ⟨t0i, t2i, t7i, t8i, t10i, t11i, t15i, t16i, t17i⟩ c hh
                        simp only [l41_FirmAnswers_L9] at hh
                        try simp only [x_l41_FirmAnswers, seval, -Int.reduceToNat, hr1, hr2, hr5, hr21, hr27, bx78, ax78, fx78, bx78, ax78, fx78, bx80, ax80, fx80, hr81, t0i, t2i, t7i, t8i, t10i, t11i, t15i, t16i, t17i]
                        refine tstC_br (fun hb87 => ?_) (fun hb87 => ?_)
                        · replace hh := ite_t hb87 hh
                          obtain ⟨x88, hx88, hh⟩ := bindS hh
                          have bx88 := idx_bd hx88
                          have ax88 := idx_enc (eI .i64) hx88
                          have fx88 := idx_fit (eI .i64) hx88
                          simp only [vmz] at ax88 fx88
                          skip
                          obtain ⟨r89, hr89, hh⟩ := bindS hh
                          try simp only [x_l41_FirmAnswers, seval, -Int.reduceToNat, hr1, hr2, hr5, hr21, hr27, bx78, ax78, fx78, bx78, ax78, fx78, bx80, ax80, fx80, hr81, t0i, t2i, t7i, t8i, t10i, t11i, t15i, t16i, t17i, bx88, ax88, fx88, hr89]
                          refine tstC_br (fun hb90 => ?_) (fun hb90 => ?_)
                          · replace hh := ite_t hb90 hh
                            cases hh
                            try simp only [x_l41_FirmAnswers, seval, -Int.reduceToNat, hr1, hr2, hr5, hr21, hr27, bx78, ax78, fx78, bx78, ax78, fx78, bx80, ax80, fx80, hr81, t0i, t2i, t7i, t8i, t10i, t11i, t15i, t16i, t17i, bx88, ax88, fx88, hr89]
                            rw [LK_ret]
                            refine ⟨_, rfl, ?_⟩
                            refine ⟨rfl, ?_⟩
                            try simp only [x_l41_FirmAnswers, seval, -Int.reduceToNat, hr1, hr2, hr5, hr21, hr27, bx78, ax78, fx78, bx78, ax78, fx78, bx80, ax80, fx80, hr81, t0i, t2i, t7i, t8i, t10i, t11i, t15i, t16i, t17i, bx88, ax88, fx88, hr89]
                          · replace hh := ite_f hb90 hh
                            cases hh
                            try simp only [x_l41_FirmAnswers, seval, -Int.reduceToNat, hr1, hr2, hr5, hr21, hr27, bx78, ax78, fx78, bx78, ax78, fx78, bx80, ax80, fx80, hr81, t0i, t2i, t7i, t8i, t10i, t11i, t15i, t16i, t17i, bx88, ax88, fx88, hr89]
                            rw [LK_normal]
                            refine ⟨_, rfl, ?_⟩
                            refine ⟨?_, ?_, ?_, ?_, ?_, ?_, ?_, ?_, ?_⟩
                            all_goals (first | rfl | (simp only [x_l41_FirmAnswers, seval, -Int.reduceToNat, hr1, hr2, hr5, hr21, hr27, bx78, ax78, fx78, bx78, ax78, fx78, bx80, ax80, fx80, hr81, t0i, t2i, t7i, t8i, t10i, t11i, t15i, t16i, t17i, bx88, ax88, fx88, hr89] <;> rfl))
                        · replace hh := ite_f hb87 hh
                          cases hh
                          try simp only [x_l41_FirmAnswers, seval, -Int.reduceToNat, hr1, hr2, hr5, hr21, hr27, bx78, ax78, fx78, bx78, ax78, fx78, bx80, ax80, fx80, hr81, t0i, t2i, t7i, t8i, t10i, t11i, t15i, t16i, t17i]
                          rw [LK_exit]
                          refine ⟨_, rfl, ?_⟩
                          refine ⟨rfl, ⟨?_, ?_, ?_, ?_, ?_, ?_, ?_⟩⟩
                          all_goals (first | rfl | (simp only [x_l41_FirmAnswers, seval, -Int.reduceToNat, hr1, hr2, hr5, hr21, hr27, bx78, ax78, fx78, bx78, ax78, fx78, bx80, ax80, fx80, hr81, t0i, t2i, t7i, t8i, t10i, t11i, t15i, t16i, t17i] <;> rfl))
                      · rintro x t H e hx
                        rcases o86 with _ | ri
                        ·
                          dsimp only at hx hh
                          obtain ⟨rfl, ⟨t0ix, t2ix, t7ix, t8ix, t10ix, t11ix, t15ix⟩⟩ := hx
                          cases hh
                          try simp only [x_l41_FirmAnswers, seval, -Int.reduceToNat, hr1, hr2, hr5, hr21, hr27, bx78, ax78, fx78, bx78, ax78, fx78, bx80, ax80, fx80, hr81, t0ix, t2ix, t7ix, t8ix, t10ix, t11ix, t15ix]
                          rw [LK_normal]
                          refine ⟨_, rfl, ?_⟩
                          refine ⟨?_, ?_, ?_, ?_, ?_, ?_, ?_⟩
                          all_goals (first | rfl | (simp only [x_l41_FirmAnswers, seval, -Int.reduceToNat, hr1, hr2, hr5, hr21, hr27, bx78, ax78, fx78, bx78, ax78, fx78, bx80, ax80, fx80, hr81, t0ix, t2ix, t7ix, t8ix, t10ix, t11ix, t15ix] <;> rfl))
                        ·
                          dsimp only at hx hh
                          obtain ⟨rfl, hE⟩ := hx
                          cases hh
                          try simp only [runW_pass_ret, runW_pass_exit, runW_blk_ret, runW_nil, endW_ret]
                          rw [LK_ret]
                          refine ⟨_, rfl, ?_⟩
                          first | exact ⟨rfl, hE⟩ | (simp only [x_l41_FirmAnswers, seval, -Int.reduceToNat] at hE; exact ⟨rfl, hE⟩)
                    · replace hh := ite_f hb79 hh
                      cases hh
                      try simp only [x_l41_FirmAnswers, seval, -Int.reduceToNat, hr1, hr2, hr5, hr21, hr27, t0g, t2g, t7g, t8g, t10g, t11g, t15g, bx78, ax78, fx78]
                      rw [LK_exit]
                      refine ⟨_, rfl, ?_⟩
                      refine ⟨rfl, ⟨?_, ?_, ?_⟩⟩
                      all_goals (first | rfl | (simp only [x_l41_FirmAnswers, seval, -Int.reduceToNat, hr1, hr2, hr5, hr21, hr27, t0g, t2g, t7g, t8g, t10g, t11g, t15g, bx78, ax78, fx78] <;> rfl))
                  · rintro x t H e hx
                    rcases o77 with _ | rg
                    ·
                      dsimp only at hx hh
                      obtain ⟨rfl, ⟨t7gx, t8gx, t11gx⟩⟩ := hx
                      try simp only [x_l41_FirmAnswers, seval, -Int.reduceToNat, hr1, hr2, hr5, hr21, hr27, t7gx, t8gx, t11gx]
                      refine tstO_br (fun hb91 => ?_) (fun hb91 => ?_)
                      · replace hh := ite_t hb91 hh
                        cases hh
                        try simp only [x_l41_FirmAnswers, seval, -Int.reduceToNat, hr1, hr2, hr5, hr21, hr27, t7gx, t8gx, t11gx]
                      · replace hh := ite_f hb91 hh
                        cases hh
                        try simp only [x_l41_FirmAnswers, seval, -Int.reduceToNat, hr1, hr2, hr5, hr21, hr27, t7gx, t8gx, t11gx]
                    ·
                      dsimp only at hx hh
                      obtain ⟨rfl, hE⟩ := hx
                      cases hh
                      try simp only [runW_pass_ret, runW_pass_exit, runW_blk_ret, runW_nil, endW_ret]
                      exact hE
                ·
                  dsimp only at hx hh
                  obtain ⟨rfl, hE⟩ := hx
                  cases hh
                  try simp only [runW_pass_ret, runW_pass_exit, runW_blk_ret, runW_nil, endW_ret]
                  exact hE
        ·
          dsimp only at hx hh
          obtain ⟨rfl, hE⟩ := hx
          cases hh
          try simp only [runW_pass_ret, runW_pass_exit, runW_blk_ret, runW_nil, endW_ret]
          exact hE
  ·
    clear hh
    have hh := ho3
    try simp only [x_l41_FirmAnswers, seval, -Int.reduceToNat, hr1, hr2]
    refine tstO_br' (fun hb92 => ?_) (fun hb92 => ?_)
    · replace hh := ite_t hb92 hh
      cases hh
      try simp only [x_l41_FirmAnswers, seval, -Int.reduceToNat, hr1, hr2]
      rw [CK_normal]
      refine ⟨_, rfl, ?_⟩
      refine ⟨?_, ?_, ?_, ?_, ?_⟩
      all_goals (first | rfl | (simp only [x_l41_FirmAnswers, seval, -Int.reduceToNat, hr1, hr2] <;> rfl))
    · replace hh := ite_f hb92 hh
      obtain ⟨r93, hr93, hh⟩ := bindS hh
      try simp only [x_l41_FirmAnswers, seval, -Int.reduceToNat, hr1, hr2, hr93]
      refine tstO_br' (fun hb94 => ?_) (fun hb94 => ?_)
      · replace hh := ite_t hb94 hh
        cases hh
        try simp only [x_l41_FirmAnswers, seval, -Int.reduceToNat, hr1, hr2, hr93]
        rw [CK_normal]
        refine ⟨_, rfl, ?_⟩
        refine ⟨?_, ?_, ?_, ?_, ?_⟩
        all_goals (first | rfl | (simp only [x_l41_FirmAnswers, seval, -Int.reduceToNat, hr1, hr2, hr93] <;> rfl))
      · replace hh := ite_f hb94 hh
        try simp only [x_l41_FirmAnswers, seval, -Int.reduceToNat, hr1, hr2, hr93]
        refine tstO_br' (fun hb95 => ?_) (fun hb95 => ?_)
        · replace hh := ite_t hb95 hh
          cases hh
          try simp only [x_l41_FirmAnswers, seval, -Int.reduceToNat, hr1, hr2, hr93]
          rw [CK_normal]
          refine ⟨_, rfl, ?_⟩
          refine ⟨?_, ?_, ?_, ?_, ?_⟩
          all_goals (first | rfl | (simp only [x_l41_FirmAnswers, seval, -Int.reduceToNat, hr1, hr2, hr93] <;> rfl))
        · replace hh := ite_f hb95 hh
          cases hh
          try simp only [x_l41_FirmAnswers, seval, -Int.reduceToNat, hr1, hr2, hr93]
          rw [CK_normal]
          refine ⟨_, rfl, ?_⟩
          refine ⟨?_, ?_, ?_, ?_, ?_⟩
          all_goals (first | rfl | (simp only [x_l41_FirmAnswers, seval, -Int.reduceToNat, hr1, hr2, hr93] <;> rfl))

theorem ok_l41_FirmAnswers : COk Try.prog 4 G_l41_FirmAnswers := COk.of (mode := .clean) tok ge_l41_FirmAnswers mixed Try.func4 (by kernel_rfl) ⟨by kernel_rfl, by kernel_rfl⟩ (fun _ => Nat.le_of_ble_eq_true (by kernel_rfl)) (fun x r h => m_l41_FirmAnswers x.1 x.2.1 x.2.2 r h)

noncomputable def G_l41_FirmLater := mkG (asC (aSl eTDeed) (asC (aI .i64) (asC (aI .i64) (as1 (aI .i64))))) (fun x : (List TDeed) × Int × Int × Int => l41_FirmLater x.1 x.2.1 x.2.2.1 x.2.2.2) (fun r : Bool => .clean (.bool r))

theorem q_l41_FirmLater (p0 : (List TDeed)) (p1 : Int) (p2 : Int) (p3 : Int) : G_l41_FirmLater none [.sl false false p0.length (encL eTDeed p0), .int .i64 p1, .int .i64 p2, .int .i64 p3] = (l41_FirmLater p0 p1 p2 p3).map fun r : Bool => (.clean (.bool r), none) := mkG_eq _ _ _ (p0, p1, p2, p3)

noncomputable def g_l41_FirmLater : Env := (Am.ext (Am.ext (Am.ext (Am.ext (Am.ext (Am.ext noEnv 7 false G_l41_sane) 8 false G_r41_Few) 9 false G_firm_Check) 11 false G_firm_Alive) 14 false G_firm_Answers) 17 false G_r41_Has)

theorem ge_l41_FirmLater : GOk Try.prog g_l41_FirmLater := ((((((GOk.none.add ok_l41_sane false).add ok_r41_Few false).add ok_firm_Check false).add ok_firm_Alive false).add ok_firm_Answers false).add ok_r41_Has false)

theorem gg_l41_FirmLater : g_l41_FirmLater = (Am.ext (Am.ext (Am.ext (Am.ext (Am.ext (Am.ext noEnv 7 false G_l41_sane) 8 false G_r41_Few) 9 false G_firm_Check) 11 false G_firm_Alive) 14 false G_firm_Answers) 17 false G_r41_Has) := Eq.trans rfl rfl

theorem x_l41_FirmLater : type_of% (And.intro @w <| And.intro @q_l41_sane <| And.intro @q_r41_Few <| And.intro @q_firm_Check <| And.intro @q_firm_Alive <| And.intro @q_firm_Answers <| And.intro @q_r41_Has <| @gg_l41_FirmLater) := And.intro @w <| And.intro @q_l41_sane <| And.intro @q_r41_Few <| And.intro @q_firm_Check <| And.intro @q_firm_Alive <| And.intro @q_firm_Answers <| And.intro @q_r41_Has <| @gg_l41_FirmLater

theorem m_l41_FirmLater (p0 : (List TDeed)) (p1 : Int) (p2 : Int) (p3 : Int) (r : Bool) (hh : l41_FirmLater p0 p1 p2 p3 = some r) : vfunc .clean tab g_l41_FirmLater FU Try.f5 none [.sl false false p0.length (encL eTDeed p0), .int .i64 p1, .int .i64 p2, .int .i64 p3] = some (.clean (.bool r), none) := by
  refine vfunc_of rfl Try.ntmps5 Try.results5 ?_
  unfold l41_FirmLater at hh
  obtain ⟨r1, hr1, hh⟩ := bindS hh
  obtain ⟨r2, hr2, hh⟩ := bindS hh
  try simp only [x_l41_FirmLater, seval, -Int.reduceToNat, hr1, hr2]
  obtain ⟨o3, ho3, hh⟩ := bindS hh
  refine tstO_cut 0 (fun s t H e => match s with | s32j1 => t 0 = .sl false false p0.length (encL eTDeed p0) ∧ t 1 = .int .i64 p1 ∧ t 2 = .int .i64 p2 ∧ t 3 = .int .i64 p3 ∧ t 9 = .bool r1 ∧ t 32 = .bool s32j1) (fun s => s = o3) ?_ ?_
  · rintro s32j1 t H e ⟨t0j1, t1j1, t2j1, t3j1, t9j1, t32j1⟩ rfl
    try dsimp only at hh
    try simp only [x_l41_FirmLater, seval, -Int.reduceToNat, hr1, hr2, t0j1, t1j1, t2j1, t3j1, t9j1, t32j1]
    refine tstC_br (fun hb4 => ?_) (fun hb4 => ?_)
    · replace hh := ite_t hb4 hh
      cases hh
      try simp only [x_l41_FirmLater, seval, -Int.reduceToNat, hr1, hr2, t0j1, t1j1, t2j1, t3j1, t9j1, t32j1]
    · replace hh := ite_f hb4 hh
      obtain ⟨r5, hr5, hh⟩ := bindS hh
      obtain ⟨r6, hr6, hh⟩ := bindS hh
      try simp only [x_l41_FirmLater, seval, -Int.reduceToNat, hr1, hr2, t0j1, t1j1, t2j1, t3j1, t9j1, t32j1, hr5, hr6]
      obtain ⟨o19, ho19, hh⟩ := bindS hh
      refine runLoop_sim (fun s t H e => match s with | s13b => t 0 = .sl false false p0.length (encL eTDeed p0) ∧ t 1 = .int .i64 p1 ∧ t 2 = .int .i64 p2 ∧ t 3 = .int .i64 p3 ∧ t 9 = .bool r1 ∧ t 10 = .sl false false r5.length (encL (eI .i64) r5) ∧ t 11 = .sl false false r6.length (encL (eI .i64) r6) ∧ t 12 = .int .i64 0 ∧ t 13 = .int .i64 s13b) (fun o x t H e => match o with | (.inl _) => x = .exit 0 ∧ t 0 = .sl false false p0.length (encL eTDeed p0) ∧ t 1 = .int .i64 p1 ∧ t 2 = .int .i64 p2 ∧ t 3 = .int .i64 p3 ∧ t 9 = .bool r1 ∧ t 10 = .sl false false r5.length (encL (eI .i64) r5) ∧ t 11 = .sl false false r6.length (encL (eI .i64) r6) ∧ t 12 = .int .i64 0 | (.inr r) => x = .ret ∧ endM .clean tab none [.tmp 8] ⟨t, H, e⟩ = some (.clean (.bool r), none)) ho19 ?_ ?_ ?_
      ·
        refine ⟨?_, ?_, ?_, ?_, ?_, ?_, ?_, ?_, ?_⟩
        all_goals (first | rfl | (simp only [x_l41_FirmLater, seval, -Int.reduceToNat, hr1, hr2, t0j1, t1j1, t2j1, t3j1, t9j1, t32j1, hr5, hr6] <;> rfl))
      · rintro s13b t H e ⟨t0b, t1b, t2b, t3b, t9b, t10b, t11b, t12b, t13b⟩ c hh
        simp only [l41_FirmLater_L2] at hh
        try simp only [x_l41_FirmLater, seval, -Int.reduceToNat, hr1, hr2, hr5, hr6, t0b, t1b, t2b, t3b, t9b, t10b, t11b, t12b, t13b]
        refine tstC_br (fun hb20 => ?_) (fun hb20 => ?_)
        · replace hh := ite_t hb20 hh
          obtain ⟨x21, hx21, hh⟩ := bindS hh
          have bx21 := idx_bd hx21
          have ax21 := idx_enc (eI .i64) hx21
          have fx21 := idx_fit (eI .i64) hx21
          simp only [vmz] at ax21 fx21
          skip
          obtain ⟨r22, hr22, hh⟩ := bindS hh
          try simp only [x_l41_FirmLater, seval, -Int.reduceToNat, hr1, hr2, hr5, hr6, t0b, t1b, t2b, t3b, t9b, t10b, t11b, t12b, t13b, bx21, ax21, fx21, hr22]
          obtain ⟨o27, ho27, hh⟩ := bindS hh
          refine runLoop_sim (fun s t H e => match s with | s15d => t 0 = .sl false false p0.length (encL eTDeed p0) ∧ t 1 = .int .i64 p1 ∧ t 2 = .int .i64 p2 ∧ t 3 = .int .i64 p3 ∧ t 9 = .bool r1 ∧ t 10 = .sl false false r5.length (encL (eI .i64) r5) ∧ t 11 = .sl false false r6.length (encL (eI .i64) r6) ∧ t 12 = .int .i64 0 ∧ t 13 = .int .i64 s13b ∧ t 14 = .sl false false r22.length (encL (eI .i64) r22) ∧ t 15 = .int .i64 s15d) (fun o x t H e => match o with | (.inl _) => x = .exit 2 ∧ t 0 = .sl false false p0.length (encL eTDeed p0) ∧ t 1 = .int .i64 p1 ∧ t 2 = .int .i64 p2 ∧ t 3 = .int .i64 p3 ∧ t 9 = .bool r1 ∧ t 10 = .sl false false r5.length (encL (eI .i64) r5) ∧ t 11 = .sl false false r6.length (encL (eI .i64) r6) ∧ t 12 = .int .i64 0 ∧ t 13 = .int .i64 s13b | (.inr r) => x = .ret ∧ endM .clean tab none [.tmp 8] ⟨t, H, e⟩ = some (.clean (.bool r), none)) ho27 ?_ ?_ ?_
          ·
            refine ⟨?_, ?_, ?_, ?_, ?_, ?_, ?_, ?_, ?_, ?_, ?_⟩
            all_goals (first | rfl | (simp only [x_l41_FirmLater, seval, -Int.reduceToNat, hr1, hr2, hr5, hr6, t0b, t1b, t2b, t3b, t9b, t10b, t11b, t12b, t13b, bx21, ax21, fx21, hr22] <;> rfl))
          · rintro s15d t H e ⟨t0d, t1d, t2d, t3d, t9d, t10d, t11d, t12d, t13d, t14d, t15d⟩ c hh
            simp only [l41_FirmLater_L4] at hh
            try simp only [x_l41_FirmLater, seval, -Int.reduceToNat, hr1, hr2, hr5, hr6, bx21, ax21, fx21, hr22, t0d, t1d, t2d, t3d, t9d, t10d, t11d, t12d, t13d, t14d, t15d]
            refine tstC_br (fun hb28 => ?_) (fun hb28 => ?_)
            · replace hh := ite_t hb28 hh
              obtain ⟨x29, hx29, hh⟩ := bindS hh
              have bx29 := idx_bd hx29
              have ax29 := idx_enc (eI .i64) hx29
              have fx29 := idx_fit (eI .i64) hx29
              simp only [vmz] at ax29 fx29
              skip
              obtain ⟨r30, hr30, hh⟩ := bindS hh
              try simp only [x_l41_FirmLater, seval, -Int.reduceToNat, hr1, hr2, hr5, hr6, bx21, ax21, fx21, hr22, t0d, t1d, t2d, t3d, t9d, t10d, t11d, t12d, t13d, t14d, t15d, bx29, ax29, fx29, hr30]
              refine tstC_br (fun hb31 => ?_) (fun hb31 => ?_)
              · replace hh := ite_t hb31 hh
                cases hh
                try simp only [x_l41_FirmLater, seval, -Int.reduceToNat, hr1, hr2, hr5, hr6, bx21, ax21, fx21, hr22, t0d, t1d, t2d, t3d, t9d, t10d, t11d, t12d, t13d, t14d, t15d, bx29, ax29, fx29, hr30]
                rw [LK_ret]
                refine ⟨_, rfl, ?_⟩
                refine ⟨rfl, ?_⟩
                try simp only [x_l41_FirmLater, seval, -Int.reduceToNat, hr1, hr2, hr5, hr6, bx21, ax21, fx21, hr22, t0d, t1d, t2d, t3d, t9d, t10d, t11d, t12d, t13d, t14d, t15d, bx29, ax29, fx29, hr30]
              · replace hh := ite_f hb31 hh
                cases hh
                try simp only [x_l41_FirmLater, seval, -Int.reduceToNat, hr1, hr2, hr5, hr6, bx21, ax21, fx21, hr22, t0d, t1d, t2d, t3d, t9d, t10d, t11d, t12d, t13d, t14d, t15d, bx29, ax29, fx29, hr30]
                rw [LK_normal]
                refine ⟨_, rfl, ?_⟩
                refine ⟨?_, ?_, ?_, ?_, ?_, ?_, ?_, ?_, ?_, ?_, ?_⟩
                all_goals (first | rfl | (simp only [x_l41_FirmLater, seval, -Int.reduceToNat, hr1, hr2, hr5, hr6, bx21, ax21, fx21, hr22, t0d, t1d, t2d, t3d, t9d, t10d, t11d, t12d, t13d, t14d, t15d, bx29, ax29, fx29, hr30] <;> rfl))
            · replace hh := ite_f hb28 hh
              cases hh
              try simp only [x_l41_FirmLater, seval, -Int.reduceToNat, hr1, hr2, hr5, hr6, bx21, ax21, fx21, hr22, t0d, t1d, t2d, t3d, t9d, t10d, t11d, t12d, t13d, t14d, t15d]
              rw [LK_exit]
              refine ⟨_, rfl, ?_⟩
              refine ⟨rfl, ⟨?_, ?_, ?_, ?_, ?_, ?_, ?_, ?_, ?_⟩⟩
              all_goals (first | rfl | (simp only [x_l41_FirmLater, seval, -Int.reduceToNat, hr1, hr2, hr5, hr6, bx21, ax21, fx21, hr22, t0d, t1d, t2d, t3d, t9d, t10d, t11d, t12d, t13d, t14d, t15d] <;> rfl))
          · rintro x t H e hx
            rcases o27 with _ | rd
            ·
              dsimp only at hx hh
              obtain ⟨rfl, ⟨t0dx, t1dx, t2dx, t3dx, t9dx, t10dx, t11dx, t12dx, t13dx⟩⟩ := hx
              cases hh
              try simp only [x_l41_FirmLater, seval, -Int.reduceToNat, hr1, hr2, hr5, hr6, bx21, ax21, fx21, hr22, t0dx, t1dx, t2dx, t3dx, t9dx, t10dx, t11dx, t12dx, t13dx]
              rw [LK_normal]
              refine ⟨_, rfl, ?_⟩
              refine ⟨?_, ?_, ?_, ?_, ?_, ?_, ?_, ?_, ?_⟩
              all_goals (first | rfl | (simp only [x_l41_FirmLater, seval, -Int.reduceToNat, hr1, hr2, hr5, hr6, bx21, ax21, fx21, hr22, t0dx, t1dx, t2dx, t3dx, t9dx, t10dx, t11dx, t12dx, t13dx] <;> rfl))
            ·
              dsimp only at hx hh
              obtain ⟨rfl, hE⟩ := hx
              cases hh
              try simp only [runW_pass_ret, runW_pass_exit, runW_blk_ret, runW_nil, endW_ret]
              rw [LK_ret]
              refine ⟨_, rfl, ?_⟩
              first | exact ⟨rfl, hE⟩ | (simp only [x_l41_FirmLater, seval, -Int.reduceToNat] at hE; exact ⟨rfl, hE⟩)
        · replace hh := ite_f hb20 hh
          cases hh
          try simp only [x_l41_FirmLater, seval, -Int.reduceToNat, hr1, hr2, hr5, hr6, t0b, t1b, t2b, t3b, t9b, t10b, t11b, t12b, t13b]
          rw [LK_exit]
          refine ⟨_, rfl, ?_⟩
          refine ⟨rfl, ⟨?_, ?_, ?_, ?_, ?_, ?_, ?_, ?_⟩⟩
          all_goals (first | rfl | (simp only [x_l41_FirmLater, seval, -Int.reduceToNat, hr1, hr2, hr5, hr6, t0b, t1b, t2b, t3b, t9b, t10b, t11b, t12b, t13b] <;> rfl))
      · rintro x t H e hx
        rcases o19 with _ | rb
        ·
          dsimp only at hx hh
          obtain ⟨rfl, ⟨t0bx, t1bx, t2bx, t3bx, t9bx, t10bx, t11bx, t12bx⟩⟩ := hx
          try simp only [x_l41_FirmLater, seval, -Int.reduceToNat, hr1, hr2, hr5, hr6, t0bx, t1bx, t2bx, t3bx, t9bx, t10bx, t11bx, t12bx]
          obtain ⟨o47, ho47, hh⟩ := bindS hh
          refine runLoop_sim (fun s t H e => match s with | (s12e, s16e) => t 0 = .sl false false p0.length (encL eTDeed p0) ∧ t 1 = .int .i64 p1 ∧ t 2 = .int .i64 p2 ∧ t 3 = .int .i64 p3 ∧ t 9 = .bool r1 ∧ t 10 = .sl false false r5.length (encL (eI .i64) r5) ∧ t 11 = .sl false false r6.length (encL (eI .i64) r6) ∧ t 12 = .int .i64 s12e ∧ t 16 = .int .i64 s16e) (fun o x t H e => match o with | s12ex => x = .exit 4 ∧ t 0 = .sl false false p0.length (encL eTDeed p0) ∧ t 1 = .int .i64 p1 ∧ t 2 = .int .i64 p2 ∧ t 3 = .int .i64 p3 ∧ t 9 = .bool r1 ∧ t 11 = .sl false false r6.length (encL (eI .i64) r6) ∧ t 12 = .int .i64 s12ex) ho47 ?_ ?_ ?_
          ·
            refine ⟨?_, ?_, ?_, ?_, ?_, ?_, ?_, ?_, ?_⟩
            all_goals (first | rfl | (simp only [x_l41_FirmLater, seval, -Int.reduceToNat, hr1, hr2, hr5, hr6, t0bx, t1bx, t2bx, t3bx, t9bx, t10bx, t11bx, t12bx] <;> rfl))
          · rintro ⟨s12e, s16e⟩ t H e ⟨t0e, t1e, t2e, t3e, t9e, t10e, t11e, t12e, t16e⟩ c hh
            simp only [l41_FirmLater_L5] at hh
            try simp only [x_l41_FirmLater, seval, -Int.reduceToNat, hr1, hr2, hr5, hr6, t0e, t1e, t2e, t3e, t9e, t10e, t11e, t12e, t16e]
            refine tstC_br (fun hb48 => ?_) (fun hb48 => ?_)
            · replace hh := ite_t hb48 hh
              try simp only [x_l41_FirmLater, seval, -Int.reduceToNat, hr1, hr2, hr5, hr6, t0e, t1e, t2e, t3e, t9e, t10e, t11e, t12e, t16e]
              obtain ⟨o55, ho55, hh⟩ := bindS hh
              refine runLoop_sim (fun s t H e => match s with | (s17g, s18g) => t 0 = .sl false false p0.length (encL eTDeed p0) ∧ t 1 = .int .i64 p1 ∧ t 2 = .int .i64 p2 ∧ t 3 = .int .i64 p3 ∧ t 9 = .bool r1 ∧ t 10 = .sl false false r5.length (encL (eI .i64) r5) ∧ t 11 = .sl false false r6.length (encL (eI .i64) r6) ∧ t 12 = .int .i64 s12e ∧ t 16 = .int .i64 s16e ∧ t 17 = .bool s17g ∧ t 18 = .int .i64 s18g) (fun o x t H e => match o with | s17gx => x = .exit 6 ∧ t 0 = .sl false false p0.length (encL eTDeed p0) ∧ t 1 = .int .i64 p1 ∧ t 2 = .int .i64 p2 ∧ t 3 = .int .i64 p3 ∧ t 9 = .bool r1 ∧ t 10 = .sl false false r5.length (encL (eI .i64) r5) ∧ t 11 = .sl false false r6.length (encL (eI .i64) r6) ∧ t 12 = .int .i64 s12e ∧ t 16 = .int .i64 s16e ∧ t 17 = .bool s17gx) ho55 ?_ ?_ ?_
              ·
                refine ⟨?_, ?_, ?_, ?_, ?_, ?_, ?_, ?_, ?_, ?_, ?_⟩
                all_goals (first | rfl | (simp only [x_l41_FirmLater, seval, -Int.reduceToNat, hr1, hr2, hr5, hr6, t0e, t1e, t2e, t3e, t9e, t10e, t11e, t12e, t16e] <;> rfl))
              · rintro ⟨s17g, s18g⟩ t H e ⟨t0g, t1g, t2g, t3g, t9g, t10g, t11g, t12g, t16g, t17g, t18g⟩ c hh
                simp only [l41_FirmLater_L7] at hh
                try simp only [x_l41_FirmLater, seval, -Int.reduceToNat, hr1, hr2, hr5, hr6, t0g, t1g, t2g, t3g, t9g, t10g, t11g, t12g, t16g, t17g, t18g]
                refine tstC_br (fun hb56 => ?_) (fun hb56 => ?_)
                · replace hh := ite_t hb56 hh
                  try simp only [x_l41_FirmLater, seval, -Int.reduceToNat, hr1, hr2, hr5, hr6, t0g, t1g, t2g, t3g, t9g, t10g, t11g, t12g, t16g, t17g, t18g]
                  refine tstP_br' (fun hb57 => ?_) (fun hb57 => ?_)
                  · replace hh := ite_t hb57 hh
                    try simp only [x_l41_FirmLater, seval, -Int.reduceToNat, hr1, hr2, hr5, hr6, t0g, t1g, t2g, t3g, t9g, t10g, t11g, t12g, t16g, t17g, t18g]
                    refine dyn_ok (by kernel_rfl) ?_
                    cases hh
                    try simp only [x_l41_FirmLater, seval, -Int.reduceToNat, hr1, hr2, hr5, hr6, t0g, t1g, t2g, t3g, t9g, t10g, t11g, t12g, t16g, t17g, t18g]
                    rw [LK_normal]
                    refine ⟨_, rfl, ?_⟩
                    refine ⟨?_, ?_, ?_, ?_, ?_, ?_, ?_, ?_, ?_, ?_, ?_⟩
                    all_goals (first | rfl | (simp only [x_l41_FirmLater, seval, -Int.reduceToNat, hr1, hr2, hr5, hr6, t0g, t1g, t2g, t3g, t9g, t10g, t11g, t12g, t16g, t17g, t18g] <;> rfl))
                  · replace hh := ite_f hb57 hh
                    obtain ⟨x58, hx58, hh⟩ := bindS hh
                    have bx58 := idx_bd hx58
                    have ax58 := idx_enc (eI .i64) hx58
                    have fx58 := idx_fit (eI .i64) hx58
                    simp only [vmz] at ax58 fx58
                    skip
                    obtain ⟨r59, hr59, hh⟩ := bindS hh
                    obtain ⟨x60, hx60, hh⟩ := bindS hh
                    have bx60 := idx_bd hx60
                    have ax60 := idx_enc (eI .i64) hx60
                    have fx60 := idx_fit (eI .i64) hx60
                    simp only [vmz] at ax60 fx60
                    skip
                    obtain ⟨r61, hr61, hh⟩ := bindS hh
                    try simp only [x_l41_FirmLater, seval, -Int.reduceToNat, hr1, hr2, hr5, hr6, t0g, t1g, t2g, t3g, t9g, t10g, t11g, t12g, t16g, t17g, t18g, bx58, ax58, fx58, hr59, bx60, ax60, fx60, hr61]
                    refine dyn_ok (by kernel_rfl) ?_
                    cases hh
                    try simp only [x_l41_FirmLater, seval, -Int.reduceToNat, hr1, hr2, hr5, hr6, t0g, t1g, t2g, t3g, t9g, t10g, t11g, t12g, t16g, t17g, t18g, bx58, ax58, fx58, hr59, bx60, ax60, fx60, hr61]
                    rw [LK_normal]
                    refine ⟨_, rfl, ?_⟩
                    refine ⟨?_, ?_, ?_, ?_, ?_, ?_, ?_, ?_, ?_, ?_, ?_⟩
                    all_goals (first | rfl | (simp only [x_l41_FirmLater, seval, -Int.reduceToNat, hr1, hr2, hr5, hr6, t0g, t1g, t2g, t3g, t9g, t10g, t11g, t12g, t16g, t17g, t18g, bx58, ax58, fx58, hr59, bx60, ax60, fx60, hr61] <;> rfl))
                · replace hh := ite_f hb56 hh
                  cases hh
                  try simp only [x_l41_FirmLater, seval, -Int.reduceToNat, hr1, hr2, hr5, hr6, t0g, t1g, t2g, t3g, t9g, t10g, t11g, t12g, t16g, t17g, t18g]
                  rw [LK_exit]
                  refine ⟨_, rfl, ?_⟩
                  refine ⟨rfl, ⟨?_, ?_, ?_, ?_, ?_, ?_, ?_, ?_, ?_, ?_⟩⟩
                  all_goals (first | rfl | (simp only [x_l41_FirmLater, seval, -Int.reduceToNat, hr1, hr2, hr5, hr6, t0g, t1g, t2g, t3g, t9g, t10g, t11g, t12g, t16g, t17g, t18g] <;> rfl))
              · rintro x t H e hx
                obtain ⟨s17gx, rfl⟩ : ∃ z, z = o55 := ⟨_, rfl⟩
                dsimp only at hx hh
                obtain ⟨rfl, ⟨t0gx, t1gx, t2gx, t3gx, t9gx, t10gx, t11gx, t12gx, t16gx, t17gx⟩⟩ := hx
                try simp only [x_l41_FirmLater, seval, -Int.reduceToNat, hr1, hr2, hr5, hr6, t0gx, t1gx, t2gx, t3gx, t9gx, t10gx, t11gx, t12gx, t16gx, t17gx]
                refine tstC_br (fun hb62 => ?_) (fun hb62 => ?_)
                · replace hh := ite_t hb62 hh
                  cases hh
                  try simp only [x_l41_FirmLater, seval, -Int.reduceToNat, hr1, hr2, hr5, hr6, t0gx, t1gx, t2gx, t3gx, t9gx, t10gx, t11gx, t12gx, t16gx, t17gx]
                  rw [LK_normal]
                  refine ⟨_, rfl, ?_⟩
                  refine ⟨?_, ?_, ?_, ?_, ?_, ?_, ?_, ?_, ?_⟩
                  all_goals (first | rfl | (simp only [x_l41_FirmLater, seval, -Int.reduceToNat, hr1, hr2, hr5, hr6, t0gx, t1gx, t2gx, t3gx, t9gx, t10gx, t11gx, t12gx, t16gx, t17gx] <;> rfl))
                · replace hh := ite_f hb62 hh
                  cases hh
                  try simp only [x_l41_FirmLater, seval, -Int.reduceToNat, hr1, hr2, hr5, hr6, t0gx, t1gx, t2gx, t3gx, t9gx, t10gx, t11gx, t12gx, t16gx, t17gx]
                  rw [LK_normal]
                  refine ⟨_, rfl, ?_⟩
                  refine ⟨?_, ?_, ?_, ?_, ?_, ?_, ?_, ?_, ?_⟩
                  all_goals (first | rfl | (simp only [x_l41_FirmLater, seval, -Int.reduceToNat, hr1, hr2, hr5, hr6, t0gx, t1gx, t2gx, t3gx, t9gx, t10gx, t11gx, t12gx, t16gx, t17gx] <;> rfl))
            · replace hh := ite_f hb48 hh
              cases hh
              try simp only [x_l41_FirmLater, seval, -Int.reduceToNat, hr1, hr2, hr5, hr6, t0e, t1e, t2e, t3e, t9e, t10e, t11e, t12e, t16e]
              rw [LK_exit]
              refine ⟨_, rfl, ?_⟩
              refine ⟨rfl, ⟨?_, ?_, ?_, ?_, ?_, ?_, ?_⟩⟩
              all_goals (first | rfl | (simp only [x_l41_FirmLater, seval, -Int.reduceToNat, hr1, hr2, hr5, hr6, t0e, t1e, t2e, t3e, t9e, t10e, t11e, t12e, t16e] <;> rfl))
          · rintro x t H e hx
            obtain ⟨s12ex, rfl⟩ : ∃ z, z = o47 := ⟨_, rfl⟩
            dsimp only at hx hh
            obtain ⟨rfl, ⟨t0ex, t1ex, t2ex, t3ex, t9ex, t11ex, t12ex⟩⟩ := hx
            try simp only [x_l41_FirmLater, seval, -Int.reduceToNat, hr1, hr2, hr5, hr6, t0ex, t1ex, t2ex, t3ex, t9ex, t11ex, t12ex]
            refine tstO_br (fun hb63 => ?_) (fun hb63 => ?_)
            · replace hh := ite_t hb63 hh
              try simp only [x_l41_FirmLater, seval, -Int.reduceToNat, hr1, hr2, hr5, hr6, t0ex, t1ex, t2ex, t3ex, t9ex, t11ex, t12ex]
              refine tstO_br (fun hb64 => ?_) (fun hb64 => ?_)
              · replace hh := ite_t hb64 hh
                obtain ⟨r65, hr65, hh⟩ := bindS hh
                try simp only [x_l41_FirmLater, seval, -Int.reduceToNat, hr1, hr2, hr5, hr6, t0ex, t1ex, t2ex, t3ex, t9ex, t11ex, t12ex, hr65]
                refine tstO_br' (fun hb66 => ?_) (fun hb66 => ?_)
                · replace hh := ite_t hb66 hh
                  cases hh
                  try simp only [x_l41_FirmLater, seval, -Int.reduceToNat, hr1, hr2, hr5, hr6, t0ex, t1ex, t2ex, t3ex, t9ex, t11ex, t12ex, hr65]
                · replace hh := ite_f hb66 hh
                  obtain ⟨r67, hr67, hh⟩ := bindS hh
                  cases hh
                  try simp only [x_l41_FirmLater, seval, -Int.reduceToNat, hr1, hr2, hr5, hr6, t0ex, t1ex, t2ex, t3ex, t9ex, t11ex, t12ex, hr65, hr67]
              · replace hh := ite_f hb64 hh
                cases hh
                try simp only [x_l41_FirmLater, seval, -Int.reduceToNat, hr1, hr2, hr5, hr6, t0ex, t1ex, t2ex, t3ex, t9ex, t11ex, t12ex]
            · replace hh := ite_f hb63 hh
              cases hh
              try simp only [x_l41_FirmLater, seval, -Int.reduceToNat, hr1, hr2, hr5, hr6, t0ex, t1ex, t2ex, t3ex, t9ex, t11ex, t12ex]
        ·
          dsimp only at hx hh
          obtain ⟨rfl, hE⟩ := hx
          cases hh
          try simp only [runW_pass_ret, runW_pass_exit, runW_blk_ret, runW_nil, endW_ret]
          exact hE
  ·
    clear hh
    have hh := ho3
    try simp only [x_l41_FirmLater, seval, -Int.reduceToNat, hr1, hr2]
    refine tstO_br' (fun hb68 => ?_) (fun hb68 => ?_)
    · replace hh := ite_t hb68 hh
      cases hh
      try simp only [x_l41_FirmLater, seval, -Int.reduceToNat, hr1, hr2]
      rw [CK_normal]
      refine ⟨_, rfl, ?_⟩
      refine ⟨?_, ?_, ?_, ?_, ?_, ?_⟩
      all_goals (first | rfl | (simp only [x_l41_FirmLater, seval, -Int.reduceToNat, hr1, hr2] <;> rfl))
    · replace hh := ite_f hb68 hh
      obtain ⟨r69, hr69, hh⟩ := bindS hh
      try simp only [x_l41_FirmLater, seval, -Int.reduceToNat, hr1, hr2, hr69]
      refine tstO_br' (fun hb70 => ?_) (fun hb70 => ?_)
      · replace hh := ite_t hb70 hh
        cases hh
        try simp only [x_l41_FirmLater, seval, -Int.reduceToNat, hr1, hr2, hr69]
        rw [CK_normal]
        refine ⟨_, rfl, ?_⟩
        refine ⟨?_, ?_, ?_, ?_, ?_, ?_⟩
        all_goals (first | rfl | (simp only [x_l41_FirmLater, seval, -Int.reduceToNat, hr1, hr2, hr69] <;> rfl))
      · replace hh := ite_f hb70 hh
        cases hh
        try simp only [x_l41_FirmLater, seval, -Int.reduceToNat, hr1, hr2, hr69]
        rw [CK_normal]
        refine ⟨_, rfl, ?_⟩
        refine ⟨?_, ?_, ?_, ?_, ?_, ?_⟩
        all_goals (first | rfl | (simp only [x_l41_FirmLater, seval, -Int.reduceToNat, hr1, hr2, hr69] <;> rfl))

theorem ok_l41_FirmLater : COk Try.prog 5 G_l41_FirmLater := COk.of (mode := .clean) tok ge_l41_FirmLater mixed Try.func5 (by kernel_rfl) ⟨by kernel_rfl, by kernel_rfl⟩ (fun _ => Nat.le_of_ble_eq_true (by kernel_rfl)) (fun x r h => m_l41_FirmLater x.1 x.2.1 x.2.2.1 x.2.2.2 r h)
end Go.Proofs.Ytnnkcegdkhclcaa.Am
