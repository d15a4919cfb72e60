/- The machine computes the plain functions (written by wip/dec.py). -/
import Derived.Test.YtdecgihkgpgejaaDoorDma
namespace Go.Proofs.YtdecgihkgpgejaaDoor.Am
open Go.RowKit Go.Proofs.YtdecgihkgpgejaaDoor.P
set_option maxRecDepth 100000
set_option maxHeartbeats 4000000
set_option linter.unusedSimpArgs false
set_option linter.unusedVariables false

theorem ins_34 : InsC Tryd.prog 34 (3, 1, 8) := insert_ok Tryd.lays21 Tryd.func34 ⟨by kernel_rfl, by kernel_rfl⟩

noncomputable def G_tape_Draw := mkG (asC (aSl (eI .i64)) (as1 (aI .i64))) (fun x : (List Int) × Int => tape_Draw x.1 x.2) (fun r : (List Int) × Int => .clean (.tup [.sl false false r.1.length (encL (eI .i64) r.1), .int .i64 r.2]))

theorem q_tape_Draw (p0 : (List Int)) (p1 : Int) : G_tape_Draw none [.sl false false p0.length (encL (eI .i64) p0), .int .i64 p1] = (tape_Draw p0 p1).map fun r : (List Int) × Int => (.clean (.tup [.sl false false r.1.length (encL (eI .i64) r.1), .int .i64 r.2]), none) := mkG_eq _ _ _ (p0, p1)

noncomputable def g_tape_Draw : Env := (Am.insE 34 (3, 1, 8) (Am.ext noEnv 18 false G_tape_Right))

theorem ge_tape_Draw : GOk Tryd.prog g_tape_Draw := (GOk.insE (GOk.none.add ok_tape_Right false) ins_34)

theorem gg_tape_Draw : g_tape_Draw = (Am.insE 34 (3, 1, 8) (Am.ext noEnv 18 false G_tape_Right)) := Eq.trans rfl rfl

theorem x_tape_Draw : type_of% (And.intro @w <| And.intro @q_tape_Right <| @gg_tape_Draw) := And.intro @w <| And.intro @q_tape_Right <| @gg_tape_Draw

theorem m_tape_Draw (p0 : (List Int)) (p1 : Int) (r : (List Int) × Int) (hh : tape_Draw p0 p1 = some r) : vfunc .clean tab g_tape_Draw FU Tryd.f22 none [.sl false false p0.length (encL (eI .i64) p0), .int .i64 p1] = some (.clean (.tup [.sl false false r.1.length (encL (eI .i64) r.1), .int .i64 r.2]), none) := by
  refine vfunc_of rfl Tryd.ntmps22 Tryd.results22 ?_
  unfold tape_Draw at hh
  obtain ⟨r1, hr1, hh⟩ := bindS hh
  try simp only [x_tape_Draw, ne_eq, not_false_eq_true, seval, -Int.reduceToNat, hr1]
  refine tstC_br (fun hb2 => ?_) (fun hb2 => ?_)
  · replace hh := ite_t hb2 hh
    cases hh
    try simp only [x_tape_Draw, ne_eq, not_false_eq_true, seval, -Int.reduceToNat, hr1]
  · replace hh := ite_f hb2 hh
    obtain ⟨x3, hx3, hh⟩ := bindS hh
    obtain ⟨q4a, q4b, q4c, q4d, q4e, q4f, q4g⟩ := mk_two (eI .i64) hx3
    simp only [vmz] at q4d
    try simp only [x_tape_Draw, ne_eq, not_false_eq_true, seval, -Int.reduceToNat, hr1, q4a, q4b, q4c, q4d, q4e, q4f, q4g]
    obtain ⟨o18, ho18, hh⟩ := bindS hh
    refine runLoop_sim (fun s t H e => match s with | (s20a, l6a, l7a) => ∃ v6a : Nat, ∃ v7a : Nat, t 6 = .buf 6 v6a 1 0 (l6a).length ∧ t 7 = .buf 7 v7a 1 0 (l7a).length ∧ t 18 = .sl false false p0.length (encL (eI .i64) p0) ∧ t 19 = .int .i64 (p0.length : Int) ∧ t 20 = .int .i64 s20a ∧ H 6 = some ⟨v6a, 3, encL (eI .i64) l6a, false, true, false⟩ ∧ H 7 = some ⟨v7a, 3, encL (eI .i64) l7a, false, true, false⟩) (fun o x t H e => match o with | l6ax => x = .exit 0 ∧ ∃ v6ax : Nat, t 6 = .buf 6 v6ax 1 0 (l6ax).length ∧ H 6 = some ⟨v6ax, 3, encL (eI .i64) l6ax, false, true, false⟩) ho18 ?_ ?_ ?_
    ·
      refine ⟨2, 3, ?_, ?_, ?_, ?_, ?_, ?_, ?_⟩
      all_goals (first | rfl | (simp only [x_tape_Draw, ne_eq, not_false_eq_true, seval, -Int.reduceToNat, hr1, q4a, q4b, q4c, q4d, q4e, q4f, q4g] <;> rfl))
    · rintro ⟨s20a, l6a, l7a⟩ t H e ⟨v6a, v7a, t6a, t7a, t18a, t19a, t20a, H6a, H7a⟩ c hh
      simp only [tape_Draw_L1] at hh
      try simp only [x_tape_Draw, ne_eq, not_false_eq_true, seval, -Int.reduceToNat, hr1, q4a, q4b, q4c, q4d, q4e, q4f, q4g, t6a, t7a, t18a, t19a, t20a, H6a, H7a]
      refine tstC_br (fun hb19 => ?_) (fun hb19 => ?_)
      · replace hh := ite_t hb19 hh
        obtain ⟨x20, hx20, hh⟩ := bindS hh
        have bx20 := idx_bd hx20
        have ax20 := idx_enc (eI .i64) hx20
        have fx20 := idx_fit (eI .i64) hx20
        simp only [vmz] at ax20 fx20
        skip
        try simp only [x_tape_Draw, ne_eq, not_false_eq_true, seval, -Int.reduceToNat, hr1, q4a, q4b, q4c, q4d, q4e, q4f, q4g, t6a, t7a, t18a, t19a, t20a, H6a, H7a, bx20, ax20, fx20]
        obtain ⟨o24, ho24, hh⟩ := bindS hh
        refine runLoop_sim (fun s t H e => match s with | (s9c, s10c) => ∃ v6c : Nat, ∃ v7c : Nat, t 6 = .buf 6 v6c 1 0 (l6a).length ∧ t 7 = .buf 7 v7c 1 0 (l7a).length ∧ t 9 = .int .i64 s9c ∧ t 10 = .int .i64 s10c ∧ t 18 = .sl false false p0.length (encL (eI .i64) p0) ∧ t 19 = .int .i64 (p0.length : Int) ∧ t 20 = .int .i64 s20a ∧ H 6 = some ⟨v6c, 3, encL (eI .i64) l6a, false, true, false⟩ ∧ H 7 = some ⟨v7c, 3, encL (eI .i64) l7a, false, true, false⟩) (fun o x t H e => match o with | (s9cx, s10cx) => x = .exit 2 ∧ ∃ v6cx : Nat, ∃ v7cx : Nat, t 6 = .buf 6 v6cx 1 0 (l6a).length ∧ t 7 = .buf 7 v7cx 1 0 (l7a).length ∧ t 9 = .int .i64 s9cx ∧ t 10 = .int .i64 s10cx ∧ t 18 = .sl false false p0.length (encL (eI .i64) p0) ∧ t 19 = .int .i64 (p0.length : Int) ∧ t 20 = .int .i64 s20a ∧ H 6 = some ⟨v6cx, 3, encL (eI .i64) l6a, false, true, false⟩ ∧ H 7 = some ⟨v7cx, 3, encL (eI .i64) l7a, false, true, false⟩) ho24 ?_ ?_ ?_
        ·
          refine ⟨v6a, v7a, ?_, ?_, ?_, ?_, ?_, ?_, ?_, ?_, ?_⟩
          all_goals (first | rfl | (simp only [x_tape_Draw, ne_eq, not_false_eq_true, seval, -Int.reduceToNat, hr1, q4a, q4b, q4c, q4d, q4e, q4f, q4g, t6a, t7a, t18a, t19a, t20a, H6a, H7a, bx20, ax20, fx20] <;> rfl))
        · rintro ⟨s9c, s10c⟩ t H e ⟨v6c, v7c, t6c, t7c, t9c, t10c, t18c, t19c, t20c, H6c, H7c⟩ c hh
          simp only [tape_Draw_L3] at hh
          try simp only [x_tape_Draw, ne_eq, not_false_eq_true, seval, -Int.reduceToNat, hr1, q4a, q4b, q4c, q4d, q4e, q4f, q4g, bx20, ax20, fx20, t6c, t7c, t9c, t10c, t18c, t19c, t20c, H6c, H7c]
          refine tstO_br (fun hb25 => ?_) (fun hb25 => ?_)
          · replace hh := ite_t hb25 hh
            obtain ⟨x26, hx26, hh⟩ := bindS hh
            have bx26 := idx_bd hx26
            have ax26 := idx_enc (eI .i64) hx26
            have fx26 := idx_fit (eI .i64) hx26
            simp only [vmz] at ax26 fx26
            skip
            try simp only [x_tape_Draw, ne_eq, not_false_eq_true, seval, -Int.reduceToNat, hr1, q4a, q4b, q4c, q4d, q4e, q4f, q4g, bx20, ax20, fx20, t6c, t7c, t9c, t10c, t18c, t19c, t20c, H6c, H7c, bx26, ax26, fx26]
            refine tstC_br (fun hb27 => ?_) (fun hb27 => ?_)
            · replace hh := ite_t hb27 hh
              cases hh
              try simp only [x_tape_Draw, ne_eq, not_false_eq_true, seval, -Int.reduceToNat, hr1, q4a, q4b, q4c, q4d, q4e, q4f, q4g, bx20, ax20, fx20, t6c, t7c, t9c, t10c, t18c, t19c, t20c, H6c, H7c, bx26, ax26, fx26]
              rw [LK_normal]
              refine ⟨_, rfl, ?_⟩
              refine ⟨v6c, v7c, ?_, ?_, ?_, ?_, ?_, ?_, ?_, ?_, ?_⟩
              all_goals (first | rfl | (simp only [x_tape_Draw, ne_eq, not_false_eq_true, seval, -Int.reduceToNat, hr1, q4a, q4b, q4c, q4d, q4e, q4f, q4g, bx20, ax20, fx20, t6c, t7c, t9c, t10c, t18c, t19c, t20c, H6c, H7c, bx26, ax26, fx26] <;> rfl))
            · replace hh := ite_f hb27 hh
              cases hh
              try simp only [x_tape_Draw, ne_eq, not_false_eq_true, seval, -Int.reduceToNat, hr1, q4a, q4b, q4c, q4d, q4e, q4f, q4g, bx20, ax20, fx20, t6c, t7c, t9c, t10c, t18c, t19c, t20c, H6c, H7c, bx26, ax26, fx26]
              rw [LK_exit]
              refine ⟨_, rfl, ?_⟩
              refine ⟨rfl, ⟨v6c, v7c, ?_, ?_, ?_, ?_, ?_, ?_, ?_, ?_, ?_⟩⟩
              all_goals (first | rfl | (simp only [x_tape_Draw, ne_eq, not_false_eq_true, seval, -Int.reduceToNat, hr1, q4a, q4b, q4c, q4d, q4e, q4f, q4g, bx20, ax20, fx20, t6c, t7c, t9c, t10c, t18c, t19c, t20c, H6c, H7c, bx26, ax26, fx26] <;> rfl))
          · replace hh := ite_f hb25 hh
            cases hh
            try simp only [x_tape_Draw, ne_eq, not_false_eq_true, seval, -Int.reduceToNat, hr1, q4a, q4b, q4c, q4d, q4e, q4f, q4g, bx20, ax20, fx20, t6c, t7c, t9c, t10c, t18c, t19c, t20c, H6c, H7c]
            rw [LK_exit]
            refine ⟨_, rfl, ?_⟩
            refine ⟨rfl, ⟨v6c, v7c, ?_, ?_, ?_, ?_, ?_, ?_, ?_, ?_, ?_⟩⟩
            all_goals (first | rfl | (simp only [x_tape_Draw, ne_eq, not_false_eq_true, seval, -Int.reduceToNat, hr1, q4a, q4b, q4c, q4d, q4e, q4f, q4g, bx20, ax20, fx20, t6c, t7c, t9c, t10c, t18c, t19c, t20c, H6c, H7c] <;> rfl))
        · rintro x t H e hx
          rcases o24 with ⟨s9cx, s10cx⟩
          dsimp only at hx hh
          obtain ⟨rfl, ⟨v6cx, v7cx, t6cx, t7cx, t9cx, t10cx, t18cx, t19cx, t20cx, H6cx, H7cx⟩⟩ := hx
          obtain ⟨x28, hx28, hh⟩ := bindS hh
          obtain ⟨q29a, q29b, q29c, q29d⟩ := app_one (eI .i64) hx28
          simp only [vmz] at q29b
          obtain ⟨x30, hx30, hh⟩ := bindS hh
          obtain ⟨q31a, q31b, q31c, q31d, q31e⟩ := ins_one (eI .i64) hx30
          simp only [vmz] at q31e
          skip
          cases hh
          try simp only [x_tape_Draw, ne_eq, not_false_eq_true, seval, -Int.reduceToNat, hr1, q4a, q4b, q4c, q4d, q4e, q4f, q4g, bx20, ax20, fx20, t6cx, t7cx, t9cx, t10cx, t18cx, t19cx, t20cx, H6cx, H7cx, q29a, q29b, q29c, q29d, q31a, q31b, q31c, q31d, q31e]
          rw [LK_normal]
          refine ⟨_, rfl, ?_⟩
          refine ⟨e, e, ?_, ?_, ?_, ?_, ?_, ?_, ?_⟩
          all_goals (first | rfl | (simp only [x_tape_Draw, ne_eq, not_false_eq_true, seval, -Int.reduceToNat, hr1, q4a, q4b, q4c, q4d, q4e, q4f, q4g, bx20, ax20, fx20, t6cx, t7cx, t9cx, t10cx, t18cx, t19cx, t20cx, H6cx, H7cx, q29a, q29b, q29c, q29d, q31a, q31b, q31c, q31d, q31e] <;> rfl))
      · replace hh := ite_f hb19 hh
        cases hh
        try simp only [x_tape_Draw, ne_eq, not_false_eq_true, seval, -Int.reduceToNat, hr1, q4a, q4b, q4c, q4d, q4e, q4f, q4g, t6a, t7a, t18a, t19a, t20a, H6a, H7a]
        rw [LK_exit]
        refine ⟨_, rfl, ?_⟩
        refine ⟨rfl, ⟨v6a, ?_, ?_⟩⟩
        all_goals (first | rfl | (simp only [x_tape_Draw, ne_eq, not_false_eq_true, seval, -Int.reduceToNat, hr1, q4a, q4b, q4c, q4d, q4e, q4f, q4g, t6a, t7a, t18a, t19a, t20a, H6a, H7a] <;> rfl))
    · rintro x t H e hx
      obtain ⟨l6ax, rfl⟩ : ∃ z, z = o18 := ⟨_, rfl⟩
      dsimp only at hx hh
      obtain ⟨rfl, ⟨v6ax, t6ax, H6ax⟩⟩ := hx
      cases hh
      try simp only [x_tape_Draw, ne_eq, not_false_eq_true, seval, -Int.reduceToNat, hr1, q4a, q4b, q4c, q4d, q4e, q4f, q4g, t6ax, H6ax]

theorem ok_tape_Draw : COk Tryd.prog 22 G_tape_Draw := COk.of (mode := .clean) tok ge_tape_Draw mixed Tryd.func22 (by kernel_rfl) ⟨by kernel_rfl, by kernel_rfl⟩ (fun _ => Nat.le_of_ble_eq_true (by kernel_rfl)) (fun x r h => m_tape_Draw x.1 x.2 r h)

noncomputable def G_r50_nth := mkG (asC (aSl (eI .i64)) (as1 (aI .i64))) (fun x : (List Int) × Int => r50_nth x.1 x.2) (fun r : Int => .clean (.int .i64 r))

theorem q_r50_nth (p0 : (List Int)) (p1 : Int) : G_r50_nth none [.sl false false p0.length (encL (eI .i64) p0), .int .i64 p1] = (r50_nth p0 p1).map fun r : Int => (.clean (.int .i64 r), none) := mkG_eq _ _ _ (p0, p1)

theorem m_r50_nth (p0 : (List Int)) (p1 : Int) (r : Int) (hh : r50_nth p0 p1 = some r) : vfunc .clean tab noEnv FU Tryd.f35 none [.sl false false p0.length (encL (eI .i64) p0), .int .i64 p1] = some (.clean (.int .i64 r), none) := by
  refine vfunc_of rfl Tryd.ntmps35 Tryd.results35 ?_
  unfold r50_nth at hh
  try simp only [w, seval, -Int.reduceToNat]
  obtain ⟨o9, ho9, hh⟩ := bindS hh
  refine runLoop_sim (fun s t H e => match s with | s5a => t 0 = .sl false false p0.length (encL (eI .i64) p0) ∧ t 1 = .int .i64 p1 ∧ t 5 = .int .i64 s5a) (fun o x t H e => match o with | r => x = .ret ∧ endM .clean tab none [.tmp 4] ⟨t, H, e⟩ = some (.clean (.int .i64 r), none)) ho9 ?_ ?_ ?_
  ·
    refine ⟨?_, ?_, ?_⟩
    all_goals (first | rfl | (simp only [w, seval, -Int.reduceToNat] <;> rfl))
  · rintro s5a t H e ⟨t0a, t1a, t5a⟩ c hh
    simp only [r50_nth_L1] at hh
    try simp only [w, seval, -Int.reduceToNat, t0a, t1a, t5a]
    obtain ⟨o13, ho13, hh⟩ := bindS hh
    refine runLoop_sim (fun s t H e => match s with | (s6c, s7c) => t 0 = .sl false false p0.length (encL (eI .i64) p0) ∧ t 1 = .int .i64 p1 ∧ t 5 = .int .i64 s5a ∧ t 6 = .int .i64 s6c ∧ t 7 = .int .i64 s7c) (fun o x t H e => match o with | s6cx => x = .exit 2 ∧ t 0 = .sl false false p0.length (encL (eI .i64) p0) ∧ t 1 = .int .i64 p1 ∧ t 5 = .int .i64 s5a ∧ t 6 = .int .i64 s6cx) ho13 ?_ ?_ ?_
    ·
      refine ⟨?_, ?_, ?_, ?_, ?_⟩
      all_goals (first | rfl | (simp only [w, seval, -Int.reduceToNat, t0a, t1a, t5a] <;> rfl))
    · rintro ⟨s6c, s7c⟩ t H e ⟨t0c, t1c, t5c, t6c, t7c⟩ c hh
      simp only [r50_nth_L3] at hh
      try simp only [w, seval, -Int.reduceToNat, t0c, t1c, t5c, t6c, t7c]
      refine tstC_br (fun hb14 => ?_) (fun hb14 => ?_)
      · replace hh := ite_t hb14 hh
        obtain ⟨x15, hx15, hh⟩ := bindS hh
        have bx15 := idx_bd hx15
        have ax15 := idx_enc (eI .i64) hx15
        have fx15 := idx_fit (eI .i64) hx15
        simp only [vmz] at ax15 fx15
        skip
        try simp only [w, seval, -Int.reduceToNat, t0c, t1c, t5c, t6c, t7c, bx15, ax15, fx15]
        refine tstC_br (fun hb16 => ?_) (fun hb16 => ?_)
        · replace hh := ite_t hb16 hh
          cases hh
          try simp only [w, seval, -Int.reduceToNat, t0c, t1c, t5c, t6c, t7c, bx15, ax15, fx15]
          rw [LK_normal]
          refine ⟨_, rfl, ?_⟩
          refine ⟨?_, ?_, ?_, ?_, ?_⟩
          all_goals (first | rfl | (simp only [w, seval, -Int.reduceToNat, t0c, t1c, t5c, t6c, t7c, bx15, ax15, fx15] <;> rfl))
        · replace hh := ite_f hb16 hh
          cases hh
          try simp only [w, seval, -Int.reduceToNat, t0c, t1c, t5c, t6c, t7c, bx15, ax15, fx15]
          rw [LK_normal]
          refine ⟨_, rfl, ?_⟩
          refine ⟨?_, ?_, ?_, ?_, ?_⟩
          all_goals (first | rfl | (simp only [w, seval, -Int.reduceToNat, t0c, t1c, t5c, t6c, t7c, bx15, ax15, fx15] <;> rfl))
      · replace hh := ite_f hb14 hh
        cases hh
        try simp only [w, seval, -Int.reduceToNat, t0c, t1c, t5c, t6c, t7c]
        rw [LK_exit]
        refine ⟨_, rfl, ?_⟩
        refine ⟨rfl, ⟨?_, ?_, ?_, ?_⟩⟩
        all_goals (first | rfl | (simp only [w, seval, -Int.reduceToNat, t0c, t1c, t5c, t6c, t7c] <;> rfl))
    · rintro x t H e hx
      obtain ⟨s6cx, rfl⟩ : ∃ z, z = o13 := ⟨_, rfl⟩
      dsimp only at hx hh
      obtain ⟨rfl, ⟨t0cx, t1cx, t5cx, t6cx⟩⟩ := hx
      try simp only [w, seval, -Int.reduceToNat, t0cx, t1cx, t5cx, t6cx]
      refine tstC_br (fun hb17 => ?_) (fun hb17 => ?_)
      · replace hh := ite_t hb17 hh
        cases hh
        try simp only [w, seval, -Int.reduceToNat, t0cx, t1cx, t5cx, t6cx]
        rw [LK_ret]
        refine ⟨_, rfl, ?_⟩
        refine ⟨rfl, ?_⟩
        try simp only [w, seval, -Int.reduceToNat, t0cx, t1cx, t5cx, t6cx]
      · replace hh := ite_f hb17 hh
        cases hh
        try simp only [w, seval, -Int.reduceToNat, t0cx, t1cx, t5cx, t6cx]
        rw [LK_normal]
        refine ⟨_, rfl, ?_⟩
        refine ⟨?_, ?_, ?_⟩
        all_goals (first | rfl | (simp only [w, seval, -Int.reduceToNat, t0cx, t1cx, t5cx, t6cx] <;> rfl))
  · rintro x t H e hx
    rcases o9 with ra
    dsimp only at hx hh
    obtain ⟨rfl, hE⟩ := hx
    cases hh
    try simp only [runW_pass_ret, runW_pass_exit, runW_blk_ret, runW_nil, endW_ret]
    exact hE

theorem ok_r50_nth : COk Tryd.prog 35 G_r50_nth := COk.of (mode := .clean) tok GOk.none mixed Tryd.func35 (by kernel_rfl) ⟨by kernel_rfl, by kernel_rfl⟩ (fun _ => Nat.le_of_ble_eq_true (by kernel_rfl)) (fun x r h => m_r50_nth x.1 x.2 r h)

noncomputable def G_r50_Draw := mkG (asC (aSl (eI .i64)) (as1 (aI .i64))) (fun x : (List Int) × Int => r50_Draw x.1 x.2) (fun r : (List Int) × Int => .clean (.tup [.sl false false r.1.length (encL (eI .i64) r.1), .int .i64 r.2]))

theorem q_r50_Draw (p0 : (List Int)) (p1 : Int) : G_r50_Draw none [.sl false false p0.length (encL (eI .i64) p0), .int .i64 p1] = (r50_Draw p0 p1).map fun r : (List Int) × Int => (.clean (.tup [.sl false false r.1.length (encL (eI .i64) r.1), .int .i64 r.2]), none) := mkG_eq _ _ _ (p0, p1)

noncomputable def g_r50_Draw : Env := (Am.ext (Am.ext noEnv 19 false G_r50_Right) 35 false G_r50_nth)

theorem ge_r50_Draw : GOk Tryd.prog g_r50_Draw := ((GOk.none.add ok_r50_Right false).add ok_r50_nth false)

theorem gg_r50_Draw : g_r50_Draw = (Am.ext (Am.ext noEnv 19 false G_r50_Right) 35 false G_r50_nth) := Eq.trans rfl rfl

theorem x_r50_Draw : type_of% (And.intro @w <| And.intro @q_r50_Right <| And.intro @q_r50_nth <| @gg_r50_Draw) := And.intro @w <| And.intro @q_r50_Right <| And.intro @q_r50_nth <| @gg_r50_Draw

theorem m_r50_Draw (p0 : (List Int)) (p1 : Int) (r : (List Int) × Int) (hh : r50_Draw p0 p1 = some r) : vfunc .clean tab g_r50_Draw FU Tryd.f23 none [.sl false false p0.length (encL (eI .i64) p0), .int .i64 p1] = some (.clean (.tup [.sl false false r.1.length (encL (eI .i64) r.1), .int .i64 r.2]), none) := by
  refine vfunc_of rfl Tryd.ntmps23 Tryd.results23 ?_
  unfold r50_Draw at hh
  obtain ⟨r1, hr1, hh⟩ := bindS hh
  try simp only [x_r50_Draw, seval, -Int.reduceToNat, hr1]
  refine tstC_br (fun hb2 => ?_) (fun hb2 => ?_)
  · replace hh := ite_t hb2 hh
    cases hh
    try simp only [x_r50_Draw, seval, -Int.reduceToNat, hr1]
  · replace hh := ite_f hb2 hh
    try simp only [x_r50_Draw, seval, -Int.reduceToNat, hr1]
    obtain ⟨o8, ho8, hh⟩ := bindS hh
    refine runLoop_sim (fun s t H e => match s with | (s7a, l6a) => ∃ v6a : Nat, t 0 = .sl false false p0.length (encL (eI .i64) p0) ∧ t 6 = .buf 6 v6a 1 0 (l6a).length ∧ t 7 = .int .i64 s7a ∧ H 6 = some ⟨v6a, 3, encL (eI .i64) l6a, false, true, false⟩) (fun o x t H e => match o with | l6ax => x = .exit 0 ∧ ∃ v6ax : Nat, t 6 = .buf 6 v6ax 1 0 (l6ax).length ∧ H 6 = some ⟨v6ax, 3, encL (eI .i64) l6ax, false, true, false⟩) ho8 ?_ ?_ ?_
    ·
      refine ⟨2, ?_, ?_, ?_, ?_⟩
      all_goals (first | rfl | (simp only [x_r50_Draw, seval, -Int.reduceToNat, hr1] <;> rfl))
    · rintro ⟨s7a, l6a⟩ t H e ⟨v6a, t0a, t6a, t7a, H6a⟩ c hh
      simp only [r50_Draw_L1] at hh
      try simp only [x_r50_Draw, seval, -Int.reduceToNat, hr1, t0a, t6a, t7a, H6a]
      refine tstC_br (fun hb9 => ?_) (fun hb9 => ?_)
      · replace hh := ite_t hb9 hh
        obtain ⟨x10, hx10, hh⟩ := bindS hh
        have bx10 := idx_bd hx10
        have ax10 := idx_enc (eI .i64) hx10
        have fx10 := idx_fit (eI .i64) hx10
        simp only [vmz] at ax10 fx10
        skip
        obtain ⟨r11, hr11, hh⟩ := bindS hh
        obtain ⟨x12, hx12, hh⟩ := bindS hh
        obtain ⟨q13a, q13b, q13c, q13d⟩ := app_one (eI .i64) hx12
        simp only [vmz] at q13b
        cases hh
        try simp only [x_r50_Draw, seval, -Int.reduceToNat, hr1, t0a, t6a, t7a, H6a, bx10, ax10, fx10, hr11, q13a, q13b, q13c, q13d]
        rw [LK_normal]
        refine ⟨_, rfl, ?_⟩
        refine ⟨e + 1, ?_, ?_, ?_, ?_⟩
        all_goals (first | rfl | (simp only [x_r50_Draw, seval, -Int.reduceToNat, hr1, t0a, t6a, t7a, H6a, bx10, ax10, fx10, hr11, q13a, q13b, q13c, q13d] <;> rfl))
      · replace hh := ite_f hb9 hh
        cases hh
        try simp only [x_r50_Draw, seval, -Int.reduceToNat, hr1, t0a, t6a, t7a, H6a]
        rw [LK_exit]
        refine ⟨_, rfl, ?_⟩
        refine ⟨rfl, ⟨v6a, ?_, ?_⟩⟩
        all_goals (first | rfl | (simp only [x_r50_Draw, seval, -Int.reduceToNat, hr1, t0a, t6a, t7a, H6a] <;> rfl))
    · rintro x t H e hx
      obtain ⟨l6ax, rfl⟩ : ∃ z, z = o8 := ⟨_, rfl⟩
      dsimp only at hx hh
      obtain ⟨rfl, ⟨v6ax, t6ax, H6ax⟩⟩ := hx
      cases hh
      try simp only [x_r50_Draw, seval, -Int.reduceToNat, hr1, t6ax, H6ax]

theorem ok_r50_Draw : COk Tryd.prog 23 G_r50_Draw := COk.of (mode := .clean) tok ge_r50_Draw mixed Tryd.func23 (by kernel_rfl) ⟨by kernel_rfl, by kernel_rfl⟩ (fun _ => Nat.le_of_ble_eq_true (by kernel_rfl)) (fun x r h => m_r50_Draw x.1 x.2 r h)

noncomputable def G_tape_Find_1 := mkG (asC (aI .i64) (as1 (aIp (eI .i64)))) (fun x : Int × Int => tape_Find_1 x.1 x.2) (fun r : Bool => .clean (.bool r))

theorem q_tape_Find_1 (p0 : Int) (p1 : Int) : G_tape_Find_1 none [.int .i64 p0, .ip [.int .i64 p1]] = (tape_Find_1 p0 p1).map fun r : Bool => (.clean (.bool r), none) := mkG_eq _ _ _ (p0, p1)

theorem m_tape_Find_1 (p0 : Int) (p1 : Int) (r : Bool) (hh : tape_Find_1 p0 p1 = some r) : vfunc .clean tab noEnv FU Tryd.f36 none [.int .i64 p0, .ip [.int .i64 p1]] = some (.clean (.bool r), none) := by
  refine vfunc_of rfl Tryd.ntmps36 Tryd.results36 ?_
  unfold tape_Find_1 at hh
  try simp only [w, seval, -Int.reduceToNat]
  refine tstO_br' (fun hb1 => ?_) (fun hb1 => ?_)
  · replace hh := ite_t hb1 hh
    cases hh
    try simp only [w, seval, -Int.reduceToNat]
  · replace hh := ite_f hb1 hh
    cases hh
    try simp only [w, seval, -Int.reduceToNat]

theorem ok_tape_Find_1 : COk Tryd.prog 36 G_tape_Find_1 := COk.of (mode := .clean) tok GOk.none mixed Tryd.func36 (by kernel_rfl) ⟨by kernel_rfl, by kernel_rfl⟩ (fun _ => Nat.le_of_ble_eq_true (by kernel_rfl)) (fun x r h => m_tape_Find_1 x.1 x.2 r h)

noncomputable def G_slices_IndexFunc_tape_Find_1 := mkG (asC (aSl (eI .i64)) (as1 (aClo 36 0 (as1 (aIp (eI .i64)))))) (fun x : (List Int) × (Int) => slices_IndexFunc_tape_Find_1 x.1 x.2) (fun r : Int => .clean (.int .i64 r))

theorem q_slices_IndexFunc_tape_Find_1 (p0 : (List Int)) (p1c0 : Int) : G_slices_IndexFunc_tape_Find_1 none [.sl false false p0.length (encL (eI .i64) p0), .clo 36 0 [.ip [.int .i64 p1c0]]] = (slices_IndexFunc_tape_Find_1 p0 p1c0).map fun r : Int => (.clean (.int .i64 r), none) := mkG_eq _ _ _ (p0, (p1c0))

noncomputable def g_slices_IndexFunc_tape_Find_1 : Env := (Am.ext noEnv 36 false G_tape_Find_1)

theorem ge_slices_IndexFunc_tape_Find_1 : GOk Tryd.prog g_slices_IndexFunc_tape_Find_1 := (GOk.none.add ok_tape_Find_1 false)

theorem gg_slices_IndexFunc_tape_Find_1 : g_slices_IndexFunc_tape_Find_1 = (Am.ext noEnv 36 false G_tape_Find_1) := Eq.trans rfl rfl

theorem x_slices_IndexFunc_tape_Find_1 : type_of% (And.intro @w <| And.intro @q_tape_Find_1 <| @gg_slices_IndexFunc_tape_Find_1) := And.intro @w <| And.intro @q_tape_Find_1 <| @gg_slices_IndexFunc_tape_Find_1

theorem m_slices_IndexFunc_tape_Find_1 (p0 : (List Int)) (p1c0 : Int) (r : Int) (hh : slices_IndexFunc_tape_Find_1 p0 p1c0 = some r) : vfunc .clean tab g_slices_IndexFunc_tape_Find_1 FU Tryd.f55 none [.sl false false p0.length (encL (eI .i64) p0), .clo 36 0 [.ip [.int .i64 p1c0]]] = some (.clean (.int .i64 r), none) := by
  refine vfunc_of rfl Tryd.ntmps55 Tryd.results55 ?_
  unfold slices_IndexFunc_tape_Find_1 at hh
  try simp only [x_slices_IndexFunc_tape_Find_1, seval, -Int.reduceToNat]
  obtain ⟨o5, ho5, hh⟩ := bindS hh
  refine runLoop_sim (fun s t H e => match s with | s8a => t 0 = .sl false false p0.length (encL (eI .i64) p0) ∧ t 1 = .clo 36 0 [.ip [.int .i64 p1c0]] ∧ t 7 = .int .i64 (p0.length : Int) ∧ t 8 = .int .i64 s8a) (fun o x t H e => match o with | (.inl _) => x = .exit 0 | (.inr r) => x = .ret ∧ endM .clean tab none [.tmp 4] ⟨t, H, e⟩ = some (.clean (.int .i64 r), none)) ho5 ?_ ?_ ?_
  ·
    refine ⟨?_, ?_, ?_, ?_⟩
    all_goals (first | rfl | (simp only [x_slices_IndexFunc_tape_Find_1, seval, -Int.reduceToNat] <;> rfl))
  · rintro s8a t H e ⟨t0a, t1a, t7a, t8a⟩ c hh
    simp only [slices_IndexFunc_tape_Find_1_L1] at hh
    try simp only [x_slices_IndexFunc_tape_Find_1, seval, -Int.reduceToNat, t0a, t1a, t7a, t8a]
    refine tstC_br (fun hb6 => ?_) (fun hb6 => ?_)
    · replace hh := ite_t hb6 hh
      obtain ⟨x7, hx7, hh⟩ := bindS hh
      have bx7 := idx_bd hx7
      have ax7 := idx_enc (eI .i64) hx7
      have fx7 := idx_fit (eI .i64) hx7
      simp only [vmz] at ax7 fx7
      skip
      obtain ⟨r8, hr8, hh⟩ := bindS hh
      try simp only [x_slices_IndexFunc_tape_Find_1, seval, -Int.reduceToNat, t0a, t1a, t7a, t8a, bx7, ax7, fx7, hr8]
      refine tstC_br (fun hb9 => ?_) (fun hb9 => ?_)
      · replace hh := ite_t hb9 hh
        cases hh
        try simp only [x_slices_IndexFunc_tape_Find_1, seval, -Int.reduceToNat, t0a, t1a, t7a, t8a, bx7, ax7, fx7, hr8]
        rw [LK_ret]
        refine ⟨_, rfl, ?_⟩
        refine ⟨rfl, ?_⟩
        try simp only [x_slices_IndexFunc_tape_Find_1, seval, -Int.reduceToNat, t0a, t1a, t7a, t8a, bx7, ax7, fx7, hr8]
      · replace hh := ite_f hb9 hh
        cases hh
        try simp only [x_slices_IndexFunc_tape_Find_1, seval, -Int.reduceToNat, t0a, t1a, t7a, t8a, bx7, ax7, fx7, hr8]
        rw [LK_normal]
        refine ⟨_, rfl, ?_⟩
        refine ⟨?_, ?_, ?_, ?_⟩
        all_goals (first | rfl | (simp only [x_slices_IndexFunc_tape_Find_1, seval, -Int.reduceToNat, t0a, t1a, t7a, t8a, bx7, ax7, fx7, hr8] <;> rfl))
    · replace hh := ite_f hb6 hh
      cases hh
      try simp only [x_slices_IndexFunc_tape_Find_1, seval, -Int.reduceToNat, t0a, t1a, t7a, t8a]
      rw [LK_exit]
      refine ⟨_, rfl, ?_⟩
      exact rfl
  · rintro x t H e hx
    rcases o5 with _ | ra
    ·
      dsimp only at hx hh
      subst hx
      cases hh
      try simp only [x_slices_IndexFunc_tape_Find_1, seval, -Int.reduceToNat]
    ·
      dsimp only at hx hh
      obtain ⟨rfl, hE⟩ := hx
      cases hh
      try simp only [runW_pass_ret, runW_pass_exit, runW_blk_ret, runW_nil, endW_ret]
      exact hE

theorem ok_slices_IndexFunc_tape_Find_1 : COk Tryd.prog 55 G_slices_IndexFunc_tape_Find_1 := COk.of (mode := .clean) tok ge_slices_IndexFunc_tape_Find_1 mixed Tryd.func55 (by kernel_rfl) ⟨by kernel_rfl, by kernel_rfl⟩ (fun _ => Nat.le_of_ble_eq_true (by kernel_rfl)) (fun x r h => m_slices_IndexFunc_tape_Find_1 x.1 x.2 r h)

noncomputable def G_slices_ContainsFunc_tape_Find_1 := mkG (asC (aSl (eI .i64)) (as1 (aClo 36 0 (as1 (aIp (eI .i64)))))) (fun x : (List Int) × (Int) => slices_ContainsFunc_tape_Find_1 x.1 x.2) (fun r : Bool => .clean (.bool r))

theorem q_slices_ContainsFunc_tape_Find_1 (p0 : (List Int)) (p1c0 : Int) : G_slices_ContainsFunc_tape_Find_1 none [.sl false false p0.length (encL (eI .i64) p0), .clo 36 0 [.ip [.int .i64 p1c0]]] = (slices_ContainsFunc_tape_Find_1 p0 p1c0).map fun r : Bool => (.clean (.bool r), none) := mkG_eq _ _ _ (p0, (p1c0))

noncomputable def g_slices_ContainsFunc_tape_Find_1 : Env := (Am.ext noEnv 55 false G_slices_IndexFunc_tape_Find_1)

theorem ge_slices_ContainsFunc_tape_Find_1 : GOk Tryd.prog g_slices_ContainsFunc_tape_Find_1 := (GOk.none.add ok_slices_IndexFunc_tape_Find_1 false)

theorem gg_slices_ContainsFunc_tape_Find_1 : g_slices_ContainsFunc_tape_Find_1 = (Am.ext noEnv 55 false G_slices_IndexFunc_tape_Find_1) := Eq.trans rfl rfl

theorem x_slices_ContainsFunc_tape_Find_1 : type_of% (And.intro @w <| And.intro @q_slices_IndexFunc_tape_Find_1 <| @gg_slices_ContainsFunc_tape_Find_1) := And.intro @w <| And.intro @q_slices_IndexFunc_tape_Find_1 <| @gg_slices_ContainsFunc_tape_Find_1

theorem m_slices_ContainsFunc_tape_Find_1 (p0 : (List Int)) (p1c0 : Int) (r : Bool) (hh : slices_ContainsFunc_tape_Find_1 p0 p1c0 = some r) : vfunc .clean tab g_slices_ContainsFunc_tape_Find_1 FU Tryd.f37 none [.sl false false p0.length (encL (eI .i64) p0), .clo 36 0 [.ip [.int .i64 p1c0]]] = some (.clean (.bool r), none) := by
  refine vfunc_of rfl Tryd.ntmps37 Tryd.results37 ?_
  unfold slices_ContainsFunc_tape_Find_1 at hh
  obtain ⟨r1, hr1, hh⟩ := bindS hh
  cases hh
  try simp only [x_slices_ContainsFunc_tape_Find_1, seval, -Int.reduceToNat, hr1]

theorem ok_slices_ContainsFunc_tape_Find_1 : COk Tryd.prog 37 G_slices_ContainsFunc_tape_Find_1 := COk.of (mode := .clean) tok ge_slices_ContainsFunc_tape_Find_1 mixed Tryd.func37 (by kernel_rfl) ⟨by kernel_rfl, by kernel_rfl⟩ (fun _ => Nat.le_of_ble_eq_true (by kernel_rfl)) (fun x r h => m_slices_ContainsFunc_tape_Find_1 x.1 x.2 r h)

noncomputable def G_tape_Find := mkG (asC (aSl (eI .i64)) (as1 (aI .i64))) (fun x : (List Int) × Int => tape_Find x.1 x.2) (fun r : (List Int) × Int => .clean (.tup [.sl false false r.1.length (encL (eI .i64) r.1), .int .i64 r.2]))

theorem q_tape_Find (p0 : (List Int)) (p1 : Int) : G_tape_Find none [.sl false false p0.length (encL (eI .i64) p0), .int .i64 p1] = (tape_Find p0 p1).map fun r : (List Int) × Int => (.clean (.tup [.sl false false r.1.length (encL (eI .i64) r.1), .int .i64 r.2]), none) := mkG_eq _ _ _ (p0, p1)

noncomputable def g_tape_Find : Env := (Am.ext (Am.ext (Am.ext noEnv 29 false G_tape_twice) 37 false G_slices_ContainsFunc_tape_Find_1) 38 false G_slices_Clone)

theorem ge_tape_Find : GOk Tryd.prog g_tape_Find := (((GOk.none.add ok_tape_twice false).add ok_slices_ContainsFunc_tape_Find_1 false).add ok_slices_Clone false)

theorem gg_tape_Find : g_tape_Find = (Am.ext (Am.ext (Am.ext noEnv 29 false G_tape_twice) 37 false G_slices_ContainsFunc_tape_Find_1) 38 false G_slices_Clone) := Eq.trans rfl rfl

theorem x_tape_Find : type_of% (And.intro @w <| And.intro @q_tape_twice <| And.intro @q_slices_ContainsFunc_tape_Find_1 <| And.intro @q_slices_Clone <| @gg_tape_Find) := And.intro @w <| And.intro @q_tape_twice <| And.intro @q_slices_ContainsFunc_tape_Find_1 <| And.intro @q_slices_Clone <| @gg_tape_Find

theorem m_tape_Find (p0 : (List Int)) (p1 : Int) (r : (List Int) × Int) (hh : tape_Find p0 p1 = some r) : vfunc .clean tab g_tape_Find FU Tryd.f24 none [.sl false false p0.length (encL (eI .i64) p0), .int .i64 p1] = some (.clean (.tup [.sl false false r.1.length (encL (eI .i64) r.1), .int .i64 r.2]), none) := by
  refine vfunc_of rfl Tryd.ntmps24 Tryd.results24 ?_
  unfold tape_Find at hh
  try simp only [x_tape_Find, seval, -Int.reduceToNat]
  obtain ⟨o1, ho1, hh⟩ := bindS hh
  refine tstO_cut 0 (fun s t H e => match s with | s12j1 => t 0 = .sl false false p0.length (encL (eI .i64) p0) ∧ t 12 = .bool s12j1) (fun s => s = o1) ?_ ?_
  · rintro s12j1 t H e ⟨t0j1, t12j1⟩ rfl
    try dsimp only at hh
    try simp only [x_tape_Find, seval, -Int.reduceToNat, t0j1, t12j1]
    refine tstC_br (fun hb2 => ?_) (fun hb2 => ?_)
    · replace hh := ite_t hb2 hh
      cases hh
      try simp only [x_tape_Find, seval, -Int.reduceToNat, t0j1, t12j1]
    · replace hh := ite_f hb2 hh
      obtain ⟨r3, hr3, hh⟩ := bindS hh
      try simp only [x_tape_Find, seval, -Int.reduceToNat, t0j1, t12j1, hr3]
      refine tstC_br (fun hb4 => ?_) (fun hb4 => ?_)
      · replace hh := ite_t hb4 hh
        cases hh
        try simp only [x_tape_Find, seval, -Int.reduceToNat, t0j1, t12j1, hr3]
      · replace hh := ite_f hb4 hh
        obtain ⟨r5, hr5, hh⟩ := bindS hh
        try simp only [x_tape_Find, seval, -Int.reduceToNat, t0j1, t12j1, hr3, hr5]
        obtain ⟨o22, ho22, hh⟩ := bindS hh
        refine runLoop_sim (fun s t H e => match s with | (s36b, l7b) => ∃ v7b : Nat, t 0 = .sl false false p0.length (encL (eI .i64) p0) ∧ t 7 = .buf 7 v7b 1 0 (l7b).length ∧ t 35 = .int .i64 ((r5).length : Int) ∧ t 36 = .int .i64 s36b ∧ H 7 = some ⟨v7b, 3, encL (eI .i64) l7b, false, true, false⟩) (fun o x t H e => match o with | l7bx => x = .exit 1 ∧ ∃ v7bx : Nat, t 7 = .buf 7 v7bx 1 0 (l7bx).length ∧ H 7 = some ⟨v7bx, 3, encL (eI .i64) l7bx, false, true, false⟩) ho22 ?_ ?_ ?_
        ·
          refine ⟨e + 1, ?_, ?_, ?_, ?_, ?_⟩
          all_goals (first | rfl | (simp only [x_tape_Find, seval, -Int.reduceToNat, t0j1, t12j1, hr3, hr5] <;> rfl))
        · rintro ⟨s36b, l7b⟩ t H e ⟨v7b, t0b, t7b, t35b, t36b, H7b⟩ c hh
          simp only [tape_Find_L2] at hh
          try simp only [x_tape_Find, seval, -Int.reduceToNat, hr3, hr5, t0b, t7b, t35b, t36b, H7b]
          refine tstC_br (fun hb23 => ?_) (fun hb23 => ?_)
          · replace hh := ite_t hb23 hh
            obtain ⟨x24, hx24, hh⟩ := bindS hh
            obtain ⟨q25a, q25b, q25c, q25d, q25e⟩ := slc_nh (eI .i64) hx24
            simp only [vmz] at q25e
            try simp only [x_tape_Find, seval, -Int.reduceToNat, hr3, hr5, t0b, t7b, t35b, t36b, H7b, q25a, q25b, q25c, q25d, q25e]
            obtain ⟨o32, ho32, hh⟩ := bindS hh
            refine runLoop_sim (fun s t H e => match s with | (s43d, l7d) => ∃ v7d : Nat, t 0 = .sl false false p0.length (encL (eI .i64) p0) ∧ t 7 = .buf 7 v7d 1 0 (l7d).length ∧ t 8 = .int .i64 s36b ∧ t 35 = .int .i64 ((r5).length : Int) ∧ t 36 = .int .i64 s36b ∧ t 41 = .sl false false x24.length (encL (eI .i64) x24) ∧ t 42 = .int .i64 (x24.length : Int) ∧ t 43 = .int .i64 s43d ∧ H 7 = some ⟨v7d, 3, encL (eI .i64) l7d, false, true, false⟩) (fun o x t H e => match o with | l7dx => x = .exit 3 ∧ ∃ v7dx : Nat, t 0 = .sl false false p0.length (encL (eI .i64) p0) ∧ t 7 = .buf 7 v7dx 1 0 (l7dx).length ∧ t 35 = .int .i64 ((r5).length : Int) ∧ t 36 = .int .i64 s36b ∧ H 7 = some ⟨v7dx, 3, encL (eI .i64) l7dx, false, true, false⟩) ho32 ?_ ?_ ?_
            ·
              refine ⟨v7b, ?_, ?_, ?_, ?_, ?_, ?_, ?_, ?_, ?_⟩
              all_goals (first | rfl | (simp only [x_tape_Find, seval, -Int.reduceToNat, hr3, hr5, t0b, t7b, t35b, t36b, H7b, q25a, q25b, q25c, q25d, q25e] <;> rfl))
            · rintro ⟨s43d, l7d⟩ t H e ⟨v7d, t0d, t7d, t8d, t35d, t36d, t41d, t42d, t43d, H7d⟩ c hh
              simp only [tape_Find_L4] at hh
              try simp only [x_tape_Find, seval, -Int.reduceToNat, hr3, hr5, q25a, q25b, q25c, q25d, q25e, t0d, t7d, t8d, t35d, t36d, t41d, t42d, t43d, H7d]
              refine tstC_br (fun hb33 => ?_) (fun hb33 => ?_)
              · replace hh := ite_t hb33 hh
                obtain ⟨x34, hx34, hh⟩ := bindS hh
                have bx34 := idx_bd hx34
                have ax34 := idx_enc (eI .i64) hx34
                have fx34 := idx_fit (eI .i64) hx34
                simp only [vmz] at ax34 fx34
                skip
                obtain ⟨x35, hx35, hh⟩ := bindS hh
                have bx35 := idx_bd hx35
                have ax35 := idx_enc (eI .i64) hx35
                have fx35 := idx_fit (eI .i64) hx35
                simp only [vmz] at ax35 fx35
                skip
                try simp only [x_tape_Find, seval, -Int.reduceToNat, hr3, hr5, q25a, q25b, q25c, q25e, t0d, t7d, t8d, t35d, t36d, t41d, t42d, t43d, H7d, bx34, ax34, fx34, bx35, ax35, fx35]
                refine tstC_br (fun hb36 => ?_) (fun hb36 => ?_)
                · replace hh := ite_t hb36 hh
                  obtain ⟨x37, hx37, hh⟩ := bindS hh
                  have bx37 := idx_bd hx37
                  have ax37 := idx_enc (eI .i64) hx37
                  have fx37 := idx_fit (eI .i64) hx37
                  simp only [vmz] at ax37 fx37
                  skip
                  have bx37 := idx_bd hx37
                  have ax37 := idx_enc (eI .i64) hx37
                  have fx37 := idx_fit (eI .i64) hx37
                  simp only [vmz] at ax37 fx37
                  skip
                  have p38 := put_enc (eI .i64) (x' := IntKind.i64.wrap (x37 - 1)) (fo := 0) (cs := [.int .i64 (IntKind.i64.wrap (x37 - 1))]) hx37 rfl (Nat.le_of_ble_eq_true rfl)
                  simp only [vmz, Nat.add_zero] at p38
                  have up38 := p38
                  simp only [putCells, List.length_cons, List.length_nil, Nat.zero_add, Nat.reduceAdd] at up38
                  cases hh
                  try simp only [x_tape_Find, seval, -Int.reduceToNat, hr3, hr5, q25a, q25b, q25c, q25e, t0d, t7d, t8d, t35d, t36d, t41d, t42d, t43d, H7d, bx34, ax34, fx34, bx35, ax35, fx35, bx37, ax37, fx37, bx37, ax37, fx37, p38, up38]
                  rw [LK_normal]
                  refine ⟨_, rfl, ?_⟩
                  refine ⟨v7d, ?_, ?_, ?_, ?_, ?_, ?_, ?_, ?_, ?_⟩
                  all_goals (first | rfl | (simp only [x_tape_Find, seval, -Int.reduceToNat, hr3, hr5, q25a, q25b, q25c, q25e, t0d, t7d, t8d, t35d, t36d, t41d, t42d, t43d, H7d, bx34, ax34, fx34, bx35, ax35, fx35, bx37, ax37, fx37, bx37, ax37, fx37, p38, up38] <;> rfl))
                · replace hh := ite_f hb36 hh
                  cases hh
                  try simp only [x_tape_Find, seval, -Int.reduceToNat, hr3, hr5, q25a, q25b, q25c, q25e, t0d, t7d, t8d, t35d, t36d, t41d, t42d, t43d, H7d, bx34, ax34, fx34, bx35, ax35, fx35]
                  rw [LK_normal]
                  refine ⟨_, rfl, ?_⟩
                  refine ⟨v7d, ?_, ?_, ?_, ?_, ?_, ?_, ?_, ?_, ?_⟩
                  all_goals (first | rfl | (simp only [x_tape_Find, seval, -Int.reduceToNat, hr3, hr5, q25a, q25b, q25c, q25e, t0d, t7d, t8d, t35d, t36d, t41d, t42d, t43d, H7d, bx34, ax34, fx34, bx35, ax35, fx35] <;> rfl))
              · replace hh := ite_f hb33 hh
                cases hh
                try simp only [x_tape_Find, seval, -Int.reduceToNat, hr3, hr5, q25a, q25b, q25c, q25d, q25e, t0d, t7d, t8d, t35d, t36d, t41d, t42d, t43d, H7d]
                rw [LK_exit]
                refine ⟨_, rfl, ?_⟩
                refine ⟨rfl, ⟨v7d, ?_, ?_, ?_, ?_, ?_⟩⟩
                all_goals (first | rfl | (simp only [x_tape_Find, seval, -Int.reduceToNat, hr3, hr5, q25a, q25b, q25c, q25d, q25e, t0d, t7d, t8d, t35d, t36d, t41d, t42d, t43d, H7d] <;> rfl))
            · rintro x t H e hx
              obtain ⟨l7dx, rfl⟩ : ∃ z, z = o32 := ⟨_, rfl⟩
              dsimp only at hx hh
              obtain ⟨rfl, ⟨v7dx, t0dx, t7dx, t35dx, t36dx, H7dx⟩⟩ := hx
              cases hh
              try simp only [x_tape_Find, seval, -Int.reduceToNat, hr3, hr5, q25a, q25b, q25c, q25d, q25e, t0dx, t7dx, t35dx, t36dx, H7dx]
              rw [LK_normal]
              refine ⟨_, rfl, ?_⟩
              refine ⟨v7dx, ?_, ?_, ?_, ?_, ?_⟩
              all_goals (first | rfl | (simp only [x_tape_Find, seval, -Int.reduceToNat, hr3, hr5, q25a, q25b, q25c, q25d, q25e, t0dx, t7dx, t35dx, t36dx, H7dx] <;> rfl))
          · replace hh := ite_f hb23 hh
            cases hh
            try simp only [x_tape_Find, seval, -Int.reduceToNat, hr3, hr5, t0b, t7b, t35b, t36b, H7b]
            rw [LK_exit]
            refine ⟨_, rfl, ?_⟩
            refine ⟨rfl, ⟨v7b, ?_, ?_⟩⟩
            all_goals (first | rfl | (simp only [x_tape_Find, seval, -Int.reduceToNat, hr3, hr5, t0b, t7b, t35b, t36b, H7b] <;> rfl))
        · rintro x t H e hx
          obtain ⟨l7bx, rfl⟩ : ∃ z, z = o22 := ⟨_, rfl⟩
          dsimp only at hx hh
          obtain ⟨rfl, ⟨v7bx, t7bx, H7bx⟩⟩ := hx
          cases hh
          try simp only [x_tape_Find, seval, -Int.reduceToNat, hr3, hr5, t7bx, H7bx]
  ·
    clear hh
    have hh := ho1
    try simp only [x_tape_Find, seval, -Int.reduceToNat]
    refine tstO_br' (fun hb39 => ?_) (fun hb39 => ?_)
    · replace hh := ite_t hb39 hh
      cases hh
      try simp only [x_tape_Find, seval, -Int.reduceToNat]
      rw [CK_normal]
      refine ⟨_, rfl, ?_⟩
      refine ⟨?_, ?_⟩
      all_goals (first | rfl | (simp only [x_tape_Find, seval, -Int.reduceToNat] <;> rfl))
    · replace hh := ite_f hb39 hh
      try simp only [x_tape_Find, seval, -Int.reduceToNat]
      refine tstO_br' (fun hb40 => ?_) (fun hb40 => ?_)
      · replace hh := ite_t hb40 hh
        cases hh
        try simp only [x_tape_Find, seval, -Int.reduceToNat]
        rw [CK_normal]
        refine ⟨_, rfl, ?_⟩
        refine ⟨?_, ?_⟩
        all_goals (first | rfl | (simp only [x_tape_Find, seval, -Int.reduceToNat] <;> rfl))
      · replace hh := ite_f hb40 hh
        try simp only [x_tape_Find, seval, -Int.reduceToNat]
        refine tstO_br' (fun hb41 => ?_) (fun hb41 => ?_)
        · replace hh := ite_t hb41 hh
          cases hh
          try simp only [x_tape_Find, seval, -Int.reduceToNat]
          rw [CK_normal]
          refine ⟨_, rfl, ?_⟩
          refine ⟨?_, ?_⟩
          all_goals (first | rfl | (simp only [x_tape_Find, seval, -Int.reduceToNat] <;> rfl))
        · replace hh := ite_f hb41 hh
          obtain ⟨r42, hr42, hh⟩ := bindS hh
          cases hh
          try simp only [x_tape_Find, seval, -Int.reduceToNat, hr42]
          rw [CK_normal]
          refine ⟨_, rfl, ?_⟩
          refine ⟨?_, ?_⟩
          all_goals (first | rfl | (simp only [x_tape_Find, seval, -Int.reduceToNat, hr42] <;> rfl))

theorem ok_tape_Find : COk Tryd.prog 24 G_tape_Find := COk.of (mode := .clean) tok ge_tape_Find mixed Tryd.func24 (by kernel_rfl) ⟨by kernel_rfl, by kernel_rfl⟩ (fun _ => Nat.le_of_ble_eq_true (by kernel_rfl)) (fun x r h => m_tape_Find x.1 x.2 r h)

noncomputable def G_r50_has := mkG (asC (aSl (eI .i64)) (as1 (aI .i64))) (fun x : (List Int) × Int => r50_has x.1 x.2) (fun r : Bool => .clean (.bool r))

theorem q_r50_has (p0 : (List Int)) (p1 : Int) : G_r50_has none [.sl false false p0.length (encL (eI .i64) p0), .int .i64 p1] = (r50_has p0 p1).map fun r : Bool => (.clean (.bool r), none) := mkG_eq _ _ _ (p0, p1)

theorem m_r50_has (p0 : (List Int)) (p1 : Int) (r : Bool) (hh : r50_has p0 p1 = some r) : vfunc .clean tab noEnv FU Tryd.f39 none [.sl false false p0.length (encL (eI .i64) p0), .int .i64 p1] = some (.clean (.bool r), none) := by
  refine vfunc_of rfl Tryd.ntmps39 Tryd.results39 ?_
  unfold r50_has at hh
  try simp only [w, seval, -Int.reduceToNat]
  obtain ⟨o4, ho4, hh⟩ := bindS hh
  refine runLoop_sim (fun s t H e => match s with | s5a => t 0 = .sl false false p0.length (encL (eI .i64) p0) ∧ t 1 = .int .i64 p1 ∧ t 5 = .int .i64 s5a) (fun o x t H e => match o with | (.inl _) => x = .exit 0 | (.inr r) => x = .ret ∧ endM .clean tab none [.tmp 4] ⟨t, H, e⟩ = some (.clean (.bool r), none)) ho4 ?_ ?_ ?_
  ·
    refine ⟨?_, ?_, ?_⟩
    all_goals (first | rfl | (simp only [w, seval, -Int.reduceToNat] <;> rfl))
  · rintro s5a t H e ⟨t0a, t1a, t5a⟩ c hh
    simp only [r50_has_L1] at hh
    try simp only [w, seval, -Int.reduceToNat, t0a, t1a, t5a]
    refine tstC_br (fun hb5 => ?_) (fun hb5 => ?_)
    · replace hh := ite_t hb5 hh
      obtain ⟨x6, hx6, hh⟩ := bindS hh
      have bx6 := idx_bd hx6
      have ax6 := idx_enc (eI .i64) hx6
      have fx6 := idx_fit (eI .i64) hx6
      simp only [vmz] at ax6 fx6
      skip
      try simp only [w, seval, -Int.reduceToNat, t0a, t1a, t5a, bx6, ax6, fx6]
      refine tstC_br (fun hb7 => ?_) (fun hb7 => ?_)
      · replace hh := ite_t hb7 hh
        cases hh
        try simp only [w, seval, -Int.reduceToNat, t0a, t1a, t5a, bx6, ax6, fx6]
        rw [LK_ret]
        refine ⟨_, rfl, ?_⟩
        refine ⟨rfl, ?_⟩
        try simp only [w, seval, -Int.reduceToNat, t0a, t1a, t5a, bx6, ax6, fx6]
      · replace hh := ite_f hb7 hh
        cases hh
        try simp only [w, seval, -Int.reduceToNat, t0a, t1a, t5a, bx6, ax6, fx6]
        rw [LK_normal]
        refine ⟨_, rfl, ?_⟩
        refine ⟨?_, ?_, ?_⟩
        all_goals (first | rfl | (simp only [w, seval, -Int.reduceToNat, t0a, t1a, t5a, bx6, ax6, fx6] <;> rfl))
    · replace hh := ite_f hb5 hh
      cases hh
      try simp only [w, seval, -Int.reduceToNat, t0a, t1a, t5a]
      rw [LK_exit]
      refine ⟨_, rfl, ?_⟩
      exact rfl
  · rintro x t H e hx
    rcases o4 with _ | ra
    ·
      dsimp only at hx hh
      subst hx
      cases hh
      try simp only [w, seval, -Int.reduceToNat]
    ·
      dsimp only at hx hh
      obtain ⟨rfl, hE⟩ := hx
      cases hh
      try simp only [runW_pass_ret, runW_pass_exit, runW_blk_ret, runW_nil, endW_ret]
      exact hE

theorem ok_r50_has : COk Tryd.prog 39 G_r50_has := COk.of (mode := .clean) tok GOk.none mixed Tryd.func39 (by kernel_rfl) ⟨by kernel_rfl, by kernel_rfl⟩ (fun _ => Nat.le_of_ble_eq_true (by kernel_rfl)) (fun x r h => m_r50_has x.1 x.2 r h)

noncomputable def G_r50_Find := mkG (asC (aSl (eI .i64)) (as1 (aI .i64))) (fun x : (List Int) × Int => r50_Find x.1 x.2) (fun r : (List Int) × Int => .clean (.tup [.sl false false r.1.length (encL (eI .i64) r.1), .int .i64 r.2]))

theorem q_r50_Find (p0 : (List Int)) (p1 : Int) : G_r50_Find none [.sl false false p0.length (encL (eI .i64) p0), .int .i64 p1] = (r50_Find p0 p1).map fun r : (List Int) × Int => (.clean (.tup [.sl false false r.1.length (encL (eI .i64) r.1), .int .i64 r.2]), none) := mkG_eq _ _ _ (p0, p1)

noncomputable def g_r50_Find : Env := (Am.ext noEnv 39 false G_r50_has)

theorem ge_r50_Find : GOk Tryd.prog g_r50_Find := (GOk.none.add ok_r50_has false)

theorem gg_r50_Find : g_r50_Find = (Am.ext noEnv 39 false G_r50_has) := Eq.trans rfl rfl

theorem x_r50_Find : type_of% (And.intro @w <| And.intro @q_r50_has <| @gg_r50_Find) := And.intro @w <| And.intro @q_r50_has <| @gg_r50_Find

theorem m_r50_Find (p0 : (List Int)) (p1 : Int) (r : (List Int) × Int) (hh : r50_Find p0 p1 = some r) : vfunc .clean tab g_r50_Find FU Tryd.f25 none [.sl false false p0.length (encL (eI .i64) p0), .int .i64 p1] = some (.clean (.tup [.sl false false r.1.length (encL (eI .i64) r.1), .int .i64 r.2]), none) := by
  refine vfunc_of rfl Tryd.ntmps25 Tryd.results25 ?_
  unfold r50_Find at hh
  try simp only [x_r50_Find, seval, -Int.reduceToNat]
  obtain ⟨o1, ho1, hh⟩ := bindS hh
  refine tstO_cut 0 (fun s t H e => match s with | s21j1 => t 0 = .sl false false p0.length (encL (eI .i64) p0) ∧ t 1 = .int .i64 p1 ∧ t 21 = .bool s21j1) (fun s => s = o1) ?_ ?_
  · rintro s21j1 t H e ⟨t0j1, t1j1, t21j1⟩ rfl
    try dsimp only at hh
    try simp only [x_r50_Find, seval, -Int.reduceToNat, t0j1, t1j1, t21j1]
    refine tstC_br (fun hb2 => ?_) (fun hb2 => ?_)
    · replace hh := ite_t hb2 hh
      cases hh
      try simp only [x_r50_Find, seval, -Int.reduceToNat, t0j1, t1j1, t21j1]
    · replace hh := ite_f hb2 hh
      try simp only [x_r50_Find, seval, -Int.reduceToNat, t0j1, t1j1, t21j1]
      obtain ⟨o7, ho7, hh⟩ := bindS hh
      refine runLoop_sim (fun s t H e => match s with | s6b => t 0 = .sl false false p0.length (encL (eI .i64) p0) ∧ t 1 = .int .i64 p1 ∧ t 6 = .int .i64 s6b) (fun o x t H e => match o with | (.inl _) => x = .exit 0 ∧ t 0 = .sl false false p0.length (encL (eI .i64) p0) | (.inr r) => x = .ret ∧ endM .clean tab none [.tmp 4, .tmp 5] ⟨t, H, e⟩ = some (.clean (.tup [.sl false false r.1.length (encL (eI .i64) r.1), .int .i64 r.2]), none)) ho7 ?_ ?_ ?_
      ·
        refine ⟨?_, ?_, ?_⟩
        all_goals (first | rfl | (simp only [x_r50_Find, seval, -Int.reduceToNat, t0j1, t1j1, t21j1] <;> rfl))
      · rintro s6b t H e ⟨t0b, t1b, t6b⟩ c hh
        simp only [r50_Find_L2] at hh
        try simp only [x_r50_Find, seval, -Int.reduceToNat, t0b, t1b, t6b]
        refine tstC_br (fun hb8 => ?_) (fun hb8 => ?_)
        · replace hh := ite_t hb8 hh
          obtain ⟨x9, hx9, hh⟩ := bindS hh
          have bx9 := idx_bd hx9
          have ax9 := idx_enc (eI .i64) hx9
          have fx9 := idx_fit (eI .i64) hx9
          simp only [vmz] at ax9 fx9
          skip
          try simp only [x_r50_Find, seval, -Int.reduceToNat, t0b, t1b, t6b, bx9, ax9, fx9]
          refine tstO_br' (fun hb10 => ?_) (fun hb10 => ?_)
          · replace hh := ite_t hb10 hh
            cases hh
            try simp only [x_r50_Find, seval, -Int.reduceToNat, t0b, t1b, t6b, bx9, ax9, fx9]
            rw [LK_ret]
            refine ⟨_, rfl, ?_⟩
            refine ⟨rfl, ?_⟩
            try simp only [x_r50_Find, seval, -Int.reduceToNat, t0b, t1b, t6b, bx9, ax9, fx9]
          · replace hh := ite_f hb10 hh
            have bx9 := idx_bd hx9
            have ax9 := idx_enc (eI .i64) hx9
            have fx9 := idx_fit (eI .i64) hx9
            simp only [vmz] at ax9 fx9
            skip
            try simp only [x_r50_Find, seval, -Int.reduceToNat, t0b, t1b, t6b, bx9, ax9, fx9, bx9, ax9, fx9]
            refine tstC_br (fun hb11 => ?_) (fun hb11 => ?_)
            · replace hh := ite_t hb11 hh
              cases hh
              try simp only [x_r50_Find, seval, -Int.reduceToNat, t0b, t1b, t6b, bx9, ax9, fx9, bx9, ax9, fx9]
              rw [LK_ret]
              refine ⟨_, rfl, ?_⟩
              refine ⟨rfl, ?_⟩
              try simp only [x_r50_Find, seval, -Int.reduceToNat, t0b, t1b, t6b, bx9, ax9, fx9, bx9, ax9, fx9]
            · replace hh := ite_f hb11 hh
              cases hh
              try simp only [x_r50_Find, seval, -Int.reduceToNat, t0b, t1b, t6b, bx9, ax9, fx9, bx9, ax9, fx9]
              rw [LK_normal]
              refine ⟨_, rfl, ?_⟩
              refine ⟨?_, ?_, ?_⟩
              all_goals (first | rfl | (simp only [x_r50_Find, seval, -Int.reduceToNat, t0b, t1b, t6b, bx9, ax9, fx9, bx9, ax9, fx9] <;> rfl))
        · replace hh := ite_f hb8 hh
          cases hh
          try simp only [x_r50_Find, seval, -Int.reduceToNat, t0b, t1b, t6b]
          rw [LK_exit]
          refine ⟨_, rfl, ?_⟩
          refine ⟨rfl, ?_⟩
          all_goals (first | rfl | (simp only [x_r50_Find, seval, -Int.reduceToNat, t0b, t1b, t6b] <;> rfl))
      · rintro x t H e hx
        rcases o7 with _ | rb
        ·
          dsimp only at hx hh
          obtain ⟨rfl, t0bx⟩ := hx
          try simp only [x_r50_Find, seval, -Int.reduceToNat, t0bx]
          obtain ⟨o28, ho28, hh⟩ := bindS hh
          refine runLoop_sim (fun s t H e => match s with | (s8c, l7c) => ∃ v7c : Nat, t 0 = .sl false false p0.length (encL (eI .i64) p0) ∧ t 7 = .buf 7 v7c 1 0 (l7c).length ∧ t 8 = .int .i64 s8c ∧ H 7 = some ⟨v7c, 3, encL (eI .i64) l7c, false, true, false⟩) (fun o x t H e => match o with | (.inl l7cx) => x = .exit 2 ∧ ∃ v7cx : Nat, t 7 = .buf 7 v7cx 1 0 (l7cx).length ∧ H 7 = some ⟨v7cx, 3, encL (eI .i64) l7cx, false, true, false⟩ | (.inr r) => x = .ret ∧ endM .clean tab none [.tmp 4, .tmp 5] ⟨t, H, e⟩ = some (.clean (.tup [.sl false false r.1.length (encL (eI .i64) r.1), .int .i64 r.2]), none)) ho28 ?_ ?_ ?_
          ·
            refine ⟨e, ?_, ?_, ?_, ?_⟩
            all_goals (first | rfl | (simp only [x_r50_Find, seval, -Int.reduceToNat, t0bx] <;> rfl))
          · rintro ⟨s8c, l7c⟩ t H e ⟨v7c, t0c, t7c, t8c, H7c⟩ c hh
            simp only [r50_Find_L3] at hh
            try simp only [x_r50_Find, seval, -Int.reduceToNat, t0c, t7c, t8c, H7c]
            refine tstC_br (fun hb29 => ?_) (fun hb29 => ?_)
            · replace hh := ite_t hb29 hh
              obtain ⟨x30, hx30, hh⟩ := bindS hh
              obtain ⟨q31a, q31b, q31c, q31d, q31e⟩ := slc_nh (eI .i64) hx30
              simp only [vmz] at q31e
              obtain ⟨x32, hx32, hh⟩ := bindS hh
              have bx32 := idx_bd hx32
              have ax32 := idx_enc (eI .i64) hx32
              have fx32 := idx_fit (eI .i64) hx32
              simp only [vmz] at ax32 fx32
              skip
              try simp only [q31d] at bx32 ax32 fx32
              obtain ⟨r33, hr33, hh⟩ := bindS hh
              try simp only [x_r50_Find, seval, -Int.reduceToNat, t0c, t7c, t8c, H7c, q31a, q31b, q31c, q31d, q31e, bx32, ax32, fx32, hr33]
              refine dyn_ok (by kernel_rfl) ?_
              try simp only [x_r50_Find, seval, -Int.reduceToNat, t0c, t7c, t8c, H7c, q31a, q31b, q31c, q31d, q31e, bx32, ax32, fx32, hr33]
              refine tstC_br (fun hb34 => ?_) (fun hb34 => ?_)
              · replace hh := ite_t hb34 hh
                cases hh
                try simp only [x_r50_Find, seval, -Int.reduceToNat, t0c, t7c, t8c, H7c, q31a, q31b, q31c, q31d, q31e, bx32, ax32, fx32, hr33]
                rw [LK_ret]
                refine ⟨_, rfl, ?_⟩
                refine ⟨rfl, ?_⟩
                try simp only [x_r50_Find, seval, -Int.reduceToNat, t0c, t7c, t8c, H7c, q31a, q31b, q31c, q31d, q31e, bx32, ax32, fx32, hr33]
              · replace hh := ite_f hb34 hh
                have bx32 := idx_bd hx32
                have ax32 := idx_enc (eI .i64) hx32
                have fx32 := idx_fit (eI .i64) hx32
                simp only [vmz] at ax32 fx32
                skip
                try simp only [x_r50_Find, seval, -Int.reduceToNat, t0c, t7c, t8c, H7c, q31a, q31b, q31c, q31e, bx32, ax32, fx32, hr33, bx32, ax32, fx32]
                obtain ⟨o39, ho39, hh⟩ := bindS hh
                refine runLoop_sim (fun s t H e => match s with | (s9e, s10e) => ∃ v7e : Nat, t 0 = .sl false false p0.length (encL (eI .i64) p0) ∧ t 7 = .buf 7 v7e 1 0 (l7c).length ∧ t 8 = .int .i64 s8c ∧ t 9 = .int .i64 s9e ∧ t 10 = .int .i64 s10e ∧ H 7 = some ⟨v7e, 3, encL (eI .i64) l7c, false, true, false⟩) (fun o x t H e => match o with | s9ex => x = .exit 4 ∧ ∃ v7ex : Nat, t 0 = .sl false false p0.length (encL (eI .i64) p0) ∧ t 7 = .buf 7 v7ex 1 0 (l7c).length ∧ t 8 = .int .i64 s8c ∧ t 9 = .int .i64 s9ex ∧ H 7 = some ⟨v7ex, 3, encL (eI .i64) l7c, false, true, false⟩) ho39 ?_ ?_ ?_
                ·
                  refine ⟨v7c, ?_, ?_, ?_, ?_, ?_, ?_⟩
                  all_goals (first | rfl | (simp only [x_r50_Find, seval, -Int.reduceToNat, t0c, t7c, t8c, H7c, q31a, q31b, q31c, q31e, bx32, ax32, fx32, hr33, bx32, ax32, fx32] <;> rfl))
                · rintro ⟨s9e, s10e⟩ t H e ⟨v7e, t0e, t7e, t8e, t9e, t10e, H7e⟩ c hh
                  simp only [r50_Find_L5] at hh
                  try simp only [x_r50_Find, seval, -Int.reduceToNat, q31a, q31b, q31c, q31e, bx32, ax32, fx32, hr33, bx32, ax32, fx32, t0e, t7e, t8e, t9e, t10e, H7e]
                  refine tstC_br (fun hb40 => ?_) (fun hb40 => ?_)
                  · replace hh := ite_t hb40 hh
                    obtain ⟨x41, hx41, hh⟩ := bindS hh
                    have bx41 := idx_bd hx41
                    have ax41 := idx_enc (eI .i64) hx41
                    have fx41 := idx_fit (eI .i64) hx41
                    simp only [vmz] at ax41 fx41
                    skip
                    have bx32 := idx_bd hx32
                    have ax32 := idx_enc (eI .i64) hx32
                    have fx32 := idx_fit (eI .i64) hx32
                    simp only [vmz] at ax32 fx32
                    skip
                    try simp only [x_r50_Find, seval, -Int.reduceToNat, q31a, q31b, q31c, q31e, bx32, ax32, fx32, hr33, bx32, ax32, fx32, t0e, t7e, t8e, t9e, t10e, H7e, bx41, ax41, fx41, bx32, ax32, fx32]
                    refine dyn_ok (by kernel_rfl) ?_
                    try simp only [x_r50_Find, seval, -Int.reduceToNat, q31a, q31b, q31c, q31e, bx32, ax32, fx32, hr33, bx32, ax32, fx32, t0e, t7e, t8e, t9e, t10e, H7e, bx41, ax41, fx41, bx32, ax32, fx32]
                    refine tstC_br (fun hb42 => ?_) (fun hb42 => ?_)
                    · replace hh := ite_t hb42 hh
                      cases hh
                      try simp only [x_r50_Find, seval, -Int.reduceToNat, q31a, q31b, q31c, q31e, bx32, ax32, fx32, hr33, bx32, ax32, fx32, t0e, t7e, t8e, t9e, t10e, H7e, bx41, ax41, fx41, bx32, ax32, fx32]
                      rw [LK_normal]
                      refine ⟨_, rfl, ?_⟩
                      refine ⟨v7e, ?_, ?_, ?_, ?_, ?_, ?_⟩
                      all_goals (first | rfl | (simp only [x_r50_Find, seval, -Int.reduceToNat, q31a, q31b, q31c, q31e, bx32, ax32, fx32, hr33, bx32, ax32, fx32, t0e, t7e, t8e, t9e, t10e, H7e, bx41, ax41, fx41, bx32, ax32, fx32] <;> rfl))
                    · replace hh := ite_f hb42 hh
                      cases hh
                      try simp only [x_r50_Find, seval, -Int.reduceToNat, q31a, q31b, q31c, q31e, bx32, ax32, fx32, hr33, bx32, ax32, fx32, t0e, t7e, t8e, t9e, t10e, H7e, bx41, ax41, fx41, bx32, ax32, fx32]
                      rw [LK_normal]
                      refine ⟨_, rfl, ?_⟩
                      refine ⟨v7e, ?_, ?_, ?_, ?_, ?_, ?_⟩
                      all_goals (first | rfl | (simp only [x_r50_Find, seval, -Int.reduceToNat, q31a, q31b, q31c, q31e, bx32, ax32, fx32, hr33, bx32, ax32, fx32, t0e, t7e, t8e, t9e, t10e, H7e, bx41, ax41, fx41, bx32, ax32, fx32] <;> rfl))
                  · replace hh := ite_f hb40 hh
                    cases hh
                    try simp only [x_r50_Find, seval, -Int.reduceToNat, q31a, q31b, q31c, q31e, bx32, ax32, fx32, hr33, bx32, ax32, fx32, t0e, t7e, t8e, t9e, t10e, H7e]
                    rw [LK_exit]
                    refine ⟨_, rfl, ?_⟩
                    refine ⟨rfl, ⟨v7e, ?_, ?_, ?_, ?_, ?_⟩⟩
                    all_goals (first | rfl | (simp only [x_r50_Find, seval, -Int.reduceToNat, q31a, q31b, q31c, q31e, bx32, ax32, fx32, hr33, bx32, ax32, fx32, t0e, t7e, t8e, t9e, t10e, H7e] <;> rfl))
                · rintro x t H e hx
                  obtain ⟨s9ex, rfl⟩ : ∃ z, z = o39 := ⟨_, rfl⟩
                  dsimp only at hx hh
                  obtain ⟨rfl, ⟨v7ex, t0ex, t7ex, t8ex, t9ex, H7ex⟩⟩ := hx
                  obtain ⟨x43, hx43, hh⟩ := bindS hh
                  obtain ⟨q44a, q44b, q44c, q44d⟩ := app_one (eI .i64) hx43
                  simp only [vmz] at q44b
                  cases hh
                  try simp only [x_r50_Find, seval, -Int.reduceToNat, q31a, q31b, q31c, q31e, bx32, ax32, fx32, hr33, bx32, ax32, fx32, t0ex, t7ex, t8ex, t9ex, H7ex, q44a, q44b, q44c, q44d]
                  rw [LK_normal]
                  refine ⟨_, rfl, ?_⟩
                  refine ⟨e, ?_, ?_, ?_, ?_⟩
                  all_goals (first | rfl | (simp only [x_r50_Find, seval, -Int.reduceToNat, q31a, q31b, q31c, q31e, bx32, ax32, fx32, hr33, bx32, ax32, fx32, t0ex, t7ex, t8ex, t9ex, H7ex, q44a, q44b, q44c, q44d] <;> rfl))
            · replace hh := ite_f hb29 hh
              cases hh
              try simp only [x_r50_Find, seval, -Int.reduceToNat, t0c, t7c, t8c, H7c]
              rw [LK_exit]
              refine ⟨_, rfl, ?_⟩
              refine ⟨rfl, ⟨v7c, ?_, ?_⟩⟩
              all_goals (first | rfl | (simp only [x_r50_Find, seval, -Int.reduceToNat, t0c, t7c, t8c, H7c] <;> rfl))
          · rintro x t H e hx
            rcases o28 with l7cx | rc
            ·
              dsimp only at hx hh
              obtain ⟨rfl, ⟨v7cx, t7cx, H7cx⟩⟩ := hx
              cases hh
              try simp only [x_r50_Find, seval, -Int.reduceToNat, t7cx, H7cx]
            ·
              dsimp only at hx hh
              obtain ⟨rfl, hE⟩ := hx
              cases hh
              try simp only [runW_pass_ret, runW_pass_exit, runW_blk_ret, runW_nil, endW_ret]
              exact hE
        ·
          dsimp only at hx hh
          obtain ⟨rfl, hE⟩ := hx
          cases hh
          try simp only [runW_pass_ret, runW_pass_exit, runW_blk_ret, runW_nil, endW_ret]
          exact hE
  ·
    clear hh
    have hh := ho1
    try simp only [x_r50_Find, seval, -Int.reduceToNat]
    refine tstO_br' (fun hb45 => ?_) (fun hb45 => ?_)
    · replace hh := ite_t hb45 hh
      cases hh
      try simp only [x_r50_Find, seval, -Int.reduceToNat]
      rw [CK_normal]
      refine ⟨_, rfl, ?_⟩
      refine ⟨?_, ?_, ?_⟩
      all_goals (first | rfl | (simp only [x_r50_Find, seval, -Int.reduceToNat] <;> rfl))
    · replace hh := ite_f hb45 hh
      try simp only [x_r50_Find, seval, -Int.reduceToNat]
      refine tstO_br' (fun hb46 => ?_) (fun hb46 => ?_)
      · replace hh := ite_t hb46 hh
        cases hh
        try simp only [x_r50_Find, seval, -Int.reduceToNat]
        rw [CK_normal]
        refine ⟨_, rfl, ?_⟩
        refine ⟨?_, ?_, ?_⟩
        all_goals (first | rfl | (simp only [x_r50_Find, seval, -Int.reduceToNat] <;> rfl))
      · replace hh := ite_f hb46 hh
        cases hh
        try simp only [x_r50_Find, seval, -Int.reduceToNat]
        rw [CK_normal]
        refine ⟨_, rfl, ?_⟩
        refine ⟨?_, ?_, ?_⟩
        all_goals (first | rfl | (simp only [x_r50_Find, seval, -Int.reduceToNat] <;> rfl))

theorem ok_r50_Find : COk Tryd.prog 25 G_r50_Find := COk.of (mode := .clean) tok ge_r50_Find mixed Tryd.func25 (by kernel_rfl) ⟨by kernel_rfl, by kernel_rfl⟩ (fun _ => Nat.le_of_ble_eq_true (by kernel_rfl)) (fun x r h => m_r50_Find x.1 x.2 r h)

noncomputable def G_r50_SameInts := mkG (asC (aSl (eI .i64)) (as1 (aSl (eI .i64)))) (fun x : (List Int) × (List Int) => r50_SameInts x.1 x.2) (fun r : Bool => .clean (.bool r))

theorem q_r50_SameInts (p0 : (List Int)) (p1 : (List Int)) : G_r50_SameInts none [.sl false false p0.length (encL (eI .i64) p0), .sl false false p1.length (encL (eI .i64) p1)] = (r50_SameInts p0 p1).map fun r : Bool => (.clean (.bool r), none) := mkG_eq _ _ _ (p0, p1)

theorem m_r50_SameInts (p0 : (List Int)) (p1 : (List Int)) (r : Bool) (hh : r50_SameInts p0 p1 = some r) : vfunc .clean tab noEnv FU Tryd.f17 none [.sl false false p0.length (encL (eI .i64) p0), .sl false false p1.length (encL (eI .i64) p1)] = some (.clean (.bool r), none) := by
  refine vfunc_of rfl Tryd.ntmps17 Tryd.results17 ?_
  unfold r50_SameInts at hh
  try simp only [w, seval, -Int.reduceToNat]
  refine tstC_br (fun hb1 => ?_) (fun hb1 => ?_)
  · replace hh := ite_t hb1 hh
    cases hh
    try simp only [w, seval, -Int.reduceToNat]
  · replace hh := ite_f hb1 hh
    try simp only [w, seval, -Int.reduceToNat]
    obtain ⟨o6, ho6, hh⟩ := bindS hh
    refine runLoop_sim (fun s t H e => match s with | s5a => t 0 = .sl false false p0.length (encL (eI .i64) p0) ∧ t 1 = .sl false false p1.length (encL (eI .i64) p1) ∧ t 5 = .int .i64 s5a) (fun o x t H e => match o with | (.inl _) => x = .exit 0 | (.inr r) => x = .ret ∧ endM .clean tab none [.tmp 4] ⟨t, H, e⟩ = some (.clean (.bool r), none)) ho6 ?_ ?_ ?_
    ·
      refine ⟨?_, ?_, ?_⟩
      all_goals (first | rfl | (simp only [w, seval, -Int.reduceToNat] <;> rfl))
    · rintro s5a t H e ⟨t0a, t1a, t5a⟩ c hh
      simp only [r50_SameInts_L1] at hh
      try simp only [w, seval, -Int.reduceToNat, t0a, t1a, t5a]
      refine tstC_br (fun hb7 => ?_) (fun hb7 => ?_)
      · replace hh := ite_t hb7 hh
        obtain ⟨x8, hx8, hh⟩ := bindS hh
        have bx8 := idx_bd hx8
        have ax8 := idx_enc (eI .i64) hx8
        have fx8 := idx_fit (eI .i64) hx8
        simp only [vmz] at ax8 fx8
        skip
        obtain ⟨x9, hx9, hh⟩ := bindS hh
        have bx9 := idx_bd hx9
        have ax9 := idx_enc (eI .i64) hx9
        have fx9 := idx_fit (eI .i64) hx9
        simp only [vmz] at ax9 fx9
        skip
        try simp only [w, seval, -Int.reduceToNat, t0a, t1a, t5a, bx8, ax8, fx8, bx9, ax9, fx9]
        refine dyn_ok (by kernel_rfl) ?_
        try simp only [w, seval, -Int.reduceToNat, t0a, t1a, t5a, bx8, ax8, fx8, bx9, ax9, fx9]
        refine tstC_br (fun hb10 => ?_) (fun hb10 => ?_)
        · replace hh := ite_t hb10 hh
          cases hh
          try simp only [w, seval, -Int.reduceToNat, t0a, t1a, t5a, bx8, ax8, fx8, bx9, ax9, fx9]
          rw [LK_ret]
          refine ⟨_, rfl, ?_⟩
          refine ⟨rfl, ?_⟩
          try simp only [w, seval, -Int.reduceToNat, t0a, t1a, t5a, bx8, ax8, fx8, bx9, ax9, fx9]
        · replace hh := ite_f hb10 hh
          cases hh
          try simp only [w, seval, -Int.reduceToNat, t0a, t1a, t5a, bx8, ax8, fx8, bx9, ax9, fx9]
          rw [LK_normal]
          refine ⟨_, rfl, ?_⟩
          refine ⟨?_, ?_, ?_⟩
          all_goals (first | rfl | (simp only [w, seval, -Int.reduceToNat, t0a, t1a, t5a, bx8, ax8, fx8, bx9, ax9, fx9] <;> rfl))
      · replace hh := ite_f hb7 hh
        cases hh
        try simp only [w, seval, -Int.reduceToNat, t0a, t1a, t5a]
        rw [LK_exit]
        refine ⟨_, rfl, ?_⟩
        exact rfl
    · rintro x t H e hx
      rcases o6 with _ | ra
      ·
        dsimp only at hx hh
        subst hx
        cases hh
        try simp only [w, seval, -Int.reduceToNat]
      ·
        dsimp only at hx hh
        obtain ⟨rfl, hE⟩ := hx
        cases hh
        try simp only [runW_pass_ret, runW_pass_exit, runW_blk_ret, runW_nil, endW_ret]
        exact hE

theorem ok_r50_SameInts : COk Tryd.prog 17 G_r50_SameInts := COk.of (mode := .clean) tok GOk.none mixed Tryd.func17 (by kernel_rfl) ⟨by kernel_rfl, by kernel_rfl⟩ (fun _ => Nat.le_of_ble_eq_true (by kernel_rfl)) (fun x r h => m_r50_SameInts x.1 x.2 r h)

noncomputable def G_r50_FewRow := mkG (as1 (aSl (eI .i64))) (fun x : (List Int) => r50_FewRow x) (fun r : Bool => .clean (.bool r))

theorem q_r50_FewRow (p0 : (List Int)) : G_r50_FewRow none [.sl false false p0.length (encL (eI .i64) p0)] = (r50_FewRow p0).map fun r : Bool => (.clean (.bool r), none) := mkG_eq _ _ _ (p0)

theorem m_r50_FewRow (p0 : (List Int)) (r : Bool) (hh : r50_FewRow p0 = some r) : vfunc .clean tab noEnv FU Tryd.f11 none [.sl false false p0.length (encL (eI .i64) p0)] = some (.clean (.bool r), none) := by
  refine vfunc_of rfl Tryd.ntmps11 Tryd.results11 ?_
  unfold r50_FewRow at hh
  try simp only [w, seval, -Int.reduceToNat]
  refine tstO_br' (fun hb1 => ?_) (fun hb1 => ?_)
  · replace hh := ite_t hb1 hh
    cases hh
    try simp only [w, seval, -Int.reduceToNat]
  · replace hh := ite_f hb1 hh
    try simp only [w, seval, -Int.reduceToNat]
    refine tstO_br (fun hb2 => ?_) (fun hb2 => ?_)
    · replace hh := ite_t hb2 hh
      cases hh
      try simp only [w, seval, -Int.reduceToNat]
    · replace hh := ite_f hb2 hh
      cases hh
      try simp only [w, seval, -Int.reduceToNat]

theorem ok_r50_FewRow : COk Tryd.prog 11 G_r50_FewRow := COk.of (mode := .clean) tok GOk.none mixed Tryd.func11 (by kernel_rfl) ⟨by kernel_rfl, by kernel_rfl⟩ (fun _ => Nat.le_of_ble_eq_true (by kernel_rfl)) (fun x r h => m_r50_FewRow x r h)

noncomputable def G_r50_Few := mkG (as1 (aSl (eSl (eI .i64)))) (fun x : (List (List Int)) => r50_Few x) (fun r : Bool => .clean (.bool r))

theorem q_r50_Few (p0 : (List (List Int))) : G_r50_Few none [.sl false false p0.length (encL (eSl (eI .i64)) p0)] = (r50_Few p0).map fun r : Bool => (.clean (.bool r), none) := mkG_eq _ _ _ (p0)

noncomputable def g_r50_Few : Env := (Am.ext noEnv 11 false G_r50_FewRow)

theorem ge_r50_Few : GOk Tryd.prog g_r50_Few := (GOk.none.add ok_r50_FewRow false)

theorem gg_r50_Few : g_r50_Few = (Am.ext noEnv 11 false G_r50_FewRow) := Eq.trans rfl rfl

theorem x_r50_Few : type_of% (And.intro @w <| And.intro @q_r50_FewRow <| @gg_r50_Few) := And.intro @w <| And.intro @q_r50_FewRow <| @gg_r50_Few

theorem m_r50_Few (p0 : (List (List Int))) (r : Bool) (hh : r50_Few p0 = some r) : vfunc .clean tab g_r50_Few FU Tryd.f10 none [.sl false false p0.length (encL (eSl (eI .i64)) p0)] = some (.clean (.bool r), none) := by
  refine vfunc_of rfl Tryd.ntmps10 Tryd.results10 ?_
  unfold r50_Few at hh
  try simp only [x_r50_Few, seval, -Int.reduceToNat]
  obtain ⟨o7, ho7, hh⟩ := bindS hh
  refine runLoop_sim (fun s t H e => match s with | s3a => t 0 = .sl false false p0.length (encL (eSl (eI .i64)) p0) ∧ t 3 = .int .i64 s3a) (fun o x t H e => match o with | (.inl _) => x = .exit 0 ∧ t 0 = .sl false false p0.length (encL (eSl (eI .i64)) p0) | (.inr r) => x = .ret ∧ endM .clean tab none [.tmp 2] ⟨t, H, e⟩ = some (.clean (.bool r), none)) ho7 ?_ ?_ ?_
  ·
    refine ⟨?_, ?_⟩
    all_goals (first | rfl | (simp only [x_r50_Few, seval, -Int.reduceToNat] <;> rfl))
  · rintro s3a t H e ⟨t0a, t3a⟩ c hh
    simp only [r50_Few_L1] at hh
    try simp only [x_r50_Few, seval, -Int.reduceToNat, t0a, t3a]
    obtain ⟨o8, ho8, hh⟩ := bindS hh
    refine tstO_cut 0 (fun s t H e => match s with | s11j3 => t 0 = .sl false false p0.length (encL (eSl (eI .i64)) p0) ∧ t 3 = .int .i64 s3a ∧ t 11 = .bool s11j3) (fun s => s = o8) ?_ ?_
    · rintro s11j3 t H e ⟨t0j3, t3j3, t11j3⟩ rfl
      try dsimp only at hh
      try simp only [x_r50_Few, seval, -Int.reduceToNat, t0j3, t3j3, t11j3]
      refine tstC_br (fun hb9 => ?_) (fun hb9 => ?_)
      · replace hh := ite_t hb9 hh
        obtain ⟨x10, hx10, hh⟩ := bindS hh
        have bx10 := idx_bd hx10
        have ax10 := idx_enc (eSl (eI .i64)) hx10
        have fx10 := idx_fit (eSl (eI .i64)) hx10
        simp only [vmz] at ax10 fx10
        skip
        obtain ⟨r11, hr11, hh⟩ := bindS hh
        try simp only [x_r50_Few, seval, -Int.reduceToNat, t0j3, t3j3, t11j3, bx10, ax10, fx10, hr11]
        refine tstC_br (fun hb12 => ?_) (fun hb12 => ?_)
        · replace hh := ite_t hb12 hh
          cases hh
          try simp only [x_r50_Few, seval, -Int.reduceToNat, t0j3, t3j3, t11j3, bx10, ax10, fx10, hr11]
          rw [LK_ret]
          refine ⟨_, rfl, ?_⟩
          refine ⟨rfl, ?_⟩
          try simp only [x_r50_Few, seval, -Int.reduceToNat, t0j3, t3j3, t11j3, bx10, ax10, fx10, hr11]
        · replace hh := ite_f hb12 hh
          cases hh
          try simp only [x_r50_Few, seval, -Int.reduceToNat, t0j3, t3j3, t11j3, bx10, ax10, fx10, hr11]
          rw [LK_normal]
          refine ⟨_, rfl, ?_⟩
          refine ⟨?_, ?_⟩
          all_goals (first | rfl | (simp only [x_r50_Few, seval, -Int.reduceToNat, t0j3, t3j3, t11j3, bx10, ax10, fx10, hr11] <;> rfl))
      · replace hh := ite_f hb9 hh
        cases hh
        try simp only [x_r50_Few, seval, -Int.reduceToNat, t0j3, t3j3, t11j3]
        rw [LK_exit]
        refine ⟨_, rfl, ?_⟩
        refine ⟨rfl, ?_⟩
        all_goals (first | rfl | (simp only [x_r50_Few, seval, -Int.reduceToNat, t0j3, t3j3, t11j3] <;> rfl))
    ·
      clear hh
      have hh := ho8
      try simp only [x_r50_Few, seval, -Int.reduceToNat, t0a, t3a]
      refine tstO_br (fun hb13 => ?_) (fun hb13 => ?_)
      · replace hh := ite_t hb13 hh
        cases hh
        try simp only [x_r50_Few, seval, -Int.reduceToNat, t0a, t3a]
        rw [CK_normal]
        refine ⟨_, rfl, ?_⟩
        refine ⟨?_, ?_, ?_⟩
        all_goals (first | rfl | (simp only [x_r50_Few, seval, -Int.reduceToNat, t0a, t3a] <;> rfl))
      · replace hh := ite_f hb13 hh
        cases hh
        try simp only [x_r50_Few, seval, -Int.reduceToNat, t0a, t3a]
        rw [CK_normal]
        refine ⟨_, rfl, ?_⟩
        refine ⟨?_, ?_, ?_⟩
        all_goals (first | rfl | (simp only [x_r50_Few, seval, -Int.reduceToNat, t0a, t3a] <;> rfl))
  · rintro x t H e hx
    rcases o7 with _ | ra
    ·
      dsimp only at hx hh
      obtain ⟨rfl, t0ax⟩ := hx
      try simp only [x_r50_Few, seval, -Int.reduceToNat, t0ax]
      refine tstO_br' (fun hb14 => ?_) (fun hb14 => ?_)
      · replace hh := ite_t hb14 hh
        cases hh
        try simp only [x_r50_Few, seval, -Int.reduceToNat, t0ax]
      · replace hh := ite_f hb14 hh
        try simp only [x_r50_Few, seval, -Int.reduceToNat, t0ax]
        refine tstO_br (fun hb15 => ?_) (fun hb15 => ?_)
        · replace hh := ite_t hb15 hh
          cases hh
          try simp only [x_r50_Few, seval, -Int.reduceToNat, t0ax]
        · replace hh := ite_f hb15 hh
          cases hh
          try simp only [x_r50_Few, seval, -Int.reduceToNat, t0ax]
    ·
      dsimp only at hx hh
      obtain ⟨rfl, hE⟩ := hx
      cases hh
      try simp only [runW_pass_ret, runW_pass_exit, runW_blk_ret, runW_nil, endW_ret]
      exact hE

theorem ok_r50_Few : COk Tryd.prog 10 G_r50_Few := COk.of (mode := .clean) tok ge_r50_Few mixed Tryd.func10 (by kernel_rfl) ⟨by kernel_rfl, by kernel_rfl⟩ (fun _ => Nat.le_of_ble_eq_true (by kernel_rfl)) (fun x r h => m_r50_Few x r h)

noncomputable def G_l50_next := mkG (asC (aSl (eI .i64)) (as1 (aI .i64))) (fun x : (List Int) × Int => l50_next x.1 x.2) (fun r : (List Int) × Bool => .clean (.tup [.sl false false r.1.length (encL (eI .i64) r.1), .bool r.2]))

theorem q_l50_next (p0 : (List Int)) (p1 : Int) : G_l50_next none [.sl false false p0.length (encL (eI .i64) p0), .int .i64 p1] = (l50_next p0 p1).map fun r : (List Int) × Bool => (.clean (.tup [.sl false false r.1.length (encL (eI .i64) r.1), .bool r.2]), none) := mkG_eq _ _ _ (p0, p1)

theorem m_l50_next (p0 : (List Int)) (p1 : Int) (r : (List Int) × Bool) (hh : l50_next p0 p1 = some r) : vfunc .clean tab noEnv FU Tryd.f26 none [.sl false false p0.length (encL (eI .i64) p0), .int .i64 p1] = some (.clean (.tup [.sl false false r.1.length (encL (eI .i64) r.1), .bool r.2]), none) := by
  refine vfunc_of rfl Tryd.ntmps26 Tryd.results26 ?_
  unfold l50_next at hh
  obtain ⟨x1, hx1, hh⟩ := bindS hh
  obtain ⟨q2a, q2b, q2c⟩ := app_nil hx1
  replace q2a := q2a.symm
  subst q2a
  try simp only [w, seval, -Int.reduceToNat, q2b, q2c]
  obtain ⟨o8, ho8, hh⟩ := bindS hh
  refine runLoop_sim (fun s t H e => match s with | (s7a, l6a) => ∃ v6a : Nat, t 1 = .int .i64 p1 ∧ t 6 = .buf 6 v6a 1 0 (l6a).length ∧ t 7 = .int .i64 s7a ∧ H 6 = some ⟨v6a, 3, encL (eI .i64) l6a, false, true, false⟩) (fun o x t H e => match o with | (.inl l6ax) => x = .exit 0 ∧ ∃ v6ax : Nat, t 6 = .buf 6 v6ax 1 0 (l6ax).length ∧ H 6 = some ⟨v6ax, 3, encL (eI .i64) l6ax, false, true, false⟩ | (.inr r) => x = .ret ∧ endM .clean tab none [.tmp 4, .tmp 5] ⟨t, H, e⟩ = some (.clean (.tup [.sl false false r.1.length (encL (eI .i64) r.1), .bool r.2]), none)) ho8 ?_ ?_ ?_
  ·
    refine ⟨1, ?_, ?_, ?_, ?_⟩
    all_goals (first | rfl | (simp only [w, seval, -Int.reduceToNat, q2b, q2c] <;> rfl))
  · rintro ⟨s7a, l6a⟩ t H e ⟨v6a, t1a, t6a, t7a, H6a⟩ c hh
    simp only [l50_next_L1] at hh
    try simp only [w, seval, -Int.reduceToNat, q2b, q2c, t1a, t6a, t7a, H6a]
    refine tstC_br (fun hb9 => ?_) (fun hb9 => ?_)
    · replace hh := ite_t hb9 hh
      obtain ⟨x10, hx10, hh⟩ := bindS hh
      have bx10 := idx_bd hx10
      have ax10 := idx_enc (eI .i64) hx10
      have fx10 := idx_fit (eI .i64) hx10
      simp only [vmz] at ax10 fx10
      skip
      try simp only [w, seval, -Int.reduceToNat, q2b, q2c, t1a, t6a, t7a, H6a, bx10, ax10, fx10]
      refine tstC_br (fun hb11 => ?_) (fun hb11 => ?_)
      · replace hh := ite_t hb11 hh
        have bx10 := idx_bd hx10
        have ax10 := idx_enc (eI .i64) hx10
        have fx10 := idx_fit (eI .i64) hx10
        simp only [vmz] at ax10 fx10
        skip
        have bx10 := idx_bd hx10
        have ax10 := idx_enc (eI .i64) hx10
        have fx10 := idx_fit (eI .i64) hx10
        simp only [vmz] at ax10 fx10
        skip
        have p12 := put_enc (eI .i64) (x' := IntKind.i64.wrap (x10 + 1)) (fo := 0) (cs := [.int .i64 (IntKind.i64.wrap (x10 + 1))]) hx10 rfl (Nat.le_of_ble_eq_true rfl)
        simp only [vmz, Nat.add_zero] at p12
        have up12 := p12
        simp only [putCells, List.length_cons, List.length_nil, Nat.zero_add, Nat.reduceAdd] at up12
        cases hh
        try simp only [w, seval, -Int.reduceToNat, q2b, q2c, t1a, t6a, t7a, H6a, bx10, ax10, fx10, bx10, ax10, fx10, bx10, ax10, fx10, p12, up12]
        rw [LK_ret]
        refine ⟨_, rfl, ?_⟩
        refine ⟨rfl, ?_⟩
        try simp only [w, seval, -Int.reduceToNat, q2b, q2c, t1a, t6a, t7a, H6a, bx10, ax10, fx10, bx10, ax10, fx10, bx10, ax10, fx10, p12, up12]
      · replace hh := ite_f hb11 hh
        have bx10 := idx_bd hx10
        have ax10 := idx_enc (eI .i64) hx10
        have fx10 := idx_fit (eI .i64) hx10
        simp only [vmz] at ax10 fx10
        skip
        have p13 := put_enc (eI .i64) (x' := 0) (fo := 0) (cs := [.int .i64 0]) hx10 rfl (Nat.le_of_ble_eq_true rfl)
        simp only [vmz, Nat.add_zero] at p13
        have up13 := p13
        simp only [putCells, List.length_cons, List.length_nil, Nat.zero_add, Nat.reduceAdd] at up13
        cases hh
        try simp only [w, seval, -Int.reduceToNat, q2b, q2c, t1a, t6a, t7a, H6a, bx10, ax10, fx10, bx10, ax10, fx10, p13, up13]
        rw [LK_normal]
        refine ⟨_, rfl, ?_⟩
        refine ⟨v6a, ?_, ?_, ?_, ?_⟩
        all_goals (first | rfl | (simp only [w, seval, -Int.reduceToNat, q2b, q2c, t1a, t6a, t7a, H6a, bx10, ax10, fx10, bx10, ax10, fx10, p13, up13] <;> rfl))
    · replace hh := ite_f hb9 hh
      cases hh
      try simp only [w, seval, -Int.reduceToNat, q2b, q2c, t1a, t6a, t7a, H6a]
      rw [LK_exit]
      refine ⟨_, rfl, ?_⟩
      refine ⟨rfl, ⟨v6a, ?_, ?_⟩⟩
      all_goals (first | rfl | (simp only [w, seval, -Int.reduceToNat, q2b, q2c, t1a, t6a, t7a, H6a] <;> rfl))
  · rintro x t H e hx
    rcases o8 with l6ax | ra
    ·
      dsimp only at hx hh
      obtain ⟨rfl, ⟨v6ax, t6ax, H6ax⟩⟩ := hx
      cases hh
      try simp only [w, seval, -Int.reduceToNat, q2b, q2c, t6ax, H6ax]
    ·
      dsimp only at hx hh
      obtain ⟨rfl, hE⟩ := hx
      cases hh
      try simp only [runW_pass_ret, runW_pass_exit, runW_blk_ret, runW_nil, endW_ret]
      exact hE

theorem ok_l50_next : COk Tryd.prog 26 G_l50_next := COk.of (mode := .clean) tok GOk.none mixed Tryd.func26 (by kernel_rfl) ⟨by kernel_rfl, by kernel_rfl⟩ (fun _ => Nat.le_of_ble_eq_true (by kernel_rfl)) (fun x r h => m_l50_next x.1 x.2 r h)

noncomputable def G_l50_set := mkG (as1 (aSl (eI .i64))) (fun x : (List Int) => l50_set x) (fun r : Int => .clean (.int .i64 r))

theorem q_l50_set (p0 : (List Int)) : G_l50_set none [.sl false false p0.length (encL (eI .i64) p0)] = (l50_set p0).map fun r : Int => (.clean (.int .i64 r), none) := mkG_eq _ _ _ (p0)

theorem m_l50_set (p0 : (List Int)) (r : Int) (hh : l50_set p0 = some r) : vfunc .clean tab noEnv FU Tryd.f27 none [.sl false false p0.length (encL (eI .i64) p0)] = some (.clean (.int .i64 r), none) := by
  refine vfunc_of rfl Tryd.ntmps27 Tryd.results27 ?_
  unfold l50_set at hh
  try simp only [w, seval, -Int.reduceToNat]
  obtain ⟨o8, ho8, hh⟩ := bindS hh
  refine runLoop_sim (fun s t H e => match s with | (s3a, s4a) => t 0 = .sl false false p0.length (encL (eI .i64) p0) ∧ t 3 = .int .i64 s3a ∧ t 4 = .int .i64 s4a) (fun o x t H e => match o with | s3ax => x = .exit 0 ∧ t 3 = .int .i64 s3ax) ho8 ?_ ?_ ?_
  ·
    refine ⟨?_, ?_, ?_⟩
    all_goals (first | rfl | (simp only [w, seval, -Int.reduceToNat] <;> rfl))
  · rintro ⟨s3a, s4a⟩ t H e ⟨t0a, t3a, t4a⟩ c hh
    simp only [l50_set_L1] at hh
    try simp only [w, seval, -Int.reduceToNat, t0a, t3a, t4a]
    refine tstC_br (fun hb9 => ?_) (fun hb9 => ?_)
    · replace hh := ite_t hb9 hh
      obtain ⟨x10, hx10, hh⟩ := bindS hh
      have bx10 := idx_bd hx10
      have ax10 := idx_enc (eI .i64) hx10
      have fx10 := idx_fit (eI .i64) hx10
      simp only [vmz] at ax10 fx10
      skip
      try simp only [w, seval, -Int.reduceToNat, t0a, t3a, t4a, bx10, ax10, fx10]
      obtain ⟨o11, ho11, hh⟩ := bindS hh
      refine tstO_cut 0 (fun s t H e => match s with | s22j3 => t 0 = .sl false false p0.length (encL (eI .i64) p0) ∧ t 3 = .int .i64 s3a ∧ t 4 = .int .i64 s4a ∧ t 22 = .bool s22j3) (fun s => s = o11) ?_ ?_
      · rintro s22j3 t H e ⟨t0j3, t3j3, t4j3, t22j3⟩ rfl
        try dsimp only at hh
        try simp only [w, seval, -Int.reduceToNat, bx10, ax10, fx10, t0j3, t3j3, t4j3, t22j3]
        refine tstC_br (fun hb12 => ?_) (fun hb12 => ?_)
        · replace hh := ite_t hb12 hh
          have bx10 := idx_bd hx10
          have ax10 := idx_enc (eI .i64) hx10
          have fx10 := idx_fit (eI .i64) hx10
          simp only [vmz] at ax10 fx10
          skip
          obtain ⟨x13, hx13, hh⟩ := bindS hh
          obtain ⟨q14a, q14b⟩ := shlI_ok hx13
          cases hh
          try simp only [w, seval, -Int.reduceToNat, bx10, ax10, fx10, t0j3, t3j3, t4j3, t22j3, bx10, ax10, fx10, q14a, q14b]
          rw [LK_normal]
          refine ⟨_, rfl, ?_⟩
          refine ⟨?_, ?_, ?_⟩
          all_goals (first | rfl | (simp only [w, seval, -Int.reduceToNat, bx10, ax10, fx10, t0j3, t3j3, t4j3, t22j3, bx10, ax10, fx10, q14a, q14b] <;> rfl))
        · replace hh := ite_f hb12 hh
          cases hh
          try simp only [w, seval, -Int.reduceToNat, bx10, ax10, fx10, t0j3, t3j3, t4j3, t22j3]
          rw [LK_normal]
          refine ⟨_, rfl, ?_⟩
          refine ⟨?_, ?_, ?_⟩
          all_goals (first | rfl | (simp only [w, seval, -Int.reduceToNat, bx10, ax10, fx10, t0j3, t3j3, t4j3, t22j3] <;> rfl))
      ·
        clear hh
        have hh := ho11
        try simp only [w, seval, -Int.reduceToNat, t0a, t3a, t4a, bx10, ax10, fx10]
        refine tstO_br (fun hb15 => ?_) (fun hb15 => ?_)
        · replace hh := ite_t hb15 hh
          have bx10 := idx_bd hx10
          have ax10 := idx_enc (eI .i64) hx10
          have fx10 := idx_fit (eI .i64) hx10
          simp only [vmz] at ax10 fx10
          skip
          cases hh
          try simp only [w, seval, -Int.reduceToNat, t0a, t3a, t4a, bx10, ax10, fx10, bx10, ax10, fx10]
          rw [CK_normal]
          refine ⟨_, rfl, ?_⟩
          refine ⟨?_, ?_, ?_, ?_⟩
          all_goals (first | rfl | (simp only [w, seval, -Int.reduceToNat, t0a, t3a, t4a, bx10, ax10, fx10, bx10, ax10, fx10] <;> rfl))
        · replace hh := ite_f hb15 hh
          cases hh
          try simp only [w, seval, -Int.reduceToNat, t0a, t3a, t4a, bx10, ax10, fx10]
          rw [CK_normal]
          refine ⟨_, rfl, ?_⟩
          refine ⟨?_, ?_, ?_, ?_⟩
          all_goals (first | rfl | (simp only [w, seval, -Int.reduceToNat, t0a, t3a, t4a, bx10, ax10, fx10] <;> rfl))
    · replace hh := ite_f hb9 hh
      cases hh
      try simp only [w, seval, -Int.reduceToNat, t0a, t3a, t4a]
      rw [LK_exit]
      refine ⟨_, rfl, ?_⟩
      refine ⟨rfl, ?_⟩
      all_goals (first | rfl | (simp only [w, seval, -Int.reduceToNat, t0a, t3a, t4a] <;> rfl))
  · rintro x t H e hx
    obtain ⟨s3ax, rfl⟩ : ∃ z, z = o8 := ⟨_, rfl⟩
    dsimp only at hx hh
    obtain ⟨rfl, t3ax⟩ := hx
    cases hh
    try simp only [w, seval, -Int.reduceToNat, t3ax]

theorem ok_l50_set : COk Tryd.prog 27 G_l50_set := COk.of (mode := .clean) tok GOk.none mixed Tryd.func27 (by kernel_rfl) ⟨by kernel_rfl, by kernel_rfl⟩ (fun _ => Nat.le_of_ble_eq_true (by kernel_rfl)) (fun x r h => m_l50_set x r h)

noncomputable def G_l50_sane := mkG (as0) (fun x : Unit => l50_sane) (fun r : Bool => .clean (.bool r))

theorem q_l50_sane : G_l50_sane none [] = (l50_sane).map fun r : Bool => (.clean (.bool r), none) := mkG_eq _ _ _ ()

noncomputable def g_l50_sane : Env := (Am.ext (Am.ext (Am.ext (Am.ext (Am.ext (Am.ext (Am.ext (Am.ext noEnv 13 false G_tape_Tape) 15 false G_tape_Open) 17 false G_r50_SameInts) 18 false G_tape_Right) 20 false G_tape_Text) 22 false G_tape_Draw) 24 false G_tape_Find) 28 false G_vault_Leaf)

theorem ge_l50_sane : GOk Tryd.prog g_l50_sane := ((((((((GOk.none.add ok_tape_Tape false).add ok_tape_Open false).add ok_r50_SameInts false).add ok_tape_Right false).add ok_tape_Text false).add ok_tape_Draw false).add ok_tape_Find false).add ok_vault_Leaf false)

theorem gg_l50_sane : g_l50_sane = (Am.ext (Am.ext (Am.ext (Am.ext (Am.ext (Am.ext (Am.ext (Am.ext noEnv 13 false G_tape_Tape) 15 false G_tape_Open) 17 false G_r50_SameInts) 18 false G_tape_Right) 20 false G_tape_Text) 22 false G_tape_Draw) 24 false G_tape_Find) 28 false G_vault_Leaf) := Eq.trans rfl rfl

theorem x_l50_sane : type_of% (And.intro @w <| And.intro @q_tape_Tape <| And.intro @q_tape_Open <| And.intro @q_r50_SameInts <| And.intro @q_tape_Right <| And.intro @q_tape_Text <| And.intro @q_tape_Draw <| And.intro @q_tape_Find <| And.intro @q_vault_Leaf <| @gg_l50_sane) := And.intro @w <| And.intro @q_tape_Tape <| And.intro @q_tape_Open <| And.intro @q_r50_SameInts <| And.intro @q_tape_Right <| And.intro @q_tape_Text <| And.intro @q_tape_Draw <| And.intro @q_tape_Find <| And.intro @q_vault_Leaf <| @gg_l50_sane

theorem m_l50_sane (r : Bool) (hh : l50_sane = some r) : vfunc .clean tab g_l50_sane FU Tryd.f9 none [] = some (.clean (.bool r), none) := by
  refine vfunc_of rfl Tryd.ntmps9 Tryd.results9 ?_
  unfold l50_sane at hh
  have i1 := q_tape_Tape ([[3, 2], [4, 2]]) 5 2
  simp only [encL_cons, vmz, List.length_cons, List.length_nil, Nat.zero_add, Nat.reduceAdd, List.length_set] at i1
  obtain ⟨r2, hr2, hh⟩ := bindS hh
  have i3 := q_tape_Draw ([2, 0, 2]) 5
  simp only [encL_cons, vmz, List.length_cons, List.length_nil, Nat.zero_add, Nat.reduceAdd, List.length_set] at i3
  obtain ⟨r4, hr4, hh⟩ := bindS hh
  have i5 := q_tape_Find ([2, 0, 4]) 5
  simp only [encL_cons, vmz, List.length_cons, List.length_nil, Nat.zero_add, Nat.reduceAdd, List.length_set] at i5
  obtain ⟨r6, hr6, hh⟩ := bindS hh
  have i7 := q_tape_Text ([3, 2])
  simp only [encL_cons, vmz, List.length_cons, List.length_nil, Nat.zero_add, Nat.reduceAdd, List.length_set] at i7
  obtain ⟨r8, hr8, hh⟩ := bindS hh
  have i9 := q_vault_Leaf ([]) r8 0 7
  simp only [encL_cons, vmz, List.length_cons, List.length_nil, Nat.zero_add, Nat.reduceAdd, List.length_set] at i9
  obtain ⟨r10, hr10, hh⟩ := bindS hh
  have i11 := q_tape_Open r10.1.f_Things ([r10.2.1]) ([[3, 2]]) ([7]) 5 2
  simp only [encL_cons, vmz, List.length_cons, List.length_nil, Nat.zero_add, Nat.reduceAdd, List.length_set] at i11
  obtain ⟨r12, hr12, hh⟩ := bindS hh
  have i13 := q_tape_Open r10.1.f_Things ([r10.2.1]) ([[4, 2]]) ([7]) 5 2
  simp only [encL_cons, vmz, List.length_cons, List.length_nil, Nat.zero_add, Nat.reduceAdd, List.length_set] at i13
  obtain ⟨r14, hr14, hh⟩ := bindS hh
  try simp only [x_l50_sane, seval, -Int.reduceToNat, i1, hr2, i3, hr4, i5, hr6, i7, hr8, i9, hr10, i11, hr12, i13, hr14]
  obtain ⟨o15, ho15, hh⟩ := bindS hh
  refine tstO_cut 0 (fun s t H e => match s with | s80j1 => t 1 = .sl false false r2.1.length (encL (eI .i64) r2.1) ∧ t 3 = .sl false false r4.1.length (encL (eI .i64) r4.1) ∧ t 5 = .sl false false r6.1.length (encL (eI .i64) r6.1) ∧ t 10 = .sl false false r12.1.length (encL (eI .i64) r12.1) ∧ t 80 = .bool s80j1) (fun s => s = o15) ?_ ?_
  · rintro s80j1 t H e ⟨t1j1, t3j1, t5j1, t10j1, t80j1⟩ rfl
    try dsimp only at hh
    try simp only [x_l50_sane, seval, -Int.reduceToNat, i1, hr2, i3, hr4, i5, hr6, i7, hr8, i9, hr10, i11, hr12, i13, hr14, t1j1, t3j1, t5j1, t10j1, t80j1]
    refine tstC_br (fun hb16 => ?_) (fun hb16 => ?_)
    · replace hh := ite_t hb16 hh
      cases hh
      try simp only [x_l50_sane, seval, -Int.reduceToNat, i1, hr2, i3, hr4, i5, hr6, i7, hr8, i9, hr10, i11, hr12, i13, hr14, t1j1, t3j1, t5j1, t10j1, t80j1]
    · replace hh := ite_f hb16 hh
      have i17 := q_r50_SameInts r2.1 ([2, 0])
      simp only [encL_cons, vmz, List.length_cons, List.length_nil, Nat.zero_add, Nat.reduceAdd, List.length_set] at i17
      obtain ⟨r18, hr18, hh⟩ := bindS hh
      try simp only [x_l50_sane, seval, -Int.reduceToNat, i1, hr2, i3, hr4, i5, hr6, i7, hr8, i9, hr10, i11, hr12, i13, hr14, t1j1, t3j1, t5j1, t10j1, t80j1, i17, hr18]
      refine tstO_br (fun hb19 => ?_) (fun hb19 => ?_)
      · replace hh := ite_t hb19 hh
        have i20 := q_r50_SameInts r4.1 ([2, 0, 4])
        simp only [encL_cons, vmz, List.length_cons, List.length_nil, Nat.zero_add, Nat.reduceAdd, List.length_set] at i20
        obtain ⟨r21, hr21, hh⟩ := bindS hh
        try simp only [x_l50_sane, seval, -Int.reduceToNat, i1, hr2, i3, hr4, i5, hr6, i7, hr8, i9, hr10, i11, hr12, i13, hr14, t1j1, t3j1, t5j1, t10j1, t80j1, i17, hr18, i20, hr21]
        refine tstO_br (fun hb22 => ?_) (fun hb22 => ?_)
        · replace hh := ite_t hb22 hh
          have i23 := q_r50_SameInts r6.1 ([2, 0, 2])
          simp only [encL_cons, vmz, List.length_cons, List.length_nil, Nat.zero_add, Nat.reduceAdd, List.length_set] at i23
          obtain ⟨r24, hr24, hh⟩ := bindS hh
          try simp only [x_l50_sane, seval, -Int.reduceToNat, i1, hr2, i3, hr4, i5, hr6, i7, hr8, i9, hr10, i11, hr12, i13, hr14, t1j1, t3j1, t5j1, t10j1, t80j1, i17, hr18, i20, hr21, i23, hr24]
          refine tstO_br (fun hb25 => ?_) (fun hb25 => ?_)
          · replace hh := ite_t hb25 hh
            have i26 := q_r50_SameInts r12.1 ([3, 2])
            simp only [encL_cons, vmz, List.length_cons, List.length_nil, Nat.zero_add, Nat.reduceAdd, List.length_set] at i26
            obtain ⟨r27, hr27, hh⟩ := bindS hh
            try simp only [x_l50_sane, seval, -Int.reduceToNat, i1, hr2, i3, hr4, i5, hr6, i7, hr8, i9, hr10, i11, hr12, i13, hr14, t1j1, t3j1, t5j1, t10j1, t80j1, i17, hr18, i20, hr21, i23, hr24, i26, hr27]
            refine tstO_br (fun hb28 => ?_) (fun hb28 => ?_)
            · replace hh := ite_t hb28 hh
              have i29 := q_tape_Right ([4, 4]) 5
              simp only [encL_cons, vmz, List.length_cons, List.length_nil, Nat.zero_add, Nat.reduceAdd, List.length_set] at i29
              obtain ⟨r30, hr30, hh⟩ := bindS hh
              try simp only [x_l50_sane, seval, -Int.reduceToNat, i1, hr2, i3, hr4, i5, hr6, i7, hr8, i9, hr10, i11, hr12, i13, hr14, t1j1, t3j1, t5j1, t10j1, t80j1, i17, hr18, i20, hr21, i23, hr24, i26, hr27, i29, hr30]
              refine tstO_br (fun hb31 => ?_) (fun hb31 => ?_)
              · replace hh := ite_t hb31 hh
                have i32 := q_tape_Right ([4, 3]) 5
                simp only [encL_cons, vmz, List.length_cons, List.length_nil, Nat.zero_add, Nat.reduceAdd, List.length_set] at i32
                obtain ⟨r33, hr33, hh⟩ := bindS hh
                cases hh
                try simp only [x_l50_sane, seval, -Int.reduceToNat, i1, hr2, i3, hr4, i5, hr6, i7, hr8, i9, hr10, i11, hr12, i13, hr14, t1j1, t3j1, t5j1, t10j1, t80j1, i17, hr18, i20, hr21, i23, hr24, i26, hr27, i29, hr30, i32, hr33]
              · replace hh := ite_f hb31 hh
                cases hh
                try simp only [x_l50_sane, seval, -Int.reduceToNat, i1, hr2, i3, hr4, i5, hr6, i7, hr8, i9, hr10, i11, hr12, i13, hr14, t1j1, t3j1, t5j1, t10j1, t80j1, i17, hr18, i20, hr21, i23, hr24, i26, hr27, i29, hr30]
            · replace hh := ite_f hb28 hh
              cases hh
              try simp only [x_l50_sane, seval, -Int.reduceToNat, i1, hr2, i3, hr4, i5, hr6, i7, hr8, i9, hr10, i11, hr12, i13, hr14, t1j1, t3j1, t5j1, t10j1, t80j1, i17, hr18, i20, hr21, i23, hr24, i26, hr27]
          · replace hh := ite_f hb25 hh
            cases hh
            try simp only [x_l50_sane, seval, -Int.reduceToNat, i1, hr2, i3, hr4, i5, hr6, i7, hr8, i9, hr10, i11, hr12, i13, hr14, t1j1, t3j1, t5j1, t10j1, t80j1, i17, hr18, i20, hr21, i23, hr24]
        · replace hh := ite_f hb22 hh
          cases hh
          try simp only [x_l50_sane, seval, -Int.reduceToNat, i1, hr2, i3, hr4, i5, hr6, i7, hr8, i9, hr10, i11, hr12, i13, hr14, t1j1, t3j1, t5j1, t10j1, t80j1, i17, hr18, i20, hr21]
      · replace hh := ite_f hb19 hh
        cases hh
        try simp only [x_l50_sane, seval, -Int.reduceToNat, i1, hr2, i3, hr4, i5, hr6, i7, hr8, i9, hr10, i11, hr12, i13, hr14, t1j1, t3j1, t5j1, t10j1, t80j1, i17, hr18]
  ·
    clear hh
    have hh := ho15
    try simp only [x_l50_sane, seval, -Int.reduceToNat, i1, hr2, i3, hr4, i5, hr6, i7, hr8, i9, hr10, i11, hr12, i13, hr14]
    refine tstO_br' (fun hb34 => ?_) (fun hb34 => ?_)
    · replace hh := ite_t hb34 hh
      cases hh
      try simp only [x_l50_sane, seval, -Int.reduceToNat, i1, hr2, i3, hr4, i5, hr6, i7, hr8, i9, hr10, i11, hr12, i13, hr14]
      rw [CK_normal]
      refine ⟨_, rfl, ?_⟩
      refine ⟨?_, ?_, ?_, ?_, ?_⟩
      all_goals (first | rfl | (simp only [x_l50_sane, seval, -Int.reduceToNat, i1, hr2, i3, hr4, i5, hr6, i7, hr8, i9, hr10, i11, hr12, i13, hr14] <;> rfl))
    · replace hh := ite_f hb34 hh
      try simp only [x_l50_sane, seval, -Int.reduceToNat, i1, hr2, i3, hr4, i5, hr6, i7, hr8, i9, hr10, i11, hr12, i13, hr14]
      refine tstO_br' (fun hb35 => ?_) (fun hb35 => ?_)
      · replace hh := ite_t hb35 hh
        cases hh
        try simp only [x_l50_sane, seval, -Int.reduceToNat, i1, hr2, i3, hr4, i5, hr6, i7, hr8, i9, hr10, i11, hr12, i13, hr14]
        rw [CK_normal]
        refine ⟨_, rfl, ?_⟩
        refine ⟨?_, ?_, ?_, ?_, ?_⟩
        all_goals (first | rfl | (simp only [x_l50_sane, seval, -Int.reduceToNat, i1, hr2, i3, hr4, i5, hr6, i7, hr8, i9, hr10, i11, hr12, i13, hr14] <;> rfl))
      · replace hh := ite_f hb35 hh
        try simp only [x_l50_sane, seval, -Int.reduceToNat, i1, hr2, i3, hr4, i5, hr6, i7, hr8, i9, hr10, i11, hr12, i13, hr14]
        refine tstO_br' (fun hb36 => ?_) (fun hb36 => ?_)
        · replace hh := ite_t hb36 hh
          cases hh
          try simp only [x_l50_sane, seval, -Int.reduceToNat, i1, hr2, i3, hr4, i5, hr6, i7, hr8, i9, hr10, i11, hr12, i13, hr14]
          rw [CK_normal]
          refine ⟨_, rfl, ?_⟩
          refine ⟨?_, ?_, ?_, ?_, ?_⟩
          all_goals (first | rfl | (simp only [x_l50_sane, seval, -Int.reduceToNat, i1, hr2, i3, hr4, i5, hr6, i7, hr8, i9, hr10, i11, hr12, i13, hr14] <;> rfl))
        · replace hh := ite_f hb36 hh
          try simp only [x_l50_sane, seval, -Int.reduceToNat, i1, hr2, i3, hr4, i5, hr6, i7, hr8, i9, hr10, i11, hr12, i13, hr14]
          refine tstO_br' (fun hb37 => ?_) (fun hb37 => ?_)
          · replace hh := ite_t hb37 hh
            cases hh
            try simp only [x_l50_sane, seval, -Int.reduceToNat, i1, hr2, i3, hr4, i5, hr6, i7, hr8, i9, hr10, i11, hr12, i13, hr14]
            rw [CK_normal]
            refine ⟨_, rfl, ?_⟩
            refine ⟨?_, ?_, ?_, ?_, ?_⟩
            all_goals (first | rfl | (simp only [x_l50_sane, seval, -Int.reduceToNat, i1, hr2, i3, hr4, i5, hr6, i7, hr8, i9, hr10, i11, hr12, i13, hr14] <;> rfl))
          · replace hh := ite_f hb37 hh
            try simp only [x_l50_sane, seval, -Int.reduceToNat, i1, hr2, i3, hr4, i5, hr6, i7, hr8, i9, hr10, i11, hr12, i13, hr14]
            refine tstO_br' (fun hb38 => ?_) (fun hb38 => ?_)
            · replace hh := ite_t hb38 hh
              cases hh
              try simp only [x_l50_sane, seval, -Int.reduceToNat, i1, hr2, i3, hr4, i5, hr6, i7, hr8, i9, hr10, i11, hr12, i13, hr14]
              rw [CK_normal]
              refine ⟨_, rfl, ?_⟩
              refine ⟨?_, ?_, ?_, ?_, ?_⟩
              all_goals (first | rfl | (simp only [x_l50_sane, seval, -Int.reduceToNat, i1, hr2, i3, hr4, i5, hr6, i7, hr8, i9, hr10, i11, hr12, i13, hr14] <;> rfl))
            · replace hh := ite_f hb38 hh
              cases hh
              try simp only [x_l50_sane, seval, -Int.reduceToNat, i1, hr2, i3, hr4, i5, hr6, i7, hr8, i9, hr10, i11, hr12, i13, hr14]
              rw [CK_normal]
              refine ⟨_, rfl, ?_⟩
              refine ⟨?_, ?_, ?_, ?_, ?_⟩
              all_goals (first | rfl | (simp only [x_l50_sane, seval, -Int.reduceToNat, i1, hr2, i3, hr4, i5, hr6, i7, hr8, i9, hr10, i11, hr12, i13, hr14] <;> rfl))

theorem ok_l50_sane : COk Tryd.prog 9 G_l50_sane := COk.of (mode := .clean) tok ge_l50_sane mixed Tryd.func9 (by kernel_rfl) ⟨by kernel_rfl, by kernel_rfl⟩ (fun _ => Nat.le_of_ble_eq_true (by kernel_rfl)) (fun x r h => m_l50_sane  r h)

noncomputable def G_l50_TapeTells := mkG (asC (aSl (eSl (eI .i64))) (asC (aSl (eI .i64)) (asC (aI .i64) (asC (aI .i64) (asC (aAgg eTVault) (asC (aSl (eI .i64)) (as1 (aSl (eI .i64))))))))) (fun x : (List (List Int)) × (List Int) × Int × Int × TVault × (List Int) × (List Int) => l50_TapeTells x.1 x.2.1 x.2.2.1 x.2.2.2.1 x.2.2.2.2.1 x.2.2.2.2.2.1 x.2.2.2.2.2.2) (fun r : Bool => .clean (.bool r))

theorem q_l50_TapeTells (p0 : (List (List Int))) (p1 : (List Int)) (p2 : Int) (p3 : Int) (p4_0 : (List TThing)) (p5 : (List Int)) (p6 : (List Int)) : G_l50_TapeTells none [.sl false false p0.length (encL (eSl (eI .i64)) p0), .sl false false p1.length (encL (eI .i64) p1), .int .i64 p2, .int .i64 p3, .agg [.sl false false p4_0.length (encL eTThing p4_0)], .sl false false p5.length (encL (eI .i64) p5), .sl false false p6.length (encL (eI .i64) p6)] = (l50_TapeTells p0 p1 p2 p3 (TVault.mk p4_0) p5 p6).map fun r : Bool => (.clean (.bool r), none) := mkG_eq _ _ _ (p0, p1, p2, p3, (TVault.mk p4_0), p5, p6)

noncomputable def g_l50_TapeTells : Env := (Am.ext (Am.ext (Am.ext (Am.ext (Am.ext (Am.ext (Am.ext (Am.ext (Am.ext (Am.ext (Am.ext (Am.ext (Am.ext (Am.ext (Am.ext (Am.ext (Am.ext noEnv 9 false G_l50_sane) 10 false G_r50_Few) 11 false G_r50_FewRow) 12 false G_r35_Few) 13 false G_tape_Tape) 14 false G_r50_Tape) 15 false G_tape_Open) 16 false G_r50_Open) 17 false G_r50_SameInts) 18 false G_tape_Right) 19 false G_r50_Right) 20 false G_tape_Text) 21 false G_r50_Text) 22 false G_tape_Draw) 23 false G_r50_Draw) 24 false G_tape_Find) 25 false G_r50_Find)

theorem ge_l50_TapeTells : GOk Tryd.prog g_l50_TapeTells := (((((((((((((((((GOk.none.add ok_l50_sane false).add ok_r50_Few false).add ok_r50_FewRow false).add ok_r35_Few false).add ok_tape_Tape false).add ok_r50_Tape false).add ok_tape_Open false).add ok_r50_Open false).add ok_r50_SameInts false).add ok_tape_Right false).add ok_r50_Right false).add ok_tape_Text false).add ok_r50_Text false).add ok_tape_Draw false).add ok_r50_Draw false).add ok_tape_Find false).add ok_r50_Find false)

theorem gg_l50_TapeTells : g_l50_TapeTells = (Am.ext (Am.ext (Am.ext (Am.ext (Am.ext (Am.ext (Am.ext (Am.ext (Am.ext (Am.ext (Am.ext (Am.ext (Am.ext (Am.ext (Am.ext (Am.ext (Am.ext noEnv 9 false G_l50_sane) 10 false G_r50_Few) 11 false G_r50_FewRow) 12 false G_r35_Few) 13 false G_tape_Tape) 14 false G_r50_Tape) 15 false G_tape_Open) 16 false G_r50_Open) 17 false G_r50_SameInts) 18 false G_tape_Right) 19 false G_r50_Right) 20 false G_tape_Text) 21 false G_r50_Text) 22 false G_tape_Draw) 23 false G_r50_Draw) 24 false G_tape_Find) 25 false G_r50_Find) := Eq.trans rfl rfl

theorem x_l50_TapeTells : type_of% (And.intro @w <| And.intro @q_l50_sane <| And.intro @q_r50_Few <| And.intro @q_r50_FewRow <| And.intro @q_r35_Few <| And.intro @q_tape_Tape <| And.intro @q_r50_Tape <| And.intro @q_tape_Open <| And.intro @q_r50_Open <| And.intro @q_r50_SameInts <| And.intro @q_tape_Right <| And.intro @q_r50_Right <| And.intro @q_tape_Text <| And.intro @q_r50_Text <| And.intro @q_tape_Draw <| And.intro @q_r50_Draw <| And.intro @q_tape_Find <| And.intro @q_r50_Find <| @gg_l50_TapeTells) := And.intro @w <| And.intro @q_l50_sane <| And.intro @q_r50_Few <| And.intro @q_r50_FewRow <| And.intro @q_r35_Few <| And.intro @q_tape_Tape <| And.intro @q_r50_Tape <| And.intro @q_tape_Open <| And.intro @q_r50_Open <| And.intro @q_r50_SameInts <| And.intro @q_tape_Right <| And.intro @q_r50_Right <| And.intro @q_tape_Text <| And.intro @q_r50_Text <| And.intro @q_tape_Draw <| And.intro @q_r50_Draw <| And.intro @q_tape_Find <| And.intro @q_r50_Find <| @gg_l50_TapeTells

theorem m_l50_TapeTells (p0 : (List (List Int))) (p1 : (List Int)) (p2 : Int) (p3 : Int) (p4 : TVault) (p5 : (List Int)) (p6 : (List Int)) (r : Bool) (hh : l50_TapeTells p0 p1 p2 p3 p4 p5 p6 = some r) : vfunc .clean tab g_l50_TapeTells FU Tryd.f3 none [.sl false false p0.length (encL (eSl (eI .i64)) p0), .sl false false p1.length (encL (eI .i64) p1), .int .i64 p2, .int .i64 p3, .agg [.sl false false p4.f_Things.length (encL eTThing p4.f_Things)], .sl false false p5.length (encL (eI .i64) p5), .sl false false p6.length (encL (eI .i64) p6)] = some (.clean (.bool r), none) := by
  refine vfunc_of rfl Tryd.ntmps3 Tryd.results3 ?_
  unfold l50_TapeTells at hh
  obtain ⟨r1, hr1, hh⟩ := bindS hh
  obtain ⟨r2, hr2, hh⟩ := bindS hh
  try simp only [x_l50_TapeTells, seval, -Int.reduceToNat, hr1, hr2]
  obtain ⟨o3, ho3, hh⟩ := bindS hh
  refine tstO_cut 0 (fun s t H e => match s with | s55j1 => ∃ v11j1 : Nat, t 0 = .sl false false p0.length (encL (eSl (eI .i64)) p0) ∧ t 1 = .sl false false p1.length (encL (eI .i64) p1) ∧ t 2 = .int .i64 p2 ∧ t 3 = .int .i64 p3 ∧ t 5 = .sl false false p5.length (encL (eI .i64) p5) ∧ t 6 = .sl false false p6.length (encL (eI .i64) p6) ∧ t 11 = .ptr 11 v11j1 0 ∧ t 15 = .bool r1 ∧ t 55 = .bool s55j1 ∧ H 11 = some ⟨v11j1, 26, [.sl false false p4.f_Things.length (encL eTThing p4.f_Things)], false, false, false⟩) (fun s => s = o3) ?_ ?_
  · rintro s55j1 t H e ⟨v11j1, t0j1, t1j1, t2j1, t3j1, t5j1, t6j1, t11j1, t15j1, t55j1, H11j1⟩ rfl
    try dsimp only at hh
    try simp only [x_l50_TapeTells, seval, -Int.reduceToNat, hr1, hr2, t0j1, t1j1, t2j1, t3j1, t5j1, t6j1, t11j1, t15j1, t55j1, H11j1]
    refine tstC_br (fun hb4 => ?_) (fun hb4 => ?_)
    · replace hh := ite_t hb4 hh
      cases hh
      try simp only [x_l50_TapeTells, seval, -Int.reduceToNat, hr1, hr2, t0j1, t1j1, t2j1, t3j1, t5j1, t6j1, t11j1, t15j1, t55j1, H11j1]
    · replace hh := ite_f hb4 hh
      obtain ⟨r5, hr5, hh⟩ := bindS hh
      obtain ⟨r6, hr6, hh⟩ := bindS hh
      obtain ⟨r7, hr7, hh⟩ := bindS hh
      obtain ⟨r8, hr8, hh⟩ := bindS hh
      try simp only [x_l50_TapeTells, seval, -Int.reduceToNat, hr1, hr2, t0j1, t1j1, t2j1, t3j1, t5j1, t6j1, t11j1, t15j1, t55j1, H11j1, hr5, hr6, hr7, hr8]
      obtain ⟨o9, ho9, hh⟩ := bindS hh
      refine tstO_cut 0 (fun s t H e => match s with | s126j2 => t 1 = .sl false false p1.length (encL (eI .i64) p1) ∧ t 2 = .int .i64 p2 ∧ t 15 = .bool r1 ∧ t 126 = .bool s126j2) (fun s => s = o9) ?_ ?_
      · rintro s126j2 t H e ⟨t1j2, t2j2, t15j2, t126j2⟩ rfl
        try dsimp only at hh
        try simp only [x_l50_TapeTells, seval, -Int.reduceToNat, hr1, hr2, hr5, hr6, hr7, hr8, t1j2, t2j2, t15j2, t126j2]
        refine tstC_br (fun hb10 => ?_) (fun hb10 => ?_)
        · replace hh := ite_t hb10 hh
          cases hh
          try simp only [x_l50_TapeTells, seval, -Int.reduceToNat, hr1, hr2, hr5, hr6, hr7, hr8, t1j2, t2j2, t15j2, t126j2]
        · replace hh := ite_f hb10 hh
          obtain ⟨r11, hr11, hh⟩ := bindS hh
          obtain ⟨r12, hr12, hh⟩ := bindS hh
          obtain ⟨r13, hr13, hh⟩ := bindS hh
          obtain ⟨r14, hr14, hh⟩ := bindS hh
          try simp only [x_l50_TapeTells, seval, -Int.reduceToNat, hr1, hr2, hr5, hr6, hr7, hr8, t1j2, t2j2, t15j2, t126j2, hr11, hr12, hr13, hr14]
          refine tstO_br (fun hb15 => ?_) (fun hb15 => ?_)
          · replace hh := ite_t hb15 hh
            try simp only [x_l50_TapeTells, seval, -Int.reduceToNat, hr1, hr2, hr5, hr6, hr7, hr8, t1j2, t2j2, t15j2, t126j2, hr11, hr12, hr13, hr14]
            refine tstO_br (fun hb16 => ?_) (fun hb16 => ?_)
            · replace hh := ite_t hb16 hh
              try simp only [x_l50_TapeTells, seval, -Int.reduceToNat, hr1, hr2, hr5, hr6, hr7, hr8, t1j2, t2j2, t15j2, t126j2, hr11, hr12, hr13, hr14]
              refine tstO_br (fun hb17 => ?_) (fun hb17 => ?_)
              · replace hh := ite_t hb17 hh
                obtain ⟨r18, hr18, hh⟩ := bindS hh
                try simp only [x_l50_TapeTells, seval, -Int.reduceToNat, hr1, hr2, hr5, hr6, hr7, hr8, t1j2, t2j2, t15j2, t126j2, hr11, hr12, hr13, hr14, hr18]
                refine tstO_br (fun hb19 => ?_) (fun hb19 => ?_)
                · replace hh := ite_t hb19 hh
                  obtain ⟨r20, hr20, hh⟩ := bindS hh
                  cases hh
                  try simp only [x_l50_TapeTells, seval, -Int.reduceToNat, hr1, hr2, hr5, hr6, hr7, hr8, t1j2, t2j2, t15j2, t126j2, hr11, hr12, hr13, hr14, hr18, hr20]
                · replace hh := ite_f hb19 hh
                  cases hh
                  try simp only [x_l50_TapeTells, seval, -Int.reduceToNat, hr1, hr2, hr5, hr6, hr7, hr8, t1j2, t2j2, t15j2, t126j2, hr11, hr12, hr13, hr14, hr18]
              · replace hh := ite_f hb17 hh
                cases hh
                try simp only [x_l50_TapeTells, seval, -Int.reduceToNat, hr1, hr2, hr5, hr6, hr7, hr8, t1j2, t2j2, t15j2, t126j2, hr11, hr12, hr13, hr14]
            · replace hh := ite_f hb16 hh
              cases hh
              try simp only [x_l50_TapeTells, seval, -Int.reduceToNat, hr1, hr2, hr5, hr6, hr7, hr8, t1j2, t2j2, t15j2, t126j2, hr11, hr12, hr13, hr14]
          · replace hh := ite_f hb15 hh
            cases hh
            try simp only [x_l50_TapeTells, seval, -Int.reduceToNat, hr1, hr2, hr5, hr6, hr7, hr8, t1j2, t2j2, t15j2, t126j2, hr11, hr12, hr13, hr14]
      ·
        clear hh
        have hh := ho9
        try simp only [x_l50_TapeTells, seval, -Int.reduceToNat, hr1, hr2, t0j1, t1j1, t2j1, t3j1, t5j1, t6j1, t11j1, t15j1, t55j1, H11j1, hr5, hr6, hr7, hr8]
        refine tstO_br' (fun hb21 => ?_) (fun hb21 => ?_)
        · replace hh := ite_t hb21 hh
          cases hh
          try simp only [x_l50_TapeTells, seval, -Int.reduceToNat, hr1, hr2, t0j1, t1j1, t2j1, t3j1, t5j1, t6j1, t11j1, t15j1, t55j1, H11j1, hr5, hr6, hr7, hr8]
          rw [CK_normal]
          refine ⟨_, rfl, ?_⟩
          refine ⟨?_, ?_, ?_, ?_⟩
          all_goals (first | rfl | (simp only [x_l50_TapeTells, seval, -Int.reduceToNat, hr1, hr2, t0j1, t1j1, t2j1, t3j1, t5j1, t6j1, t11j1, t15j1, t55j1, H11j1, hr5, hr6, hr7, hr8] <;> rfl))
        · replace hh := ite_f hb21 hh
          try simp only [x_l50_TapeTells, seval, -Int.reduceToNat, hr1, hr2, t0j1, t1j1, t2j1, t3j1, t5j1, t6j1, t11j1, t15j1, t55j1, H11j1, hr5, hr6, hr7, hr8]
          refine tstO_br' (fun hb22 => ?_) (fun hb22 => ?_)
          · replace hh := ite_t hb22 hh
            cases hh
            try simp only [x_l50_TapeTells, seval, -Int.reduceToNat, hr1, hr2, t0j1, t1j1, t2j1, t3j1, t5j1, t6j1, t11j1, t15j1, t55j1, H11j1, hr5, hr6, hr7, hr8]
            rw [CK_normal]
            refine ⟨_, rfl, ?_⟩
            refine ⟨?_, ?_, ?_, ?_⟩
            all_goals (first | rfl | (simp only [x_l50_TapeTells, seval, -Int.reduceToNat, hr1, hr2, t0j1, t1j1, t2j1, t3j1, t5j1, t6j1, t11j1, t15j1, t55j1, H11j1, hr5, hr6, hr7, hr8] <;> rfl))
          · replace hh := ite_f hb22 hh
            obtain ⟨r23, hr23, hh⟩ := bindS hh
            try simp only [x_l50_TapeTells, seval, -Int.reduceToNat, hr1, hr2, t0j1, t1j1, t2j1, t3j1, t5j1, t6j1, t11j1, t15j1, t55j1, H11j1, hr5, hr6, hr7, hr8, hr23]
            refine tstO_br' (fun hb24 => ?_) (fun hb24 => ?_)
            · replace hh := ite_t hb24 hh
              cases hh
              try simp only [x_l50_TapeTells, seval, -Int.reduceToNat, hr1, hr2, t0j1, t1j1, t2j1, t3j1, t5j1, t6j1, t11j1, t15j1, t55j1, H11j1, hr5, hr6, hr7, hr8, hr23]
              rw [CK_normal]
              refine ⟨_, rfl, ?_⟩
              refine ⟨?_, ?_, ?_, ?_⟩
              all_goals (first | rfl | (simp only [x_l50_TapeTells, seval, -Int.reduceToNat, hr1, hr2, t0j1, t1j1, t2j1, t3j1, t5j1, t6j1, t11j1, t15j1, t55j1, H11j1, hr5, hr6, hr7, hr8, hr23] <;> rfl))
            · replace hh := ite_f hb24 hh
              obtain ⟨r25, hr25, hh⟩ := bindS hh
              try simp only [x_l50_TapeTells, seval, -Int.reduceToNat, hr1, hr2, t0j1, t1j1, t2j1, t3j1, t5j1, t6j1, t11j1, t15j1, t55j1, H11j1, hr5, hr6, hr7, hr8, hr23, hr25]
              refine tstO_br' (fun hb26 => ?_) (fun hb26 => ?_)
              · replace hh := ite_t hb26 hh
                cases hh
                try simp only [x_l50_TapeTells, seval, -Int.reduceToNat, hr1, hr2, t0j1, t1j1, t2j1, t3j1, t5j1, t6j1, t11j1, t15j1, t55j1, H11j1, hr5, hr6, hr7, hr8, hr23, hr25]
                rw [CK_normal]
                refine ⟨_, rfl, ?_⟩
                refine ⟨?_, ?_, ?_, ?_⟩
                all_goals (first | rfl | (simp only [x_l50_TapeTells, seval, -Int.reduceToNat, hr1, hr2, t0j1, t1j1, t2j1, t3j1, t5j1, t6j1, t11j1, t15j1, t55j1, H11j1, hr5, hr6, hr7, hr8, hr23, hr25] <;> rfl))
              · replace hh := ite_f hb26 hh
                obtain ⟨r27, hr27, hh⟩ := bindS hh
                obtain ⟨r28, hr28, hh⟩ := bindS hh
                try simp only [x_l50_TapeTells, seval, -Int.reduceToNat, hr1, hr2, t0j1, t1j1, t2j1, t3j1, t5j1, t6j1, t11j1, t15j1, t55j1, H11j1, hr5, hr6, hr7, hr8, hr23, hr25, hr27, hr28]
                refine tstO_br' (fun hb29 => ?_) (fun hb29 => ?_)
                · replace hh := ite_t hb29 hh
                  cases hh
                  try simp only [x_l50_TapeTells, seval, -Int.reduceToNat, hr1, hr2, t0j1, t1j1, t2j1, t3j1, t5j1, t6j1, t11j1, t15j1, t55j1, H11j1, hr5, hr6, hr7, hr8, hr23, hr25, hr27, hr28]
                  rw [CK_normal]
                  refine ⟨_, rfl, ?_⟩
                  refine ⟨?_, ?_, ?_, ?_⟩
                  all_goals (first | rfl | (simp only [x_l50_TapeTells, seval, -Int.reduceToNat, hr1, hr2, t0j1, t1j1, t2j1, t3j1, t5j1, t6j1, t11j1, t15j1, t55j1, H11j1, hr5, hr6, hr7, hr8, hr23, hr25, hr27, hr28] <;> rfl))
                · replace hh := ite_f hb29 hh
                  obtain ⟨r30, hr30, hh⟩ := bindS hh
                  obtain ⟨r31, hr31, hh⟩ := bindS hh
                  cases hh
                  try simp only [x_l50_TapeTells, seval, -Int.reduceToNat, hr1, hr2, t0j1, t1j1, t2j1, t3j1, t5j1, t6j1, t11j1, t15j1, t55j1, H11j1, hr5, hr6, hr7, hr8, hr23, hr25, hr27, hr28, hr30, hr31]
                  rw [CK_normal]
                  refine ⟨_, rfl, ?_⟩
                  refine ⟨?_, ?_, ?_, ?_⟩
                  all_goals (first | rfl | (simp only [x_l50_TapeTells, seval, -Int.reduceToNat, hr1, hr2, t0j1, t1j1, t2j1, t3j1, t5j1, t6j1, t11j1, t15j1, t55j1, H11j1, hr5, hr6, hr7, hr8, hr23, hr25, hr27, hr28, hr30, hr31] <;> rfl))
  ·
    clear hh
    have hh := ho3
    try simp only [x_l50_TapeTells, seval, -Int.reduceToNat, hr1, hr2]
    refine tstO_br' (fun hb32 => ?_) (fun hb32 => ?_)
    · replace hh := ite_t hb32 hh
      cases hh
      try simp only [x_l50_TapeTells, seval, -Int.reduceToNat, hr1, hr2]
      rw [CK_normal]
      refine ⟨_, rfl, ?_⟩
      refine ⟨0, ?_, ?_, ?_, ?_, ?_, ?_, ?_, ?_, ?_, ?_⟩
      all_goals (first | rfl | (simp only [x_l50_TapeTells, seval, -Int.reduceToNat, hr1, hr2] <;> rfl))
    · replace hh := ite_f hb32 hh
      obtain ⟨r33, hr33, hh⟩ := bindS hh
      try simp only [x_l50_TapeTells, seval, -Int.reduceToNat, hr1, hr2, hr33]
      refine tstO_br' (fun hb34 => ?_) (fun hb34 => ?_)
      · replace hh := ite_t hb34 hh
        cases hh
        try simp only [x_l50_TapeTells, seval, -Int.reduceToNat, hr1, hr2, hr33]
        rw [CK_normal]
        refine ⟨_, rfl, ?_⟩
        refine ⟨0, ?_, ?_, ?_, ?_, ?_, ?_, ?_, ?_, ?_, ?_⟩
        all_goals (first | rfl | (simp only [x_l50_TapeTells, seval, -Int.reduceToNat, hr1, hr2, hr33] <;> rfl))
      · replace hh := ite_f hb34 hh
        obtain ⟨r35, hr35, hh⟩ := bindS hh
        try simp only [x_l50_TapeTells, seval, -Int.reduceToNat, hr1, hr2, hr33, hr35]
        refine tstO_br' (fun hb36 => ?_) (fun hb36 => ?_)
        · replace hh := ite_t hb36 hh
          cases hh
          try simp only [x_l50_TapeTells, seval, -Int.reduceToNat, hr1, hr2, hr33, hr35]
          rw [CK_normal]
          refine ⟨_, rfl, ?_⟩
          refine ⟨0, ?_, ?_, ?_, ?_, ?_, ?_, ?_, ?_, ?_, ?_⟩
          all_goals (first | rfl | (simp only [x_l50_TapeTells, seval, -Int.reduceToNat, hr1, hr2, hr33, hr35] <;> rfl))
        · replace hh := ite_f hb36 hh
          try simp only [x_l50_TapeTells, seval, -Int.reduceToNat, hr1, hr2, hr33, hr35]
          refine tstO_br' (fun hb37 => ?_) (fun hb37 => ?_)
          · replace hh := ite_t hb37 hh
            cases hh
            try simp only [x_l50_TapeTells, seval, -Int.reduceToNat, hr1, hr2, hr33, hr35]
            rw [CK_normal]
            refine ⟨_, rfl, ?_⟩
            refine ⟨0, ?_, ?_, ?_, ?_, ?_, ?_, ?_, ?_, ?_, ?_⟩
            all_goals (first | rfl | (simp only [x_l50_TapeTells, seval, -Int.reduceToNat, hr1, hr2, hr33, hr35] <;> rfl))
          · replace hh := ite_f hb37 hh
            cases hh
            try simp only [x_l50_TapeTells, seval, -Int.reduceToNat, hr1, hr2, hr33, hr35]
            rw [CK_normal]
            refine ⟨_, rfl, ?_⟩
            refine ⟨0, ?_, ?_, ?_, ?_, ?_, ?_, ?_, ?_, ?_, ?_⟩
            all_goals (first | rfl | (simp only [x_l50_TapeTells, seval, -Int.reduceToNat, hr1, hr2, hr33, hr35] <;> rfl))

theorem ok_l50_TapeTells : COk Tryd.prog 3 G_l50_TapeTells := COk.of (mode := .clean) tok ge_l50_TapeTells mixed Tryd.func3 (by kernel_rfl) ⟨by kernel_rfl, by kernel_rfl⟩ (fun _ => Nat.le_of_ble_eq_true (by kernel_rfl)) (fun x r h => m_l50_TapeTells x.1 x.2.1 x.2.2.1 x.2.2.2.1 x.2.2.2.2.1 x.2.2.2.2.2.1 x.2.2.2.2.2.2 r h)

noncomputable def G_l50_TapeFree := mkG (asC (aSl (eSl (eI .i64))) (asC (aSl (eI .i64)) (asC (aSl (eI .i64)) (asC (aI .i64) (as1 (aI .u8)))))) (fun x : (List (List Int)) × (List Int) × (List Int) × Int × Int => l50_TapeFree x.1 x.2.1 x.2.2.1 x.2.2.2.1 x.2.2.2.2) (fun r : Bool => .clean (.bool r))

theorem q_l50_TapeFree (p0 : (List (List Int))) (p1 : (List Int)) (p2 : (List Int)) (p3 : Int) (p4 : Int) : G_l50_TapeFree none [.sl false false p0.length (encL (eSl (eI .i64)) p0), .sl false false p1.length (encL (eI .i64) p1), .sl false false p2.length (encL (eI .i64) p2), .int .i64 p3, .int .u8 p4] = (l50_TapeFree p0 p1 p2 p3 p4).map fun r : Bool => (.clean (.bool r), none) := mkG_eq _ _ _ (p0, p1, p2, p3, p4)

noncomputable def g_l50_TapeFree : Env := (Am.ext (Am.ext (Am.ext (Am.ext (Am.ext (Am.ext noEnv 9 false G_l50_sane) 10 false G_r50_Few) 11 false G_r50_FewRow) 13 false G_tape_Tape) 17 false G_r50_SameInts) 18 false G_tape_Right)

theorem ge_l50_TapeFree : GOk Tryd.prog g_l50_TapeFree := ((((((GOk.none.add ok_l50_sane false).add ok_r50_Few false).add ok_r50_FewRow false).add ok_tape_Tape false).add ok_r50_SameInts false).add ok_tape_Right false)

theorem gg_l50_TapeFree : g_l50_TapeFree = (Am.ext (Am.ext (Am.ext (Am.ext (Am.ext (Am.ext noEnv 9 false G_l50_sane) 10 false G_r50_Few) 11 false G_r50_FewRow) 13 false G_tape_Tape) 17 false G_r50_SameInts) 18 false G_tape_Right) := Eq.trans rfl rfl

theorem x_l50_TapeFree : type_of% (And.intro @w <| And.intro @q_l50_sane <| And.intro @q_r50_Few <| And.intro @q_r50_FewRow <| And.intro @q_tape_Tape <| And.intro @q_r50_SameInts <| And.intro @q_tape_Right <| @gg_l50_TapeFree) := And.intro @w <| And.intro @q_l50_sane <| And.intro @q_r50_Few <| And.intro @q_r50_FewRow <| And.intro @q_tape_Tape <| And.intro @q_r50_SameInts <| And.intro @q_tape_Right <| @gg_l50_TapeFree

theorem m_l50_TapeFree (p0 : (List (List Int))) (p1 : (List Int)) (p2 : (List Int)) (p3 : Int) (p4 : Int) (r : Bool) (hh : l50_TapeFree p0 p1 p2 p3 p4 = some r) : vfunc .clean tab g_l50_TapeFree FU Tryd.f4 none [.sl false false p0.length (encL (eSl (eI .i64)) p0), .sl false false p1.length (encL (eI .i64) p1), .sl false false p2.length (encL (eI .i64) p2), .int .i64 p3, .int .u8 p4] = some (.clean (.bool r), none) := by
  refine vfunc_of rfl Tryd.ntmps4 Tryd.results4 ?_
  unfold l50_TapeFree at hh
  obtain ⟨r1, hr1, hh⟩ := bindS hh
  obtain ⟨r2, hr2, hh⟩ := bindS hh
  try simp only [x_l50_TapeFree, seval, -Int.reduceToNat, hr1, hr2]
  obtain ⟨o3, ho3, hh⟩ := bindS hh
  refine tstO_cut 0 (fun s t H e => match s with | s44j1 => t 0 = .sl false false p0.length (encL (eSl (eI .i64)) p0) ∧ t 1 = .sl false false p1.length (encL (eI .i64) p1) ∧ t 2 = .sl false false p2.length (encL (eI .i64) p2) ∧ t 3 = .int .i64 p3 ∧ t 4 = .int .u8 p4 ∧ t 11 = .bool r1 ∧ t 44 = .bool s44j1) (fun s => s = o3) ?_ ?_
  · rintro s44j1 t H e ⟨t0j1, t1j1, t2j1, t3j1, t4j1, t11j1, t44j1⟩ rfl
    try dsimp only at hh
    try simp only [x_l50_TapeFree, seval, -Int.reduceToNat, hr1, hr2, t0j1, t1j1, t2j1, t3j1, t4j1, t11j1, t44j1]
    refine tstC_br (fun hb4 => ?_) (fun hb4 => ?_)
    · replace hh := ite_t hb4 hh
      cases hh
      try simp only [x_l50_TapeFree, seval, -Int.reduceToNat, hr1, hr2, t0j1, t1j1, t2j1, t3j1, t4j1, t11j1, t44j1]
    · replace hh := ite_f hb4 hh
      obtain ⟨r5, hr5, hh⟩ := bindS hh
      try simp only [x_l50_TapeFree, seval, -Int.reduceToNat, hr1, hr2, t0j1, t1j1, t2j1, t3j1, t4j1, t11j1, t44j1, hr5]
      obtain ⟨o6, ho6, hh⟩ := bindS hh
      refine tstO_cut 0 (fun s t H e => match s with | s62j2 => t 0 = .sl false false p0.length (encL (eSl (eI .i64)) p0) ∧ t 1 = .sl false false p1.length (encL (eI .i64) p1) ∧ t 2 = .sl false false p2.length (encL (eI .i64) p2) ∧ t 3 = .int .i64 p3 ∧ t 4 = .int .u8 p4 ∧ t 11 = .bool r1 ∧ t 12 = .sl false false r5.1.length (encL (eI .i64) r5.1) ∧ t 13 = .int .i64 r5.2 ∧ t 62 = .bool s62j2) (fun s => s = o6) ?_ ?_
      · rintro s62j2 t H e ⟨t0j2, t1j2, t2j2, t3j2, t4j2, t11j2, t12j2, t13j2, t62j2⟩ rfl
        try dsimp only at hh
        try simp only [x_l50_TapeFree, seval, -Int.reduceToNat, hr1, hr2, hr5, t0j2, t1j2, t2j2, t3j2, t4j2, t11j2, t12j2, t13j2, t62j2]
        refine tstC_br (fun hb7 => ?_) (fun hb7 => ?_)
        · replace hh := ite_t hb7 hh
          try simp only [x_l50_TapeFree, seval, -Int.reduceToNat, hr1, hr2, hr5, t0j2, t1j2, t2j2, t3j2, t4j2, t11j2, t12j2, t13j2, t62j2]
          obtain ⟨o8, ho8, hh⟩ := bindS hh
          refine tstO_cut 0 (fun s t H e => match s with | s10j3 => t 10 = .bool s10j3) (fun s => s = o8) ?_ ?_
          · rintro s10j3 t H e t10j3 rfl
            try dsimp only at hh
            cases hh
            try simp only [x_l50_TapeFree, seval, -Int.reduceToNat, hr1, hr2, hr5, t10j3]
          ·
            clear hh
            have hh := ho8
            try simp only [x_l50_TapeFree, seval, -Int.reduceToNat, hr1, hr2, hr5, t0j2, t1j2, t2j2, t3j2, t4j2, t11j2, t12j2, t13j2, t62j2]
            refine tstO_br (fun hb9 => ?_) (fun hb9 => ?_)
            · replace hh := ite_t hb9 hh
              cases hh
              try simp only [x_l50_TapeFree, seval, -Int.reduceToNat, hr1, hr2, hr5, t0j2, t1j2, t2j2, t3j2, t4j2, t11j2, t12j2, t13j2, t62j2]
              rw [CK_normal]
              refine ⟨_, rfl, ?_⟩
              refine ?_
              all_goals (first | rfl | (simp only [x_l50_TapeFree, seval, -Int.reduceToNat, hr1, hr2, hr5, t0j2, t1j2, t2j2, t3j2, t4j2, t11j2, t12j2, t13j2, t62j2] <;> rfl))
            · replace hh := ite_f hb9 hh
              cases hh
              try simp only [x_l50_TapeFree, seval, -Int.reduceToNat, hr1, hr2, hr5, t0j2, t1j2, t2j2, t3j2, t4j2, t11j2, t12j2, t13j2, t62j2]
              rw [CK_normal]
              refine ⟨_, rfl, ?_⟩
              refine ?_
              all_goals (first | rfl | (simp only [x_l50_TapeFree, seval, -Int.reduceToNat, hr1, hr2, hr5, t0j2, t1j2, t2j2, t3j2, t4j2, t11j2, t12j2, t13j2, t62j2] <;> rfl))
        · replace hh := ite_f hb7 hh
          try simp only [x_l50_TapeFree, seval, -Int.reduceToNat, hr1, hr2, hr5, t0j2, t1j2, t2j2, t3j2, t4j2, t11j2, t12j2, t13j2, t62j2]
          obtain ⟨o17, ho17, hh⟩ := bindS hh
          refine runLoop_sim (fun s t H e => match s with | (s15d, l14d) => ∃ v14d : Nat, t 0 = .sl false false p0.length (encL (eSl (eI .i64)) p0) ∧ t 1 = .sl false false p1.length (encL (eI .i64) p1) ∧ t 2 = .sl false false p2.length (encL (eI .i64) p2) ∧ t 3 = .int .i64 p3 ∧ t 4 = .int .u8 p4 ∧ t 11 = .bool r1 ∧ t 12 = .sl false false r5.1.length (encL (eI .i64) r5.1) ∧ t 14 = .buf 14 v14d 1 0 (l14d).length ∧ t 15 = .int .i64 s15d ∧ H 14 = some ⟨v14d, 3, encL (eI .i64) l14d, false, true, false⟩) (fun o x t H e => match o with | l14dx => x = .exit 0 ∧ ∃ v14dx : Nat, t 0 = .sl false false p0.length (encL (eSl (eI .i64)) p0) ∧ t 1 = .sl false false p1.length (encL (eI .i64) p1) ∧ t 2 = .sl false false p2.length (encL (eI .i64) p2) ∧ t 3 = .int .i64 p3 ∧ t 4 = .int .u8 p4 ∧ t 11 = .bool r1 ∧ t 14 = .buf 14 v14dx 1 0 (l14dx).length ∧ H 14 = some ⟨v14dx, 3, encL (eI .i64) l14dx, false, true, false⟩) ho17 ?_ ?_ ?_
          ·
            refine ⟨e, ?_, ?_, ?_, ?_, ?_, ?_, ?_, ?_, ?_, ?_⟩
            all_goals (first | rfl | (simp only [x_l50_TapeFree, seval, -Int.reduceToNat, hr1, hr2, hr5, t0j2, t1j2, t2j2, t3j2, t4j2, t11j2, t12j2, t13j2, t62j2] <;> rfl))
          · rintro ⟨s15d, l14d⟩ t H e ⟨v14d, t0d, t1d, t2d, t3d, t4d, t11d, t12d, t14d, t15d, H14d⟩ c hh
            simp only [l50_TapeFree_L4] at hh
            try simp only [x_l50_TapeFree, seval, -Int.reduceToNat, hr1, hr2, hr5, t0d, t1d, t2d, t3d, t4d, t11d, t12d, t14d, t15d, H14d]
            refine tstC_br (fun hb18 => ?_) (fun hb18 => ?_)
            · replace hh := ite_t hb18 hh
              obtain ⟨x19, hx19, hh⟩ := bindS hh
              have bx19 := idx_bd hx19
              have ax19 := idx_enc (eI .i64) hx19
              have fx19 := idx_fit (eI .i64) hx19
              simp only [vmz] at ax19 fx19
              skip
              obtain ⟨x20, hx20, hh⟩ := bindS hh
              have bx20 := idx_bd hx20
              have ax20 := idx_enc (eI .i64) hx20
              have fx20 := idx_fit (eI .i64) hx20
              simp only [vmz] at ax20 fx20
              skip
              obtain ⟨x21, hx21, hh⟩ := bindS hh
              obtain ⟨q22a, q22b⟩ := modI_ok hx21
              obtain ⟨x23, hx23, hh⟩ := bindS hh
              obtain ⟨q24a, q24b, q24c, q24d⟩ := app_one (eI .i64) hx23
              simp only [vmz] at q24b
              try simp only [x_l50_TapeFree, seval, -Int.reduceToNat, hr1, hr2, hr5, t0d, t1d, t2d, t3d, t4d, t11d, t12d, t14d, t15d, H14d, bx19, ax19, fx19, bx20, ax20, fx20, q22a, q22b, q24a, q24b, q24c, q24d]
              refine dyn_ok (by kernel_rfl) ?_
              cases hh
              try simp only [x_l50_TapeFree, seval, -Int.reduceToNat, hr1, hr2, hr5, t0d, t1d, t2d, t3d, t4d, t11d, t12d, t14d, t15d, H14d, bx19, ax19, fx19, bx20, ax20, fx20, q22a, q22b, q24a, q24b, q24c, q24d]
              rw [LK_normal]
              refine ⟨_, rfl, ?_⟩
              refine ⟨e + 1, ?_, ?_, ?_, ?_, ?_, ?_, ?_, ?_, ?_, ?_⟩
              all_goals (first | rfl | (simp only [x_l50_TapeFree, seval, -Int.reduceToNat, hr1, hr2, hr5, t0d, t1d, t2d, t3d, t4d, t11d, t12d, t14d, t15d, H14d, bx19, ax19, fx19, bx20, ax20, fx20, q22a, q22b, q24a, q24b, q24c, q24d] <;> rfl))
            · replace hh := ite_f hb18 hh
              cases hh
              try simp only [x_l50_TapeFree, seval, -Int.reduceToNat, hr1, hr2, hr5, t0d, t1d, t2d, t3d, t4d, t11d, t12d, t14d, t15d, H14d]
              rw [LK_exit]
              refine ⟨_, rfl, ?_⟩
              refine ⟨rfl, ⟨v14d, ?_, ?_, ?_, ?_, ?_, ?_, ?_, ?_⟩⟩
              all_goals (first | rfl | (simp only [x_l50_TapeFree, seval, -Int.reduceToNat, hr1, hr2, hr5, t0d, t1d, t2d, t3d, t4d, t11d, t12d, t14d, t15d, H14d] <;> rfl))
          · rintro x t H e hx
            obtain ⟨l14dx, rfl⟩ : ∃ z, z = o17 := ⟨_, rfl⟩
            dsimp only at hx hh
            obtain ⟨rfl, ⟨v14dx, t0dx, t1dx, t2dx, t3dx, t4dx, t11dx, t14dx, H14dx⟩⟩ := hx
            obtain ⟨x25, hx25, hh⟩ := bindS hh
            obtain ⟨q26a, q26b⟩ := modI_ok hx25
            obtain ⟨x27, hx27, hh⟩ := bindS hh
            obtain ⟨q28a, q28b, q28c, q28d, q28e⟩ := slc_nh (eSl (eI .i64)) hx27
            simp only [vmz] at q28e
            obtain ⟨x29, hx29, hh⟩ := bindS hh
            obtain ⟨q30a, q30b, q30c⟩ := app_nil hx29
            replace q30a := q30a.symm
            subst q30a
            obtain ⟨x31, hx31, hh⟩ := bindS hh
            obtain ⟨q32a, q32b, q32c, q32d⟩ := app_one (eSl (eI .i64)) hx31
            simp only [vmz] at q32b
            obtain ⟨x33, hx33, hh⟩ := bindS hh
            obtain ⟨q34a, q34b, q34c, q34d, q34e⟩ := slc_ln (eSl (eI .i64)) hx33
            simp only [vmz] at q34e
            have q34i := q34d
            have q34j := q34e
            have q34k := q34c
            try simp only [q28d] at q34i q34j q34k
            obtain ⟨x35, hx35, hh⟩ := bindS hh
            obtain ⟨q36a, q36b, q36c, q36d⟩ := app_two (eSl (eI .i64)) hx35
            try simp only [x_l50_TapeFree, seval, -Int.reduceToNat, hr1, hr2, hr5, t0dx, t1dx, t2dx, t3dx, t4dx, t11dx, t14dx, H14dx, q26a, q26b, q28a, q28b, q28c, q28d, q28e, q30b, q30c, q32a, q32b, q32c, q32d, q34a, q34b, q34c, q34d, q34e, q34i, q34j, q34k, q36a, q36b, q36c, q36d]
            refine dyn_ok (by kernel_rfl) ?_
            obtain ⟨r37, hr37, hh⟩ := bindS hh
            try simp only [x_l50_TapeFree, seval, -Int.reduceToNat, hr1, hr2, hr5, t0dx, t1dx, t2dx, t3dx, t4dx, t11dx, t14dx, H14dx, q26a, q26b, q28a, q28b, q28c, q28d, q28e, q30b, q30c, q32a, q32b, q32c, q32d, q34a, q34b, q34c, q34d, q34e, q34i, q34j, q34k, q36a, q36b, q36c, q36d, hr37]
            obtain ⟨o38, ho38, hh⟩ := bindS hh
            refine tstO_cut 0 (fun s t H e => match s with | s134j5 => ∃ v14j5 : Nat, t 0 = .sl false false p0.length (encL (eSl (eI .i64)) p0) ∧ t 1 = .sl false false p1.length (encL (eI .i64) p1) ∧ t 2 = .sl false false p2.length (encL (eI .i64) p2) ∧ t 3 = .int .i64 p3 ∧ t 11 = .bool r1 ∧ t 14 = .buf 14 v14j5 1 0 (l14dx).length ∧ t 16 = .int .i64 x25 ∧ t 134 = .bool s134j5 ∧ H 14 = some ⟨v14j5, 3, encL (eI .i64) l14dx, true, true, false⟩) (fun s => s = o38) ?_ ?_
            · rintro s134j5 t H e ⟨v14j5, t0j5, t1j5, t2j5, t3j5, t11j5, t14j5, t16j5, t134j5, H14j5⟩ rfl
              try dsimp only at hh
              try simp only [x_l50_TapeFree, seval, -Int.reduceToNat, hr1, hr2, hr5, q26a, q26b, q28a, q28b, q28c, q28d, q28e, q30b, q30c, q32a, q32b, q32c, q32d, q34a, q34b, q34c, q34d, q34e, q34i, q34j, q34k, q36a, q36b, q36c, q36d, hr37, t0j5, t1j5, t2j5, t3j5, t11j5, t14j5, t16j5, t134j5, H14j5]
              refine tstC_br (fun hb39 => ?_) (fun hb39 => ?_)
              · replace hh := ite_t hb39 hh
                cases hh
                try simp only [x_l50_TapeFree, seval, -Int.reduceToNat, hr1, hr2, hr5, q26a, q26b, q28a, q28b, q28c, q28d, q28e, q30b, q30c, q32a, q32b, q32c, q32d, q34a, q34b, q34c, q34d, q34e, q34i, q34j, q34k, q36a, q36b, q36c, q36d, hr37, t0j5, t1j5, t2j5, t3j5, t11j5, t14j5, t16j5, t134j5, H14j5]
              · replace hh := ite_f hb39 hh
                obtain ⟨r40, hr40, hh⟩ := bindS hh
                try simp only [x_l50_TapeFree, seval, -Int.reduceToNat, hr1, hr2, hr5, q26a, q26b, q28a, q28b, q28c, q28d, q28e, q30b, q30c, q32a, q32b, q32c, q32d, q34a, q34b, q34c, q34d, q34e, q34i, q34j, q34k, q36a, q36b, q36c, q36d, hr37, t0j5, t1j5, t2j5, t3j5, t11j5, t14j5, t16j5, t134j5, H14j5, hr40]
                obtain ⟨o41, ho41, hh⟩ := bindS hh
                refine tstO_cut 0 (fun s t H e => match s with | s150j6 => t 0 = .sl false false p0.length (encL (eSl (eI .i64)) p0) ∧ t 1 = .sl false false p1.length (encL (eI .i64) p1) ∧ t 2 = .sl false false p2.length (encL (eI .i64) p2) ∧ t 3 = .int .i64 p3 ∧ t 11 = .bool r1 ∧ t 16 = .int .i64 x25 ∧ t 150 = .bool s150j6) (fun s => s = o41) ?_ ?_
                · rintro s150j6 t H e ⟨t0j6, t1j6, t2j6, t3j6, t11j6, t16j6, t150j6⟩ rfl
                  try dsimp only at hh
                  try simp only [x_l50_TapeFree, seval, -Int.reduceToNat, hr1, hr2, hr5, q26a, q26b, q28a, q28b, q28c, q28d, q28e, q30b, q30c, q32a, q32b, q32c, q32d, q34a, q34b, q34c, q34d, q34e, q34i, q34j, q34k, q36a, q36b, q36c, q36d, hr37, hr40, t0j6, t1j6, t2j6, t3j6, t11j6, t16j6, t150j6]
                  refine tstC_br (fun hb42 => ?_) (fun hb42 => ?_)
                  · replace hh := ite_t hb42 hh
                    cases hh
                    try simp only [x_l50_TapeFree, seval, -Int.reduceToNat, hr1, hr2, hr5, q26a, q26b, q28a, q28b, q28c, q28d, q28e, q30b, q30c, q32a, q32b, q32c, q32d, q34a, q34b, q34c, q34d, q34e, q34i, q34j, q34k, q36a, q36b, q36c, q36d, hr37, hr40, t0j6, t1j6, t2j6, t3j6, t11j6, t16j6, t150j6]
                  · replace hh := ite_f hb42 hh
                    obtain ⟨q43a, q43b, q43c, q43d, q43e⟩ := slc_nh (eSl (eI .i64)) hx27
                    simp only [vmz] at q43e
                    have q43i := q34d
                    have q43j := q34e
                    try simp only [q43d] at q43i q43j
                    obtain ⟨x44, hx44, hh⟩ := bindS hh
                    obtain ⟨q45a, q45b, q45c⟩ := app_nil hx44
                    replace q45a := q45a.symm
                    subst q45a
                    obtain ⟨x46, hx46, hh⟩ := bindS hh
                    obtain ⟨q47a, q47b, q47c, q47d⟩ := app_one (eSl (eI .i64)) hx46
                    simp only [vmz] at q47b
                    obtain ⟨q48a, q48b, q48c, q48d, q48e⟩ := slc_ln (eSl (eI .i64)) hx33
                    simp only [vmz] at q48e
                    have q48i := q48d
                    have q48j := q48e
                    have q48k := q48c
                    try simp only [q43d] at q48i q48j q48k
                    obtain ⟨x49, hx49, hh⟩ := bindS hh
                    obtain ⟨q50a, q50b, q50c, q50d⟩ := app_two (eSl (eI .i64)) hx49
                    try simp only [x_l50_TapeFree, seval, -Int.reduceToNat, hr1, hr2, hr5, q26a, q26b, q28a, q28b, q28c, q28d, q28e, q30b, q30c, q32b, q32c, q32d, q34a, q34b, q34c, q34d, q34e, q34i, q34j, q34k, q36a, q36b, q36c, q36d, hr37, hr40, t0j6, t1j6, t2j6, t3j6, t11j6, t16j6, t150j6, q43a, q43b, q43c, q43d, q43e, q43i, q43j, q45b, q45c, q47a, q47b, q47c, q47d, q48a, q48b, q48c, q48d, q48e, q48i, q48j, q48k, q50a, q50b, q50c, q50d]
                    refine dyn_ok (by kernel_rfl) ?_
                    obtain ⟨r51, hr51, hh⟩ := bindS hh
                    try simp only [x_l50_TapeFree, seval, -Int.reduceToNat, hr1, hr2, hr5, q26a, q26b, q28a, q28b, q28c, q28d, q28e, q30b, q30c, q32b, q32c, q32d, q34a, q34b, q34c, q34d, q34e, q34i, q34j, q34k, q36a, q36b, q36c, q36d, hr37, hr40, t0j6, t1j6, t2j6, t3j6, t11j6, t16j6, t150j6, q43a, q43b, q43c, q43d, q43e, q43i, q43j, q45b, q45c, q47a, q47b, q47c, q47d, q48a, q48b, q48c, q48d, q48e, q48i, q48j, q48k, q50a, q50b, q50c, q50d, hr51]
                    refine tstO_br (fun hb52 => ?_) (fun hb52 => ?_)
                    · replace hh := ite_t hb52 hh
                      try simp only [x_l50_TapeFree, seval, -Int.reduceToNat, hr1, hr2, hr5, q26a, q26b, q28a, q28b, q28c, q28d, q28e, q30b, q30c, q32b, q32c, q32d, q34a, q34b, q34c, q34d, q34e, q34i, q34j, q34k, q36a, q36b, q36c, q36d, hr37, hr40, t0j6, t1j6, t2j6, t3j6, t11j6, t16j6, t150j6, q43a, q43b, q43c, q43d, q43e, q43i, q43j, q45b, q45c, q47a, q47b, q47c, q47d, q48a, q48b, q48c, q48d, q48e, q48i, q48j, q48k, q50a, q50b, q50c, q50d, hr51]
                      refine tstO_br (fun hb53 => ?_) (fun hb53 => ?_)
                      · replace hh := ite_t hb53 hh
                        obtain ⟨r54, hr54, hh⟩ := bindS hh
                        cases hh
                        try simp only [x_l50_TapeFree, seval, -Int.reduceToNat, hr1, hr2, hr5, q26a, q26b, q28a, q28b, q28c, q28d, q28e, q30b, q30c, q32b, q32c, q32d, q34a, q34b, q34c, q34d, q34e, q34i, q34j, q34k, q36a, q36b, q36c, q36d, hr37, hr40, t0j6, t1j6, t2j6, t3j6, t11j6, t16j6, t150j6, q43a, q43b, q43c, q43d, q43e, q43i, q43j, q45b, q45c, q47a, q47b, q47c, q47d, q48a, q48b, q48c, q48d, q48e, q48i, q48j, q48k, q50a, q50b, q50c, q50d, hr51, hr54]
                      · replace hh := ite_f hb53 hh
                        cases hh
                        try simp only [x_l50_TapeFree, seval, -Int.reduceToNat, hr1, hr2, hr5, q26a, q26b, q28a, q28b, q28c, q28d, q28e, q30b, q30c, q32b, q32c, q32d, q34a, q34b, q34c, q34d, q34e, q34i, q34j, q34k, q36a, q36b, q36c, q36d, hr37, hr40, t0j6, t1j6, t2j6, t3j6, t11j6, t16j6, t150j6, q43a, q43b, q43c, q43d, q43e, q43i, q43j, q45b, q45c, q47a, q47b, q47c, q47d, q48a, q48b, q48c, q48d, q48e, q48i, q48j, q48k, q50a, q50b, q50c, q50d, hr51]
                    · replace hh := ite_f hb52 hh
                      cases hh
                      try simp only [x_l50_TapeFree, seval, -Int.reduceToNat, hr1, hr2, hr5, q26a, q26b, q28a, q28b, q28c, q28d, q28e, q30b, q30c, q32b, q32c, q32d, q34a, q34b, q34c, q34d, q34e, q34i, q34j, q34k, q36a, q36b, q36c, q36d, hr37, hr40, t0j6, t1j6, t2j6, t3j6, t11j6, t16j6, t150j6, q43a, q43b, q43c, q43d, q43e, q43i, q43j, q45b, q45c, q47a, q47b, q47c, q47d, q48a, q48b, q48c, q48d, q48e, q48i, q48j, q48k, q50a, q50b, q50c, q50d, hr51]
                ·
                  clear hh
                  have hh := ho41
                  try simp only [x_l50_TapeFree, seval, -Int.reduceToNat, hr1, hr2, hr5, q26a, q26b, q28a, q28b, q28c, q28d, q28e, q30b, q30c, q32a, q32b, q32c, q32d, q34a, q34b, q34c, q34d, q34e, q34i, q34j, q34k, q36a, q36b, q36c, q36d, hr37, t0j5, t1j5, t2j5, t3j5, t11j5, t14j5, t16j5, t134j5, H14j5, hr40]
                  refine tstO_br' (fun hb55 => ?_) (fun hb55 => ?_)
                  · replace hh := ite_t hb55 hh
                    cases hh
                    try simp only [x_l50_TapeFree, seval, -Int.reduceToNat, hr1, hr2, hr5, q26a, q26b, q28a, q28b, q28c, q28d, q28e, q30b, q30c, q32a, q32b, q32c, q32d, q34a, q34b, q34c, q34d, q34e, q34i, q34j, q34k, q36a, q36b, q36c, q36d, hr37, t0j5, t1j5, t2j5, t3j5, t11j5, t14j5, t16j5, t134j5, H14j5, hr40]
                    rw [CK_normal]
                    refine ⟨_, rfl, ?_⟩
                    refine ⟨?_, ?_, ?_, ?_, ?_, ?_, ?_⟩
                    all_goals (first | rfl | (simp only [x_l50_TapeFree, seval, -Int.reduceToNat, hr1, hr2, hr5, q26a, q26b, q28a, q28b, q28c, q28d, q28e, q30b, q30c, q32a, q32b, q32c, q32d, q34a, q34b, q34c, q34d, q34e, q34i, q34j, q34k, q36a, q36b, q36c, q36d, hr37, t0j5, t1j5, t2j5, t3j5, t11j5, t14j5, t16j5, t134j5, H14j5, hr40] <;> rfl))
                  · replace hh := ite_f hb55 hh
                    try simp only [x_l50_TapeFree, seval, -Int.reduceToNat, hr1, hr2, hr5, q26a, q26b, q28a, q28b, q28c, q28d, q28e, q30b, q30c, q32a, q32b, q32c, q32d, q34a, q34b, q34c, q34d, q34e, q34i, q34j, q34k, q36a, q36b, q36c, q36d, hr37, t0j5, t1j5, t2j5, t3j5, t11j5, t14j5, t16j5, t134j5, H14j5, hr40]
                    refine tstO_br' (fun hb56 => ?_) (fun hb56 => ?_)
                    · replace hh := ite_t hb56 hh
                      cases hh
                      try simp only [x_l50_TapeFree, seval, -Int.reduceToNat, hr1, hr2, hr5, q26a, q26b, q28a, q28b, q28c, q28d, q28e, q30b, q30c, q32a, q32b, q32c, q32d, q34a, q34b, q34c, q34d, q34e, q34i, q34j, q34k, q36a, q36b, q36c, q36d, hr37, t0j5, t1j5, t2j5, t3j5, t11j5, t14j5, t16j5, t134j5, H14j5, hr40]
                      rw [CK_normal]
                      refine ⟨_, rfl, ?_⟩
                      refine ⟨?_, ?_, ?_, ?_, ?_, ?_, ?_⟩
                      all_goals (first | rfl | (simp only [x_l50_TapeFree, seval, -Int.reduceToNat, hr1, hr2, hr5, q26a, q26b, q28a, q28b, q28c, q28d, q28e, q30b, q30c, q32a, q32b, q32c, q32d, q34a, q34b, q34c, q34d, q34e, q34i, q34j, q34k, q36a, q36b, q36c, q36d, hr37, t0j5, t1j5, t2j5, t3j5, t11j5, t14j5, t16j5, t134j5, H14j5, hr40] <;> rfl))
                    · replace hh := ite_f hb56 hh
                      obtain ⟨r57, hr57, hh⟩ := bindS hh
                      cases hh
                      try simp only [x_l50_TapeFree, seval, -Int.reduceToNat, hr1, hr2, hr5, q26a, q26b, q28a, q28b, q28c, q28d, q28e, q30b, q30c, q32a, q32b, q32c, q32d, q34a, q34b, q34c, q34d, q34e, q34i, q34j, q34k, q36a, q36b, q36c, q36d, hr37, t0j5, t1j5, t2j5, t3j5, t11j5, t14j5, t16j5, t134j5, H14j5, hr40, hr57]
                      rw [CK_normal]
                      refine ⟨_, rfl, ?_⟩
                      refine ⟨?_, ?_, ?_, ?_, ?_, ?_, ?_⟩
                      all_goals (first | rfl | (simp only [x_l50_TapeFree, seval, -Int.reduceToNat, hr1, hr2, hr5, q26a, q26b, q28a, q28b, q28c, q28d, q28e, q30b, q30c, q32a, q32b, q32c, q32d, q34a, q34b, q34c, q34d, q34e, q34i, q34j, q34k, q36a, q36b, q36c, q36d, hr37, t0j5, t1j5, t2j5, t3j5, t11j5, t14j5, t16j5, t134j5, H14j5, hr40, hr57] <;> rfl))
            ·
              clear hh
              have hh := ho38
              try simp only [x_l50_TapeFree, seval, -Int.reduceToNat, hr1, hr2, hr5, t0dx, t1dx, t2dx, t3dx, t4dx, t11dx, t14dx, H14dx, q26a, q26b, q28a, q28b, q28c, q28d, q28e, q30b, q30c, q32a, q32b, q32c, q32d, q34a, q34b, q34c, q34d, q34e, q34i, q34j, q34k, q36a, q36b, q36c, q36d, hr37]
              refine tstO_br' (fun hb58 => ?_) (fun hb58 => ?_)
              · replace hh := ite_t hb58 hh
                cases hh
                try simp only [x_l50_TapeFree, seval, -Int.reduceToNat, hr1, hr2, hr5, t0dx, t1dx, t2dx, t3dx, t4dx, t11dx, t14dx, H14dx, q26a, q26b, q28a, q28b, q28c, q28d, q28e, q30b, q30c, q32a, q32b, q32c, q32d, q34a, q34b, q34c, q34d, q34e, q34i, q34j, q34k, q36a, q36b, q36c, q36d, hr37]
                rw [CK_normal]
                refine ⟨_, rfl, ?_⟩
                refine ⟨v14dx, ?_, ?_, ?_, ?_, ?_, ?_, ?_, ?_, ?_⟩
                all_goals (first | rfl | (simp only [x_l50_TapeFree, seval, -Int.reduceToNat, hr1, hr2, hr5, t0dx, t1dx, t2dx, t3dx, t4dx, t11dx, t14dx, H14dx, q26a, q26b, q28a, q28b, q28c, q28d, q28e, q30b, q30c, q32a, q32b, q32c, q32d, q34a, q34b, q34c, q34d, q34e, q34i, q34j, q34k, q36a, q36b, q36c, q36d, hr37] <;> rfl))
              · replace hh := ite_f hb58 hh
                obtain ⟨r59, hr59, hh⟩ := bindS hh
                try simp only [x_l50_TapeFree, seval, -Int.reduceToNat, hr1, hr2, hr5, t0dx, t1dx, t2dx, t3dx, t4dx, t11dx, t14dx, H14dx, q26a, q26b, q28a, q28b, q28c, q28d, q28e, q30b, q30c, q32a, q32b, q32c, q32d, q34a, q34b, q34c, q34d, q34e, q34i, q34j, q34k, q36a, q36b, q36c, q36d, hr37, hr59]
                refine tstO_br' (fun hb60 => ?_) (fun hb60 => ?_)
                · replace hh := ite_t hb60 hh
                  cases hh
                  try simp only [x_l50_TapeFree, seval, -Int.reduceToNat, hr1, hr2, hr5, t0dx, t1dx, t2dx, t3dx, t4dx, t11dx, t14dx, H14dx, q26a, q26b, q28a, q28b, q28c, q28d, q28e, q30b, q30c, q32a, q32b, q32c, q32d, q34a, q34b, q34c, q34d, q34e, q34i, q34j, q34k, q36a, q36b, q36c, q36d, hr37, hr59]
                  rw [CK_normal]
                  refine ⟨_, rfl, ?_⟩
                  refine ⟨v14dx, ?_, ?_, ?_, ?_, ?_, ?_, ?_, ?_, ?_⟩
                  all_goals (first | rfl | (simp only [x_l50_TapeFree, seval, -Int.reduceToNat, hr1, hr2, hr5, t0dx, t1dx, t2dx, t3dx, t4dx, t11dx, t14dx, H14dx, q26a, q26b, q28a, q28b, q28c, q28d, q28e, q30b, q30c, q32a, q32b, q32c, q32d, q34a, q34b, q34c, q34d, q34e, q34i, q34j, q34k, q36a, q36b, q36c, q36d, hr37, hr59] <;> rfl))
                · replace hh := ite_f hb60 hh
                  obtain ⟨r61, hr61, hh⟩ := bindS hh
                  cases hh
                  try simp only [x_l50_TapeFree, seval, -Int.reduceToNat, hr1, hr2, hr5, t0dx, t1dx, t2dx, t3dx, t4dx, t11dx, t14dx, H14dx, q26a, q26b, q28a, q28b, q28c, q28d, q28e, q30b, q30c, q32a, q32b, q32c, q32d, q34a, q34b, q34c, q34d, q34e, q34i, q34j, q34k, q36a, q36b, q36c, q36d, hr37, hr59, hr61]
                  rw [CK_normal]
                  refine ⟨_, rfl, ?_⟩
                  refine ⟨v14dx, ?_, ?_, ?_, ?_, ?_, ?_, ?_, ?_, ?_⟩
                  all_goals (first | rfl | (simp only [x_l50_TapeFree, seval, -Int.reduceToNat, hr1, hr2, hr5, t0dx, t1dx, t2dx, t3dx, t4dx, t11dx, t14dx, H14dx, q26a, q26b, q28a, q28b, q28c, q28d, q28e, q30b, q30c, q32a, q32b, q32c, q32d, q34a, q34b, q34c, q34d, q34e, q34i, q34j, q34k, q36a, q36b, q36c, q36d, hr37, hr59, hr61] <;> rfl))
      ·
        clear hh
        have hh := ho6
        try simp only [x_l50_TapeFree, seval, -Int.reduceToNat, hr1, hr2, t0j1, t1j1, t2j1, t3j1, t4j1, t11j1, t44j1, hr5]
        refine tstO_br' (fun hb62 => ?_) (fun hb62 => ?_)
        · replace hh := ite_t hb62 hh
          cases hh
          try simp only [x_l50_TapeFree, seval, -Int.reduceToNat, hr1, hr2, t0j1, t1j1, t2j1, t3j1, t4j1, t11j1, t44j1, hr5]
          rw [CK_normal]
          refine ⟨_, rfl, ?_⟩
          refine ⟨?_, ?_, ?_, ?_, ?_, ?_, ?_, ?_, ?_⟩
          all_goals (first | rfl | (simp only [x_l50_TapeFree, seval, -Int.reduceToNat, hr1, hr2, t0j1, t1j1, t2j1, t3j1, t4j1, t11j1, t44j1, hr5] <;> rfl))
        · replace hh := ite_f hb62 hh
          cases hh
          try simp only [x_l50_TapeFree, seval, -Int.reduceToNat, hr1, hr2, t0j1, t1j1, t2j1, t3j1, t4j1, t11j1, t44j1, hr5]
          rw [CK_normal]
          refine ⟨_, rfl, ?_⟩
          refine ⟨?_, ?_, ?_, ?_, ?_, ?_, ?_, ?_, ?_⟩
          all_goals (first | rfl | (simp only [x_l50_TapeFree, seval, -Int.reduceToNat, hr1, hr2, t0j1, t1j1, t2j1, t3j1, t4j1, t11j1, t44j1, hr5] <;> rfl))
  ·
    clear hh
    have hh := ho3
    try simp only [x_l50_TapeFree, seval, -Int.reduceToNat, hr1, hr2]
    refine tstO_br' (fun hb63 => ?_) (fun hb63 => ?_)
    · replace hh := ite_t hb63 hh
      cases hh
      try simp only [x_l50_TapeFree, seval, -Int.reduceToNat, hr1, hr2]
      rw [CK_normal]
      refine ⟨_, rfl, ?_⟩
      refine ⟨?_, ?_, ?_, ?_, ?_, ?_, ?_⟩
      all_goals (first | rfl | (simp only [x_l50_TapeFree, seval, -Int.reduceToNat, hr1, hr2] <;> rfl))
    · replace hh := ite_f hb63 hh
      obtain ⟨r64, hr64, hh⟩ := bindS hh
      try simp only [x_l50_TapeFree, seval, -Int.reduceToNat, hr1, hr2, hr64]
      refine tstO_br' (fun hb65 => ?_) (fun hb65 => ?_)
      · replace hh := ite_t hb65 hh
        cases hh
        try simp only [x_l50_TapeFree, seval, -Int.reduceToNat, hr1, hr2, hr64]
        rw [CK_normal]
        refine ⟨_, rfl, ?_⟩
        refine ⟨?_, ?_, ?_, ?_, ?_, ?_, ?_⟩
        all_goals (first | rfl | (simp only [x_l50_TapeFree, seval, -Int.reduceToNat, hr1, hr2, hr64] <;> rfl))
      · replace hh := ite_f hb65 hh
        obtain ⟨r66, hr66, hh⟩ := bindS hh
        try simp only [x_l50_TapeFree, seval, -Int.reduceToNat, hr1, hr2, hr64, hr66]
        refine tstO_br' (fun hb67 => ?_) (fun hb67 => ?_)
        · replace hh := ite_t hb67 hh
          cases hh
          try simp only [x_l50_TapeFree, seval, -Int.reduceToNat, hr1, hr2, hr64, hr66]
          rw [CK_normal]
          refine ⟨_, rfl, ?_⟩
          refine ⟨?_, ?_, ?_, ?_, ?_, ?_, ?_⟩
          all_goals (first | rfl | (simp only [x_l50_TapeFree, seval, -Int.reduceToNat, hr1, hr2, hr64, hr66] <;> rfl))
        · replace hh := ite_f hb67 hh
          try simp only [x_l50_TapeFree, seval, -Int.reduceToNat, hr1, hr2, hr64, hr66]
          refine tstO_br' (fun hb68 => ?_) (fun hb68 => ?_)
          · replace hh := ite_t hb68 hh
            cases hh
            try simp only [x_l50_TapeFree, seval, -Int.reduceToNat, hr1, hr2, hr64, hr66]
            rw [CK_normal]
            refine ⟨_, rfl, ?_⟩
            refine ⟨?_, ?_, ?_, ?_, ?_, ?_, ?_⟩
            all_goals (first | rfl | (simp only [x_l50_TapeFree, seval, -Int.reduceToNat, hr1, hr2, hr64, hr66] <;> rfl))
          · replace hh := ite_f hb68 hh
            obtain ⟨r69, hr69, hh⟩ := bindS hh
            cases hh
            try simp only [x_l50_TapeFree, seval, -Int.reduceToNat, hr1, hr2, hr64, hr66, hr69]
            rw [CK_normal]
            refine ⟨_, rfl, ?_⟩
            refine ⟨?_, ?_, ?_, ?_, ?_, ?_, ?_⟩
            all_goals (first | rfl | (simp only [x_l50_TapeFree, seval, -Int.reduceToNat, hr1, hr2, hr64, hr66, hr69] <;> rfl))

theorem ok_l50_TapeFree : COk Tryd.prog 4 G_l50_TapeFree := COk.of (mode := .clean) tok ge_l50_TapeFree mixed Tryd.func4 (by kernel_rfl) ⟨by kernel_rfl, by kernel_rfl⟩ (fun _ => Nat.le_of_ble_eq_true (by kernel_rfl)) (fun x r h => m_l50_TapeFree x.1 x.2.1 x.2.2.1 x.2.2.2.1 x.2.2.2.2 r h)
end Go.Proofs.YtdecgihkgpgejaaDoor.Am
