/- The machine computes the plain functions (written by wip/dec.py). -/
import Derived.Test.YtoclpeomlofcjaaDma
namespace Go.Proofs.Ytoclpeomlofcjaa.Am
open Go.RowKit Go.Proofs.Ytoclpeomlofcjaa.P
set_option maxRecDepth 100000
set_option maxHeartbeats 4000000
set_option linter.unusedSimpArgs false
set_option linter.unusedVariables false

noncomputable def G_big_settle_w := mkW 3 (eI .i64) (asC (aSl (eI .i64)) (as1 (aI .i64))) (fun (l : (List Int)) (x : (List Int) × Int) => big_settle_w l x.1 x.2) (fun r : Int => .clean (.int .i64 r))

theorem q_big_settle_w (pre post : List D) (p0 : (List Int)) (p1 : (List Int)) (p2 : Int) : G_big_settle_w (some (.buf 0 0 1 pre.length p0.length, ⟨0, 3, pre ++ (encL (eI .i64) p0 ++ post), false, true⟩)) [.sl false false p1.length (encL (eI .i64) p1), .int .i64 p2] = (big_settle_w p0 p1 p2).map fun r => (.clean (.int .i64 r.2), some ⟨0, 3, pre ++ (encL (eI .i64) r.1 ++ post), false, true⟩) := mkW_eq _ _ _ _ _ pre post p0 (p1, p2)

theorem m_big_settle_w (pre post : List D) (p0 : (List Int)) (p1 : (List Int)) (p2 : Int) (r : (List Int) × (Int)) (hh : big_settle_w p0 p1 p2 = some r) : vfunc .clean tab noEnv FU Try.f118 (some (.buf 0 0 1 pre.length p0.length, ⟨0, 3, pre ++ (encL (eI .i64) p0 ++ post), false, true⟩)) [.sl false false p1.length (encL (eI .i64) p1), .int .i64 p2] = some (.clean (.int .i64 r.2), some ⟨0, 3, pre ++ (encL (eI .i64) r.1 ++ post), false, true⟩) := by
  refine vfunc_lent rfl Try.ntmps118 Try.results118 ?_
  unfold big_settle_w at hh
  obtain ⟨rw, hrw, hh⟩ := bindS hh
  split at hh
  rotate_left
  · cases hh
  cases hh
  rename_i hlen
  replace hh := hrw
  unfold big_settle_w_B at hh
  try simp only [w, seval, -Int.reduceToNat]
  obtain ⟨o9, ho9, hh⟩ := bindS hh
  refine runLoop_sim (fun s t H e => match s with | (s7a, s14a, l0a) => t 0 = .buf 0 0 1 pre.length (l0a).length ∧ t 1 = .sl false false p1.length (encL (eI .i64) p1) ∧ t 2 = .int .i64 p2 ∧ t 7 = .int .i64 s7a ∧ t 13 = .int .i64 ((p0).length : Int) ∧ t 14 = .int .i64 s14a ∧ H 0 = some ⟨0, 3, pre ++ (encL (eI .i64) l0a ++ post), false, true⟩) (fun o x t H e => match o with | (s7ax, l0ax) => x = .exit 0 ∧ t 0 = .buf 0 0 1 pre.length (l0ax).length ∧ t 1 = .sl false false p1.length (encL (eI .i64) p1) ∧ t 2 = .int .i64 p2 ∧ t 7 = .int .i64 s7ax ∧ H 0 = some ⟨0, 3, pre ++ (encL (eI .i64) l0ax ++ post), false, true⟩) ho9 ?_ ?_ ?_
  ·
    refine ⟨?_, ?_, ?_, ?_, ?_, ?_, ?_⟩
    all_goals (first | rfl | (simp only [w, seval, -Int.reduceToNat] <;> rfl))
  · rintro ⟨s7a, s14a, l0a⟩ t H e ⟨t0a, t1a, t2a, t7a, t13a, t14a, H0a⟩ c hh
    simp only [big_settle_w_L1] at hh
    try simp only [w, seval, -Int.reduceToNat, t0a, t1a, t2a, t7a, t13a, t14a, H0a]
    refine tstC_br (fun hb10 => ?_) (fun hb10 => ?_)
    · replace hh := ite_t hb10 hh
      obtain ⟨x11, hx11, hh⟩ := bindS hh
      have bx11 := idx_bd hx11
      have ax11 := idxW_enc (pre := pre) (post := post) (eI .i64) hx11
      have fx11 := idxW_fit (pre := pre) (post := post) (eI .i64) hx11
      simp only [vmz] at ax11 fx11
      skip
      try simp only [w, seval, -Int.reduceToNat, t0a, t1a, t2a, t7a, t13a, t14a, H0a, bx11, ax11, fx11]
      obtain ⟨o12, ho12, hh⟩ := bindS hh
      refine tstC_cut 0 (fun s t H e => match s with | s9j3 => t 0 = .buf 0 0 1 pre.length (l0a).length ∧ t 1 = .sl false false p1.length (encL (eI .i64) p1) ∧ t 2 = .int .i64 p2 ∧ t 8 = .int .i64 s14a ∧ t 9 = .int .i64 s9j3 ∧ t 13 = .int .i64 ((p0).length : Int) ∧ t 14 = .int .i64 s14a ∧ H 0 = some ⟨0, 3, pre ++ (encL (eI .i64) l0a ++ post), false, true⟩) (fun s => s = o12) ?_ ?_
      · rintro s9j3 t H e ⟨t0j3, t1j3, t2j3, t8j3, t9j3, t13j3, t14j3, H0j3⟩ rfl
        try dsimp only at hh
        have bx11 := idx_bd hx11
        have ax11 := idxW_enc (pre := pre) (post := post) (eI .i64) hx11
        have fx11 := idxW_fit (pre := pre) (post := post) (eI .i64) hx11
        simp only [vmz] at ax11 fx11
        skip
        have p13 := putW_enc (pre := pre) (post := post) (eI .i64) (y' := bitI .and .i64 s9j3 1048575) hx11
        simp only [vmz] at p13
        have up13 := p13
        simp only [putCells, List.length_cons, List.length_nil, Nat.zero_add, Nat.reduceAdd] at up13
        obtain ⟨x14, hx14, hh⟩ := bindS hh
        obtain ⟨q15a, q15b⟩ := shrI_ok hx14
        cases hh
        try simp only [w, seval, -Int.reduceToNat, bx11, ax11, fx11, t0j3, t1j3, t2j3, t8j3, t9j3, t13j3, t14j3, H0j3, bx11, ax11, fx11, p13, up13, q15a, q15b]
        rw [LK_normal]
        refine ⟨_, rfl, ?_⟩
        refine ⟨?_, ?_, ?_, ?_, ?_, ?_, ?_⟩
        all_goals (first | rfl | (simp only [w, seval, -Int.reduceToNat, bx11, ax11, fx11, t0j3, t1j3, t2j3, t8j3, t9j3, t13j3, t14j3, H0j3, bx11, ax11, fx11, p13, up13, q15a, q15b] <;> rfl))
      ·
        clear hh
        have hh := ho12
        try simp only [w, seval, -Int.reduceToNat, t0a, t1a, t2a, t7a, t13a, t14a, H0a, bx11, ax11, fx11]
        refine tstC_br (fun hb16 => ?_) (fun hb16 => ?_)
        · replace hh := ite_t hb16 hh
          obtain ⟨x17, hx17, hh⟩ := bindS hh
          have bx17 := idx_bd hx17
          have ax17 := idx_enc (eI .i64) hx17
          have fx17 := idx_fit (eI .i64) hx17
          simp only [vmz] at ax17 fx17
          skip
          cases hh
          try simp only [w, seval, -Int.reduceToNat, t0a, t1a, t2a, t7a, t13a, t14a, H0a, bx11, ax11, fx11, bx17, ax17, fx17]
          rw [CK_normal]
          refine ⟨_, rfl, ?_⟩
          refine ⟨?_, ?_, ?_, ?_, ?_, ?_, ?_, ?_⟩
          all_goals (first | rfl | (simp only [w, seval, -Int.reduceToNat, t0a, t1a, t2a, t7a, t13a, t14a, H0a, bx11, ax11, fx11, bx17, ax17, fx17] <;> rfl))
        · replace hh := ite_f hb16 hh
          cases hh
          try simp only [w, seval, -Int.reduceToNat, t0a, t1a, t2a, t7a, t13a, t14a, H0a, bx11, ax11, fx11]
          rw [CK_normal]
          refine ⟨_, rfl, ?_⟩
          refine ⟨?_, ?_, ?_, ?_, ?_, ?_, ?_, ?_⟩
          all_goals (first | rfl | (simp only [w, seval, -Int.reduceToNat, t0a, t1a, t2a, t7a, t13a, t14a, H0a, bx11, ax11, fx11] <;> rfl))
    · replace hh := ite_f hb10 hh
      cases hh
      try simp only [w, seval, -Int.reduceToNat, t0a, t1a, t2a, t7a, t13a, t14a, H0a]
      rw [LK_exit]
      refine ⟨_, rfl, ?_⟩
      refine ⟨rfl, ⟨?_, ?_, ?_, ?_, ?_⟩⟩
      all_goals (first | rfl | (simp only [w, seval, -Int.reduceToNat, t0a, t1a, t2a, t7a, t13a, t14a, H0a] <;> rfl))
  · rintro x t H e hx
    rcases o9 with ⟨s7ax, l0ax⟩
    dsimp only at hx hh
    obtain ⟨rfl, ⟨t0ax, t1ax, t2ax, t7ax, H0ax⟩⟩ := hx
    try simp only [w, seval, -Int.reduceToNat, t0ax, t1ax, t2ax, t7ax, H0ax]
    refine tstC_br (fun hb18 => ?_) (fun hb18 => ?_)
    · replace hh := ite_t hb18 hh
      cases hh
      try simp only [w, seval, -Int.reduceToNat, t0ax, t1ax, t2ax, t7ax, H0ax]
    · replace hh := ite_f hb18 hh
      try simp only [w, seval, -Int.reduceToNat, t0ax, t1ax, t2ax, t7ax, H0ax]
      obtain ⟨o27, ho27, hh⟩ := bindS hh
      refine runLoop_sim (fun s t H e => match s with | (s10d, s49d, l0d) => t 0 = .buf 0 0 1 pre.length (l0d).length ∧ t 1 = .sl false false p1.length (encL (eI .i64) p1) ∧ t 2 = .int .i64 p2 ∧ t 10 = .int .i64 s10d ∧ t 48 = .int .i64 ((l0ax).length : Int) ∧ t 49 = .int .i64 s49d ∧ H 0 = some ⟨0, 3, pre ++ (encL (eI .i64) l0d ++ post), false, true⟩) (fun o x t H e => match o with | l0dx => x = .exit 2 ∧ t 0 = .buf 0 0 1 pre.length (l0dx).length ∧ t 2 = .int .i64 p2 ∧ H 0 = some ⟨0, 3, pre ++ (encL (eI .i64) l0dx ++ post), false, true⟩) ho27 ?_ ?_ ?_
      ·
        refine ⟨?_, ?_, ?_, ?_, ?_, ?_, ?_⟩
        all_goals (first | rfl | (simp only [w, seval, -Int.reduceToNat, t0ax, t1ax, t2ax, t7ax, H0ax] <;> rfl))
      · rintro ⟨s10d, s49d, l0d⟩ t H e ⟨t0d, t1d, t2d, t10d, t48d, t49d, H0d⟩ c hh
        simp only [big_settle_w_L4] at hh
        try simp only [w, seval, -Int.reduceToNat, t0d, t1d, t2d, t10d, t48d, t49d, H0d]
        refine tstC_br (fun hb28 => ?_) (fun hb28 => ?_)
        · replace hh := ite_t hb28 hh
          obtain ⟨x29, hx29, hh⟩ := bindS hh
          have bx29 := idx_bd hx29
          have ax29 := idxW_enc (pre := pre) (post := post) (eI .i64) hx29
          have fx29 := idxW_fit (pre := pre) (post := post) (eI .i64) hx29
          simp only [vmz] at ax29 fx29
          skip
          try simp only [w, seval, -Int.reduceToNat, t0d, t1d, t2d, t10d, t48d, t49d, H0d, bx29, ax29, fx29]
          obtain ⟨o30, ho30, hh⟩ := bindS hh
          refine tstC_cut 0 (fun s t H e => match s with | s10j6 => t 0 = .buf 0 0 1 pre.length (l0d).length ∧ t 1 = .sl false false p1.length (encL (eI .i64) p1) ∧ t 2 = .int .i64 p2 ∧ t 10 = .int .i64 s10j6 ∧ t 11 = .int .i64 s49d ∧ t 48 = .int .i64 ((l0ax).length : Int) ∧ t 49 = .int .i64 s49d ∧ H 0 = some ⟨0, 3, pre ++ (encL (eI .i64) l0d ++ post), false, true⟩) (fun s => s = o30) ?_ ?_
          · rintro s10j6 t H e ⟨t0j6, t1j6, t2j6, t10j6, t11j6, t48j6, t49j6, H0j6⟩ rfl
            try dsimp only at hh
            have bx29 := idx_bd hx29
            have ax29 := idxW_enc (pre := pre) (post := post) (eI .i64) hx29
            have fx29 := idxW_fit (pre := pre) (post := post) (eI .i64) hx29
            simp only [vmz] at ax29 fx29
            skip
            have p31 := putW_enc (pre := pre) (post := post) (eI .i64) (y' := bitI .and .i64 s10j6 1048575) hx29
            simp only [vmz] at p31
            have up31 := p31
            simp only [putCells, List.length_cons, List.length_nil, Nat.zero_add, Nat.reduceAdd] at up31
            obtain ⟨x32, hx32, hh⟩ := bindS hh
            obtain ⟨q33a, q33b⟩ := shrI_ok hx32
            cases hh
            try simp only [w, seval, -Int.reduceToNat, bx29, ax29, fx29, t0j6, t1j6, t2j6, t10j6, t11j6, t48j6, t49j6, H0j6, bx29, ax29, fx29, p31, up31, q33a, q33b]
            rw [LK_normal]
            refine ⟨_, rfl, ?_⟩
            refine ⟨?_, ?_, ?_, ?_, ?_, ?_, ?_⟩
            all_goals (first | rfl | (simp only [w, seval, -Int.reduceToNat, bx29, ax29, fx29, t0j6, t1j6, t2j6, t10j6, t11j6, t48j6, t49j6, H0j6, bx29, ax29, fx29, p31, up31, q33a, q33b] <;> rfl))
          ·
            clear hh
            have hh := ho30
            try simp only [w, seval, -Int.reduceToNat, t0d, t1d, t2d, t10d, t48d, t49d, H0d, bx29, ax29, fx29]
            refine tstC_br (fun hb34 => ?_) (fun hb34 => ?_)
            · replace hh := ite_t hb34 hh
              obtain ⟨x35, hx35, hh⟩ := bindS hh
              have bx35 := idx_bd hx35
              have ax35 := idx_enc (eI .i64) hx35
              have fx35 := idx_fit (eI .i64) hx35
              simp only [vmz] at ax35 fx35
              skip
              cases hh
              try simp only [w, seval, -Int.reduceToNat, t0d, t1d, t2d, t10d, t48d, t49d, H0d, bx29, ax29, fx29, bx35, ax35, fx35]
              rw [CK_normal]
              refine ⟨_, rfl, ?_⟩
              refine ⟨?_, ?_, ?_, ?_, ?_, ?_, ?_, ?_⟩
              all_goals (first | rfl | (simp only [w, seval, -Int.reduceToNat, t0d, t1d, t2d, t10d, t48d, t49d, H0d, bx29, ax29, fx29, bx35, ax35, fx35] <;> rfl))
            · replace hh := ite_f hb34 hh
              cases hh
              try simp only [w, seval, -Int.reduceToNat, t0d, t1d, t2d, t10d, t48d, t49d, H0d, bx29, ax29, fx29]
              rw [CK_normal]
              refine ⟨_, rfl, ?_⟩
              refine ⟨?_, ?_, ?_, ?_, ?_, ?_, ?_, ?_⟩
              all_goals (first | rfl | (simp only [w, seval, -Int.reduceToNat, t0d, t1d, t2d, t10d, t48d, t49d, H0d, bx29, ax29, fx29] <;> rfl))
        · replace hh := ite_f hb28 hh
          cases hh
          try simp only [w, seval, -Int.reduceToNat, t0d, t1d, t2d, t10d, t48d, t49d, H0d]
          rw [LK_exit]
          refine ⟨_, rfl, ?_⟩
          refine ⟨rfl, ⟨?_, ?_, ?_⟩⟩
          all_goals (first | rfl | (simp only [w, seval, -Int.reduceToNat, t0d, t1d, t2d, t10d, t48d, t49d, H0d] <;> rfl))
      · rintro x t H e hx
        obtain ⟨l0dx, rfl⟩ : ∃ z, z = o27 := ⟨_, rfl⟩
        dsimp only at hx hh
        obtain ⟨rfl, ⟨t0dx, t2dx, H0dx⟩⟩ := hx
        cases hh
        try simp only [w, seval, -Int.reduceToNat, t0dx, t2dx, H0dx]

theorem ok_big_settle_w : COk Try.prog 118 G_big_settle_w := COk.lentW (mode := .clean) tok GOk.none mixed Try.func118 (by kernel_rfl) ⟨by kernel_rfl, by kernel_rfl⟩ (fun _ => Nat.le_of_ble_eq_true (by kernel_rfl)) (fun pre post l x l' r h => m_big_settle_w pre post l x.1 x.2 (l', r) h)

noncomputable def G_big_div := mkG (asC (aSl (eI .i64)) (as1 (aSl (eI .i64)))) (fun x : (List Int) × (List Int) => big_div x.1 x.2) (fun r : (List Int) × (List Int) => .clean (.tup [.sl false false r.1.length (encL (eI .i64) r.1), .sl false false r.2.length (encL (eI .i64) r.2)]))

theorem q_big_div (p0 : (List Int)) (p1 : (List Int)) : G_big_div none [.sl false false p0.length (encL (eI .i64) p0), .sl false false p1.length (encL (eI .i64) p1)] = (big_div p0 p1).map fun r : (List Int) × (List Int) => (.clean (.tup [.sl false false r.1.length (encL (eI .i64) r.1), .sl false false r.2.length (encL (eI .i64) r.2)]), none) := mkG_eq _ _ _ (p0, p1)

noncomputable def g_big_div : Env := (Am.ext (Am.ext (Am.ext (Am.ext (Am.ext (Am.ext noEnv 91 false G_slices_Clone) 97 false G_big_compare) 115 false G_big_trim) 116 false G_big_short) 117 false G_big_mul) 118 true G_big_settle_w)

theorem ge_big_div : GOk Try.prog g_big_div := ((((((GOk.none.add ok_slices_Clone false).add ok_big_compare false).add ok_big_trim false).add ok_big_short false).add ok_big_mul false).add ok_big_settle_w true)

theorem gg_big_div : g_big_div = (Am.ext (Am.ext (Am.ext (Am.ext (Am.ext (Am.ext noEnv 91 false G_slices_Clone) 97 false G_big_compare) 115 false G_big_trim) 116 false G_big_short) 117 false G_big_mul) 118 true G_big_settle_w) := Eq.trans rfl rfl

theorem x_big_div : type_of% (And.intro @w <| And.intro @q_slices_Clone <| And.intro @q_big_compare <| And.intro @q_big_trim <| And.intro @q_big_short <| And.intro @q_big_mul <| @gg_big_div) := And.intro @w <| And.intro @q_slices_Clone <| And.intro @q_big_compare <| And.intro @q_big_trim <| And.intro @q_big_short <| And.intro @q_big_mul <| @gg_big_div

theorem m_big_div (p0 : (List Int)) (p1 : (List Int)) (r : (List Int) × (List Int)) (hh : big_div p0 p1 = some r) : vfunc .clean tab g_big_div FU Try.f93 none [.sl false false p0.length (encL (eI .i64) p0), .sl false false p1.length (encL (eI .i64) p1)] = some (.clean (.tup [.sl false false r.1.length (encL (eI .i64) r.1), .sl false false r.2.length (encL (eI .i64) r.2)]), none) := by
  refine vfunc_of rfl Try.ntmps93 Try.results93 ?_
  unfold big_div at hh
  obtain ⟨r1, hr1, hh⟩ := bindS hh
  try simp only [x_big_div, seval, -Int.reduceToNat, hr1]
  refine tstC_br (fun hb2 => ?_) (fun hb2 => ?_)
  · replace hh := ite_t hb2 hh
    obtain ⟨r3, hr3, hh⟩ := bindS hh
    cases hh
    try simp only [x_big_div, seval, -Int.reduceToNat, hr1, hr3]
  · replace hh := ite_f hb2 hh
    try simp only [x_big_div, seval, -Int.reduceToNat, hr1]
    refine tstC_br (fun hb4 => ?_) (fun hb4 => ?_)
    · replace hh := ite_t hb4 hh
      obtain ⟨x5, hx5, hh⟩ := bindS hh
      have bx5 := idx_bd hx5
      have ax5 := idx_enc (eI .i64) hx5
      have fx5 := idx_fit (eI .i64) hx5
      simp only [vmz] at ax5 fx5
      skip
      obtain ⟨r6, hr6, hh⟩ := bindS hh
      have i7 := q_big_trim ([r6.2])
      simp only [encL_cons, vmz, List.length_cons, List.length_nil, Nat.zero_add, Nat.reduceAdd, List.length_set] at i7
      obtain ⟨r8, hr8, hh⟩ := bindS hh
      cases hh
      try simp only [x_big_div, seval, -Int.reduceToNat, hr1, bx5, ax5, fx5, hr6, i7, hr8]
    · replace hh := ite_f hb4 hh
      try simp only [x_big_div, seval, -Int.reduceToNat, hr1]
      obtain ⟨o11, ho11, hh⟩ := bindS hh
      refine runLoop_sim (fun s t H e => match s with | s8a => t 0 = .sl false false p0.length (encL (eI .i64) p0) ∧ t 1 = .sl false false p1.length (encL (eI .i64) p1) ∧ t 8 = .int .i64 s8a) (fun o x t H e => match o with | s8ax => x = .exit 0 ∧ t 0 = .sl false false p0.length (encL (eI .i64) p0) ∧ t 1 = .sl false false p1.length (encL (eI .i64) p1) ∧ t 8 = .int .i64 s8ax) ho11 ?_ ?_ ?_
      ·
        refine ⟨?_, ?_, ?_⟩
        all_goals (first | rfl | (simp only [x_big_div, seval, -Int.reduceToNat, hr1] <;> rfl))
      · rintro s8a t H e ⟨t0a, t1a, t8a⟩ c hh
        simp only [big_div_L1] at hh
        obtain ⟨x12, hx12, hh⟩ := bindS hh
        have bx12 := idx_bd hx12
        have ax12 := idx_enc (eI .i64) hx12
        have fx12 := idx_fit (eI .i64) hx12
        simp only [vmz] at ax12 fx12
        skip
        try simp only [x_big_div, seval, -Int.reduceToNat, hr1, t0a, t1a, t8a, bx12, ax12, fx12]
        refine tstC_br (fun hb13 => ?_) (fun hb13 => ?_)
        · replace hh := ite_t hb13 hh
          cases hh
          try simp only [x_big_div, seval, -Int.reduceToNat, hr1, t0a, t1a, t8a, bx12, ax12, fx12]
          rw [LK_normal]
          refine ⟨_, rfl, ?_⟩
          refine ⟨?_, ?_, ?_⟩
          all_goals (first | rfl | (simp only [x_big_div, seval, -Int.reduceToNat, hr1, t0a, t1a, t8a, bx12, ax12, fx12] <;> rfl))
        · replace hh := ite_f hb13 hh
          cases hh
          try simp only [x_big_div, seval, -Int.reduceToNat, hr1, t0a, t1a, t8a, bx12, ax12, fx12]
          rw [LK_exit]
          refine ⟨_, rfl, ?_⟩
          refine ⟨rfl, ⟨?_, ?_, ?_⟩⟩
          all_goals (first | rfl | (simp only [x_big_div, seval, -Int.reduceToNat, hr1, t0a, t1a, t8a, bx12, ax12, fx12] <;> rfl))
      · rintro x t H e hx
        obtain ⟨s8ax, rfl⟩ : ∃ z, z = o11 := ⟨_, rfl⟩
        dsimp only at hx hh
        obtain ⟨rfl, ⟨t0ax, t1ax, t8ax⟩⟩ := hx
        have i14 := q_big_mul p0 ([s8ax])
        simp only [encL_cons, vmz, List.length_cons, List.length_nil, Nat.zero_add, Nat.reduceAdd, List.length_set] at i14
        obtain ⟨r15, hr15, hh⟩ := bindS hh
        obtain ⟨x16, hx16, hh⟩ := bindS hh
        obtain ⟨q17a, q17b, q17c, q17d⟩ := app_one (eI .i64) hx16
        simp only [vmz] at q17b
        have i18 := q_big_mul p1 ([s8ax])
        simp only [encL_cons, vmz, List.length_cons, List.length_nil, Nat.zero_add, Nat.reduceAdd, List.length_set] at i18
        obtain ⟨r19, hr19, hh⟩ := bindS hh
        try simp only [x_big_div, seval, -Int.reduceToNat, hr1, t0ax, t1ax, t8ax, i14, hr15, q17a, q17b, q17c, q17d, i18, hr19]
        obtain ⟨o20, ho20, hh⟩ := bindS hh
        refine tstC_cut 0 (fun s t H e => match s with | l9j2 => ∃ v9j2 : Nat, ∃ v10j2 : Nat, t 8 = .int .i64 s8ax ∧ t 9 = .buf 9 v9j2 1 0 (l9j2).length ∧ t 10 = .buf 10 v10j2 1 0 (r19).length ∧ H 9 = some ⟨v9j2, 3, encL (eI .i64) l9j2, false, true⟩ ∧ H 10 = some ⟨v10j2, 3, encL (eI .i64) r19, false, true⟩) (fun s => s = o20) ?_ ?_
        · rintro l9j2 t H e ⟨v9j2, v10j2, t8j2, t9j2, t10j2, H9j2, H10j2⟩ rfl
          try dsimp only at hh
          obtain ⟨x21, hx21, hh⟩ := bindS hh
          obtain ⟨q22a, q22b, q22c, q22d, q22e⟩ := mk_one (eI .i64) hx21
          simp only [vmz] at q22d
          try simp only [x_big_div, seval, -Int.reduceToNat, hr1, i14, hr15, q17a, q17b, q17c, q17d, i18, hr19, t8j2, t9j2, t10j2, H9j2, H10j2, q22a, q22b, q22c, q22d, q22e]
          obtain ⟨o58, ho58, hh⟩ := bindS hh
          refine runLoop_sim (fun s t H e => match s with | (s13c, l9c, l12c) => ∃ v9c : Nat, ∃ v10c : Nat, ∃ v12c : Nat, ∃ z10c : Bool, t 8 = .int .i64 s8ax ∧ t 9 = .buf 9 v9c 1 0 (l9c).length ∧ t 10 = .buf 10 v10c 1 0 (r19).length ∧ t 11 = .int .i64 ((r19).length : Int) ∧ t 12 = .buf 12 v12c 1 0 (l12c).length ∧ t 13 = .int .i64 s13c ∧ H 9 = some ⟨v9c, 3, encL (eI .i64) l9c, false, true⟩ ∧ H 10 = some ⟨v10c, 3, encL (eI .i64) r19, z10c, true⟩ ∧ H 12 = some ⟨v12c, 3, encL (eI .i64) l12c, false, true⟩) (fun o x t H e => match o with | (l9cx, l12cx) => x = .exit 2 ∧ ∃ v9cx : Nat, ∃ v12cx : Nat, t 8 = .int .i64 s8ax ∧ t 9 = .buf 9 v9cx 1 0 (l9cx).length ∧ t 12 = .buf 12 v12cx 1 0 (l12cx).length ∧ H 9 = some ⟨v9cx, 3, encL (eI .i64) l9cx, false, true⟩ ∧ H 12 = some ⟨v12cx, 3, encL (eI .i64) l12cx, false, true⟩) ho58 ?_ ?_ ?_
          ·
            refine ⟨v9j2, v10j2, e + 1, false, ?_, ?_, ?_, ?_, ?_, ?_, ?_, ?_, ?_⟩
            all_goals (first | rfl | (simp only [x_big_div, seval, -Int.reduceToNat, hr1, i14, hr15, q17a, q17b, q17c, q17d, i18, hr19, t8j2, t9j2, t10j2, H9j2, H10j2, q22a, q22b, q22c, q22d, q22e] <;> rfl))
          · rintro ⟨s13c, l9c, l12c⟩ t H e ⟨v9c, v10c, v12c, z10c, t8c, t9c, t10c, t11c, t12c, t13c, H9c, H10c, H12c⟩ c hh
            simp only [big_div_L3] at hh
            try simp only [x_big_div, seval, -Int.reduceToNat, hr1, i14, hr15, q17a, q17b, q17c, q17d, i18, hr19, q22a, q22b, q22c, q22d, q22e, t8c, t9c, t10c, t11c, t12c, t13c, H9c, H10c, H12c]
            refine tstC_br (fun hb59 => ?_) (fun hb59 => ?_)
            · replace hh := ite_t hb59 hh
              obtain ⟨x60, hx60, hh⟩ := bindS hh
              have bx60 := idx_bd hx60
              have ax60 := idx_enc (eI .i64) hx60
              have fx60 := idx_fit (eI .i64) hx60
              simp only [vmz] at ax60 fx60
              skip
              obtain ⟨x61, hx61, hh⟩ := bindS hh
              obtain ⟨q62a, q62b⟩ := shlI_ok hx61
              obtain ⟨x63, hx63, hh⟩ := bindS hh
              have bx63 := idx_bd hx63
              have ax63 := idx_enc (eI .i64) hx63
              have fx63 := idx_fit (eI .i64) hx63
              simp only [vmz] at ax63 fx63
              skip
              try simp only [x_big_div, seval, -Int.reduceToNat, hr1, i14, hr15, q17a, q17b, q17c, q17d, i18, hr19, q22a, q22b, q22c, q22d, q22e, t8c, t9c, t10c, t11c, t12c, t13c, H9c, H10c, H12c, bx60, ax60, fx60, q62a, q62b, bx63, ax63, fx63]
              refine dyn_ok (by kernel_rfl) ?_
              obtain ⟨x64, hx64, hh⟩ := bindS hh
              have bx64 := idx_bd hx64
              have ax64 := idx_enc (eI .i64) hx64
              have fx64 := idx_fit (eI .i64) hx64
              simp only [vmz] at ax64 fx64
              skip
              obtain ⟨x65, hx65, hh⟩ := bindS hh
              obtain ⟨q66a, q66b⟩ := divI_ok hx65
              have bx64 := idx_bd hx64
              have ax64 := idx_enc (eI .i64) hx64
              have fx64 := idx_fit (eI .i64) hx64
              simp only [vmz] at ax64 fx64
              skip
              obtain ⟨x67, hx67, hh⟩ := bindS hh
              obtain ⟨q68a, q68b⟩ := modI_ok hx67
              try simp only [x_big_div, seval, -Int.reduceToNat, hr1, i14, hr15, q17a, q17b, q17c, q17d, i18, hr19, q22a, q22b, q22c, q22d, q22e, t8c, t9c, t10c, t11c, t12c, t13c, H9c, H10c, H12c, bx60, ax60, fx60, q62a, q62b, bx63, ax63, fx63, bx64, ax64, fx64, q66a, q66b, bx64, ax64, fx64, q68a, q68b]
              refine dyn_ok (by kernel_rfl) ?_
              try simp only [x_big_div, seval, -Int.reduceToNat, hr1, i14, hr15, q17a, q17b, q17c, q17d, i18, hr19, q22a, q22b, q22c, q22d, q22e, t8c, t9c, t10c, t11c, t12c, t13c, H9c, H10c, H12c, bx60, ax60, fx60, q62a, q62b, bx63, ax63, fx63, bx64, ax64, fx64, q66a, q66b, bx64, ax64, fx64, q68a, q68b]
              obtain ⟨o78, ho78, hh⟩ := bindS hh
              refine runLoop_sim (fun s t H e => match s with | (s15g, s16g) => ∃ v9g : Nat, ∃ v10g : Nat, ∃ v12g : Nat, ∃ z10g : Bool, t 8 = .int .i64 s8ax ∧ t 9 = .buf 9 v9g 1 0 (l9c).length ∧ t 10 = .buf 10 v10g 1 0 (r19).length ∧ t 11 = .int .i64 ((r19).length : Int) ∧ t 12 = .buf 12 v12g 1 0 (l12c).length ∧ t 13 = .int .i64 s13c ∧ t 15 = .int .i64 s15g ∧ t 16 = .int .i64 s16g ∧ H 9 = some ⟨v9g, 3, encL (eI .i64) l9c, false, true⟩ ∧ H 10 = some ⟨v10g, 3, encL (eI .i64) r19, z10g, true⟩ ∧ H 12 = some ⟨v12g, 3, encL (eI .i64) l12c, false, true⟩) (fun o x t H e => match o with | s15gx => x = .exit 4 ∧ ∃ v9gx : Nat, ∃ v10gx : Nat, ∃ v12gx : Nat, ∃ z10gx : Bool, t 8 = .int .i64 s8ax ∧ t 9 = .buf 9 v9gx 1 0 (l9c).length ∧ t 10 = .buf 10 v10gx 1 0 (r19).length ∧ t 11 = .int .i64 ((r19).length : Int) ∧ t 12 = .buf 12 v12gx 1 0 (l12c).length ∧ t 13 = .int .i64 s13c ∧ t 15 = .int .i64 s15gx ∧ H 9 = some ⟨v9gx, 3, encL (eI .i64) l9c, false, true⟩ ∧ H 10 = some ⟨v10gx, 3, encL (eI .i64) r19, z10gx, true⟩ ∧ H 12 = some ⟨v12gx, 3, encL (eI .i64) l12c, false, true⟩) ho78 ?_ ?_ ?_
              ·
                refine ⟨v9c, v10c, v12c, z10c, ?_, ?_, ?_, ?_, ?_, ?_, ?_, ?_, ?_, ?_, ?_⟩
                all_goals (first | rfl | (simp only [x_big_div, seval, -Int.reduceToNat, hr1, i14, hr15, q17a, q17b, q17c, q17d, i18, hr19, q22a, q22b, q22c, q22d, q22e, t8c, t9c, t10c, t11c, t12c, t13c, H9c, H10c, H12c, bx60, ax60, fx60, q62a, q62b, bx63, ax63, fx63, bx64, ax64, fx64, q66a, q66b, bx64, ax64, fx64, q68a, q68b] <;> rfl))
              · rintro ⟨s15g, s16g⟩ t H e ⟨v9g, v10g, v12g, z10g, t8g, t9g, t10g, t11g, t12g, t13g, t15g, t16g, H9g, H10g, H12g⟩ c hh
                simp only [big_div_L7] at hh
                try simp only [x_big_div, seval, -Int.reduceToNat, hr1, i14, hr15, q17a, q17b, q17c, q17d, i18, hr19, q22a, q22b, q22c, q22d, q22e, bx60, ax60, fx60, q62a, q62b, bx63, ax63, fx63, bx64, ax64, fx64, q66a, q66b, bx64, ax64, fx64, q68a, q68b, t8g, t9g, t10g, t11g, t12g, t13g, t15g, t16g, H9g, H10g, H12g]
                obtain ⟨o79, ho79, hh⟩ := bindS hh
                refine tstP_cut 0 (fun s t H e => match s with | s137j9 => ∃ v9j9 : Nat, ∃ v10j9 : Nat, ∃ v12j9 : Nat, ∃ z10j9 : Bool, t 8 = .int .i64 s8ax ∧ t 9 = .buf 9 v9j9 1 0 (l9c).length ∧ t 10 = .buf 10 v10j9 1 0 (r19).length ∧ t 11 = .int .i64 ((r19).length : Int) ∧ t 12 = .buf 12 v12j9 1 0 (l12c).length ∧ t 13 = .int .i64 s13c ∧ t 15 = .int .i64 s15g ∧ t 16 = .int .i64 s16g ∧ t 137 = .bool s137j9 ∧ H 9 = some ⟨v9j9, 3, encL (eI .i64) l9c, false, true⟩ ∧ H 10 = some ⟨v10j9, 3, encL (eI .i64) r19, z10j9, true⟩ ∧ H 12 = some ⟨v12j9, 3, encL (eI .i64) l12c, false, true⟩) (fun s => s = o79) ?_ ?_
                · rintro s137j9 t H e ⟨v9j9, v10j9, v12j9, z10j9, t8j9, t9j9, t10j9, t11j9, t12j9, t13j9, t15j9, t16j9, t137j9, H9j9, H10j9, H12j9⟩ rfl
                  try dsimp only at hh
                  try simp only [x_big_div, seval, -Int.reduceToNat, hr1, i14, hr15, q17a, q17b, q17c, q17d, i18, hr19, q22a, q22b, q22c, q22d, q22e, bx60, ax60, fx60, q62a, q62b, bx63, ax63, fx63, bx64, ax64, fx64, q66a, q66b, bx64, ax64, fx64, q68a, q68b, t8j9, t9j9, t10j9, t11j9, t12j9, t13j9, t15j9, t16j9, t137j9, H9j9, H10j9, H12j9]
                  refine tstC_br (fun hb80 => ?_) (fun hb80 => ?_)
                  · replace hh := ite_t hb80 hh
                    have bx64 := idx_bd hx64
                    have ax64 := idx_enc (eI .i64) hx64
                    have fx64 := idx_fit (eI .i64) hx64
                    simp only [vmz] at ax64 fx64
                    skip
                    cases hh
                    try simp only [x_big_div, seval, -Int.reduceToNat, hr1, i14, hr15, q17a, q17b, q17c, q17d, i18, hr19, q22a, q22b, q22c, q22d, q22e, bx60, ax60, fx60, q62a, q62b, bx63, ax63, fx63, bx64, ax64, fx64, q66a, q66b, bx64, ax64, fx64, q68a, q68b, t8j9, t9j9, t10j9, t11j9, t12j9, t13j9, t15j9, t16j9, t137j9, H9j9, H10j9, H12j9, bx64, ax64, fx64]
                    rw [LK_normal]
                    refine ⟨_, rfl, ?_⟩
                    refine ⟨v9j9, v10j9, v12j9, z10j9, ?_, ?_, ?_, ?_, ?_, ?_, ?_, ?_, ?_, ?_, ?_⟩
                    all_goals (first | rfl | (simp only [x_big_div, seval, -Int.reduceToNat, hr1, i14, hr15, q17a, q17b, q17c, q17d, i18, hr19, q22a, q22b, q22c, q22d, q22e, bx60, ax60, fx60, q62a, q62b, bx63, ax63, fx63, bx64, ax64, fx64, q66a, q66b, bx64, ax64, fx64, q68a, q68b, t8j9, t9j9, t10j9, t11j9, t12j9, t13j9, t15j9, t16j9, t137j9, H9j9, H10j9, H12j9, bx64, ax64, fx64] <;> rfl))
                  · replace hh := ite_f hb80 hh
                    cases hh
                    try simp only [x_big_div, seval, -Int.reduceToNat, hr1, i14, hr15, q17a, q17b, q17c, q17d, i18, hr19, q22a, q22b, q22c, q22d, q22e, bx60, ax60, fx60, q62a, q62b, bx63, ax63, fx63, bx64, ax64, fx64, q66a, q66b, bx64, ax64, fx64, q68a, q68b, t8j9, t9j9, t10j9, t11j9, t12j9, t13j9, t15j9, t16j9, t137j9, H9j9, H10j9, H12j9]
                    rw [LK_exit]
                    refine ⟨_, rfl, ?_⟩
                    refine ⟨rfl, ⟨v9j9, v10j9, v12j9, z10j9, ?_, ?_, ?_, ?_, ?_, ?_, ?_, ?_, ?_, ?_⟩⟩
                    all_goals (first | rfl | (simp only [x_big_div, seval, -Int.reduceToNat, hr1, i14, hr15, q17a, q17b, q17c, q17d, i18, hr19, q22a, q22b, q22c, q22d, q22e, bx60, ax60, fx60, q62a, q62b, bx63, ax63, fx63, bx64, ax64, fx64, q66a, q66b, bx64, ax64, fx64, q68a, q68b, t8j9, t9j9, t10j9, t11j9, t12j9, t13j9, t15j9, t16j9, t137j9, H9j9, H10j9, H12j9] <;> rfl))
                ·
                  clear hh
                  have hh := ho79
                  try simp only [x_big_div, seval, -Int.reduceToNat, hr1, i14, hr15, q17a, q17b, q17c, q17d, i18, hr19, q22a, q22b, q22c, q22d, q22e, bx60, ax60, fx60, q62a, q62b, bx63, ax63, fx63, bx64, ax64, fx64, q66a, q66b, bx64, ax64, fx64, q68a, q68b, t8g, t9g, t10g, t11g, t12g, t13g, t15g, t16g, H9g, H10g, H12g]
                  refine tstP_br' (fun hb81 => ?_) (fun hb81 => ?_)
                  · replace hh := ite_t hb81 hh
                    try simp only [x_big_div, seval, -Int.reduceToNat, hr1, i14, hr15, q17a, q17b, q17c, q17d, i18, hr19, q22a, q22b, q22c, q22d, q22e, bx60, ax60, fx60, q62a, q62b, bx63, ax63, fx63, bx64, ax64, fx64, q66a, q66b, bx64, ax64, fx64, q68a, q68b, t8g, t9g, t10g, t11g, t12g, t13g, t15g, t16g, H9g, H10g, H12g]
                    refine dyn_ok (by kernel_rfl) ?_
                    cases hh
                    try simp only [x_big_div, seval, -Int.reduceToNat, hr1, i14, hr15, q17a, q17b, q17c, q17d, i18, hr19, q22a, q22b, q22c, q22d, q22e, bx60, ax60, fx60, q62a, q62b, bx63, ax63, fx63, bx64, ax64, fx64, q66a, q66b, bx64, ax64, fx64, q68a, q68b, t8g, t9g, t10g, t11g, t12g, t13g, t15g, t16g, H9g, H10g, H12g]
                    rw [CK_normal]
                    refine ⟨_, rfl, ?_⟩
                    refine ⟨v9g, v10g, v12g, z10g, ?_, ?_, ?_, ?_, ?_, ?_, ?_, ?_, ?_, ?_, ?_, ?_⟩
                    all_goals (first | rfl | (simp only [x_big_div, seval, -Int.reduceToNat, hr1, i14, hr15, q17a, q17b, q17c, q17d, i18, hr19, q22a, q22b, q22c, q22d, q22e, bx60, ax60, fx60, q62a, q62b, bx63, ax63, fx63, bx64, ax64, fx64, q66a, q66b, bx64, ax64, fx64, q68a, q68b, t8g, t9g, t10g, t11g, t12g, t13g, t15g, t16g, H9g, H10g, H12g] <;> rfl))
                  · replace hh := ite_f hb81 hh
                    try simp only [x_big_div, seval, -Int.reduceToNat, hr1, i14, hr15, q17a, q17b, q17c, q17d, i18, hr19, q22a, q22b, q22c, q22d, q22e, bx60, ax60, fx60, q62a, q62b, bx63, ax63, fx63, bx64, ax64, fx64, q66a, q66b, bx64, ax64, fx64, q68a, q68b, t8g, t9g, t10g, t11g, t12g, t13g, t15g, t16g, H9g, H10g, H12g]
                    refine tstP_br (fun hb82 => ?_) (fun hb82 => ?_)
                    · replace hh := ite_t hb82 hh
                      obtain ⟨x83, hx83, hh⟩ := bindS hh
                      have bx83 := idx_bd hx83
                      have ax83 := idx_enc (eI .i64) hx83
                      have fx83 := idx_fit (eI .i64) hx83
                      simp only [vmz] at ax83 fx83
                      skip
                      obtain ⟨x84, hx84, hh⟩ := bindS hh
                      obtain ⟨q85a, q85b⟩ := shlI_ok hx84
                      obtain ⟨x86, hx86, hh⟩ := bindS hh
                      have bx86 := idx_bd hx86
                      have ax86 := idx_enc (eI .i64) hx86
                      have fx86 := idx_fit (eI .i64) hx86
                      simp only [vmz] at ax86 fx86
                      skip
                      try simp only [x_big_div, seval, -Int.reduceToNat, hr1, i14, hr15, q17a, q17b, q17c, q17d, i18, hr19, q22a, q22b, q22c, q22d, q22e, bx60, ax60, fx60, q62a, q62b, bx63, ax63, fx63, bx64, ax64, fx64, q66a, q66b, bx64, ax64, fx64, q68a, q68b, t8g, t9g, t10g, t11g, t12g, t13g, t15g, t16g, H9g, H10g, H12g, bx83, ax83, fx83, q85a, q85b, bx86, ax86, fx86]
                      refine dyn_ok (by kernel_rfl) ?_
                      cases hh
                      try simp only [x_big_div, seval, -Int.reduceToNat, hr1, i14, hr15, q17a, q17b, q17c, q17d, i18, hr19, q22a, q22b, q22c, q22d, q22e, bx60, ax60, fx60, q62a, q62b, bx63, ax63, fx63, bx64, ax64, fx64, q66a, q66b, bx64, ax64, fx64, q68a, q68b, t8g, t9g, t10g, t11g, t12g, t13g, t15g, t16g, H9g, H10g, H12g, bx83, ax83, fx83, q85a, q85b, bx86, ax86, fx86]
                      rw [CK_normal]
                      refine ⟨_, rfl, ?_⟩
                      refine ⟨v9g, v10g, v12g, z10g, ?_, ?_, ?_, ?_, ?_, ?_, ?_, ?_, ?_, ?_, ?_, ?_⟩
                      all_goals (first | rfl | (simp only [x_big_div, seval, -Int.reduceToNat, hr1, i14, hr15, q17a, q17b, q17c, q17d, i18, hr19, q22a, q22b, q22c, q22d, q22e, bx60, ax60, fx60, q62a, q62b, bx63, ax63, fx63, bx64, ax64, fx64, q66a, q66b, bx64, ax64, fx64, q68a, q68b, t8g, t9g, t10g, t11g, t12g, t13g, t15g, t16g, H9g, H10g, H12g, bx83, ax83, fx83, q85a, q85b, bx86, ax86, fx86] <;> rfl))
                    · replace hh := ite_f hb82 hh
                      try simp only [x_big_div, seval, -Int.reduceToNat, hr1, i14, hr15, q17a, q17b, q17c, q17d, i18, hr19, q22a, q22b, q22c, q22d, q22e, bx60, ax60, fx60, q62a, q62b, bx63, ax63, fx63, bx64, ax64, fx64, q66a, q66b, bx64, ax64, fx64, q68a, q68b, t8g, t9g, t10g, t11g, t12g, t13g, t15g, t16g, H9g, H10g, H12g]
                      refine dyn_ok (by kernel_rfl) ?_
                      cases hh
                      try simp only [x_big_div, seval, -Int.reduceToNat, hr1, i14, hr15, q17a, q17b, q17c, q17d, i18, hr19, q22a, q22b, q22c, q22d, q22e, bx60, ax60, fx60, q62a, q62b, bx63, ax63, fx63, bx64, ax64, fx64, q66a, q66b, bx64, ax64, fx64, q68a, q68b, t8g, t9g, t10g, t11g, t12g, t13g, t15g, t16g, H9g, H10g, H12g]
                      rw [CK_normal]
                      refine ⟨_, rfl, ?_⟩
                      refine ⟨v9g, v10g, v12g, z10g, ?_, ?_, ?_, ?_, ?_, ?_, ?_, ?_, ?_, ?_, ?_, ?_⟩
                      all_goals (first | rfl | (simp only [x_big_div, seval, -Int.reduceToNat, hr1, i14, hr15, q17a, q17b, q17c, q17d, i18, hr19, q22a, q22b, q22c, q22d, q22e, bx60, ax60, fx60, q62a, q62b, bx63, ax63, fx63, bx64, ax64, fx64, q66a, q66b, bx64, ax64, fx64, q68a, q68b, t8g, t9g, t10g, t11g, t12g, t13g, t15g, t16g, H9g, H10g, H12g] <;> rfl))
              · rintro x t H e hx
                obtain ⟨s15gx, rfl⟩ : ∃ z, z = o78 := ⟨_, rfl⟩
                dsimp only at hx hh
                obtain ⟨rfl, ⟨v9gx, v10gx, v12gx, z10gx, t8gx, t9gx, t10gx, t11gx, t12gx, t13gx, t15gx, H9gx, H10gx, H12gx⟩⟩ := hx
                obtain ⟨x87, hx87, hh⟩ := bindS hh
                obtain ⟨q88a, q88b, q88c, q88d, q88e⟩ := slc_lh (eI .i64) hx87
                simp only [vmz] at q88e
                skip
                have i89 := q_big_settle_w (encL (eI .i64) (l9c.take (s13c).toNat)) (encL (eI .i64) (l9c.drop (IntKind.i64.wrap ((IntKind.i64.wrap (s13c + ((r19).length : Int))) + 1)).toNat)) x87 r19 s15gx
                simp only [win_app, win_enc (eI .i64) hx87, win_len (eI .i64) hx87, win_n hx87, vmz, Int.toNat_zero, Nat.zero_mul, Nat.sub_zero] at i89
                obtain ⟨r90, hr90, hh⟩ := bindS hh
                have q91l := len_big_settle_w hr90
                have q91m := win_keep hx87 q91l
                obtain ⟨x92, hx92, hh⟩ := bindS hh
                have bx92 := idx_bd hx92
                have ax92 := idx_enc (eI .i64) hx92
                have fx92 := idx_fit (eI .i64) hx92
                simp only [vmz] at ax92 fx92
                skip
                have p93 := put_enc (eI .i64) (x' := r90.2) (fo := 0) (cs := [.int .i64 r90.2]) hx92 rfl (Nat.le_of_ble_eq_true rfl)
                simp only [vmz, Nat.add_zero] at p93
                have up93 := p93
                simp only [putCells, List.length_cons, List.length_nil, Nat.zero_add, Nat.reduceAdd] at up93
                cases hh
                try simp only [x_big_div, seval, -Int.reduceToNat, hr1, i14, hr15, q17a, q17b, q17c, q17d, i18, hr19, q22a, q22b, q22c, q22d, q22e, bx60, ax60, fx60, q62a, q62b, bx63, ax63, fx63, bx64, ax64, fx64, q66a, q66b, bx64, ax64, fx64, q68a, q68b, t8gx, t9gx, t10gx, t11gx, t12gx, t13gx, t15gx, H9gx, H10gx, H12gx, q88a, q88b, q88c, q88e, i89, hr90, q91m, bx92, ax92, fx92, p93, up93]
                rw [LK_normal]
                refine ⟨_, rfl, ?_⟩
                refine ⟨v9gx, v10gx, v12gx, true, ?_, ?_, ?_, ?_, ?_, ?_, ?_, ?_, ?_⟩
                all_goals (first | rfl | (simp only [x_big_div, seval, -Int.reduceToNat, hr1, i14, hr15, q17a, q17b, q17c, q17d, i18, hr19, q22a, q22b, q22c, q22d, q22e, bx60, ax60, fx60, q62a, q62b, bx63, ax63, fx63, bx64, ax64, fx64, q66a, q66b, bx64, ax64, fx64, q68a, q68b, t8gx, t9gx, t10gx, t11gx, t12gx, t13gx, t15gx, H9gx, H10gx, H12gx, q88a, q88b, q88c, q88e, i89, hr90, q91m, bx92, ax92, fx92, p93, up93] <;> rfl))
            · replace hh := ite_f hb59 hh
              cases hh
              try simp only [x_big_div, seval, -Int.reduceToNat, hr1, i14, hr15, q17a, q17b, q17c, q17d, i18, hr19, q22a, q22b, q22c, q22d, q22e, t8c, t9c, t10c, t11c, t12c, t13c, H9c, H10c, H12c]
              rw [LK_exit]
              refine ⟨_, rfl, ?_⟩
              refine ⟨rfl, ⟨v9c, v12c, ?_, ?_, ?_, ?_, ?_⟩⟩
              all_goals (first | rfl | (simp only [x_big_div, seval, -Int.reduceToNat, hr1, i14, hr15, q17a, q17b, q17c, q17d, i18, hr19, q22a, q22b, q22c, q22d, q22e, t8c, t9c, t10c, t11c, t12c, t13c, H9c, H10c, H12c] <;> rfl))
          · rintro x t H e hx
            rcases o58 with ⟨l9cx, l12cx⟩
            dsimp only at hx hh
            obtain ⟨rfl, ⟨v9cx, v12cx, t8cx, t9cx, t12cx, H9cx, H12cx⟩⟩ := hx
            obtain ⟨r94, hr94, hh⟩ := bindS hh
            obtain ⟨r95, hr95, hh⟩ := bindS hh
            obtain ⟨r96, hr96, hh⟩ := bindS hh
            cases hh
            try simp only [x_big_div, seval, -Int.reduceToNat, hr1, i14, hr15, q17a, q17b, q17c, q17d, i18, hr19, q22a, q22b, q22c, q22d, q22e, t8cx, t9cx, t12cx, H9cx, H12cx, hr94, hr95, hr96]
        ·
          clear hh
          have hh := ho20
          try simp only [x_big_div, seval, -Int.reduceToNat, hr1, t0ax, t1ax, t8ax, i14, hr15, q17a, q17b, q17c, q17d, i18, hr19]
          refine tstC_br (fun hb97 => ?_) (fun hb97 => ?_)
          · replace hh := ite_t hb97 hh
            obtain ⟨x98, hx98, hh⟩ := bindS hh
            obtain ⟨q99a, q99b, q99c, q99d⟩ := app_one (eI .i64) hx98
            simp only [vmz] at q99b
            cases hh
            try simp only [x_big_div, seval, -Int.reduceToNat, hr1, t0ax, t1ax, t8ax, i14, hr15, q17a, q17b, q17c, q17d, i18, hr19, q99a, q99b, q99c, q99d]
            rw [CK_normal]
            refine ⟨_, rfl, ?_⟩
            refine ⟨e + 1 + 1, e, ?_, ?_, ?_, ?_, ?_⟩
            all_goals (first | rfl | (simp only [x_big_div, seval, -Int.reduceToNat, hr1, t0ax, t1ax, t8ax, i14, hr15, q17a, q17b, q17c, q17d, i18, hr19, q99a, q99b, q99c, q99d] <;> rfl))
          · replace hh := ite_f hb97 hh
            cases hh
            try simp only [x_big_div, seval, -Int.reduceToNat, hr1, t0ax, t1ax, t8ax, i14, hr15, q17a, q17b, q17c, q17d, i18, hr19]
            rw [CK_normal]
            refine ⟨_, rfl, ?_⟩
            refine ⟨e, e, ?_, ?_, ?_, ?_, ?_⟩
            all_goals (first | rfl | (simp only [x_big_div, seval, -Int.reduceToNat, hr1, t0ax, t1ax, t8ax, i14, hr15, q17a, q17b, q17c, q17d, i18, hr19] <;> rfl))

theorem ok_big_div : COk Try.prog 93 G_big_div := COk.of (mode := .clean) tok ge_big_div mixed Try.func93 (by kernel_rfl) ⟨by kernel_rfl, by kernel_rfl⟩ (fun _ => Nat.le_of_ble_eq_true (by kernel_rfl)) (fun x r h => m_big_div x.1 x.2 r h)

noncomputable def G_big_signed := mkG (asC (aI .i64) (as1 (aSl (eI .i64)))) (fun x : Int × (List Int) => big_signed x.1 x.2) (fun r : TBig => .clean (.agg [.int .i64 r.f_Sign, .sl false false r.f_Digits.length (encL (eI .i64) r.f_Digits)]))

theorem q_big_signed (p0 : Int) (p1 : (List Int)) : G_big_signed none [.int .i64 p0, .sl false false p1.length (encL (eI .i64) p1)] = (big_signed p0 p1).map fun r : TBig => (.clean (.agg [.int .i64 r.f_Sign, .sl false false r.f_Digits.length (encL (eI .i64) r.f_Digits)]), none) := mkG_eq _ _ _ (p0, p1)

noncomputable def g_big_signed : Env := (Am.ext noEnv 115 false G_big_trim)

theorem ge_big_signed : GOk Try.prog g_big_signed := (GOk.none.add ok_big_trim false)

theorem gg_big_signed : g_big_signed = (Am.ext noEnv 115 false G_big_trim) := Eq.trans rfl rfl

theorem x_big_signed : type_of% (And.intro @w <| And.intro @q_big_trim <| @gg_big_signed) := And.intro @w <| And.intro @q_big_trim <| @gg_big_signed

theorem m_big_signed (p0 : Int) (p1 : (List Int)) (r : TBig) (hh : big_signed p0 p1 = some r) : vfunc .clean tab g_big_signed FU Try.f90 none [.int .i64 p0, .sl false false p1.length (encL (eI .i64) p1)] = some (.clean (.agg [.int .i64 r.f_Sign, .sl false false r.f_Digits.length (encL (eI .i64) r.f_Digits)]), none) := by
  refine vfunc_of rfl Try.ntmps90 Try.results90 ?_
  unfold big_signed at hh
  obtain ⟨r1, hr1, hh⟩ := bindS hh
  try simp only [x_big_signed, seval, -Int.reduceToNat, hr1]
  refine tstC_br (fun hb2 => ?_) (fun hb2 => ?_)
  · replace hh := ite_t hb2 hh
    cases hh
    try simp only [x_big_signed, seval, -Int.reduceToNat, hr1]
  · replace hh := ite_f hb2 hh
    cases hh
    try simp only [x_big_signed, seval, -Int.reduceToNat, hr1]

theorem ok_big_signed : COk Try.prog 90 G_big_signed := COk.of (mode := .clean) tok ge_big_signed mixed Try.func90 (by kernel_rfl) ⟨by kernel_rfl, by kernel_rfl⟩ (fun _ => Nat.le_of_ble_eq_true (by kernel_rfl)) (fun x r h => m_big_signed x.1 x.2 r h)

noncomputable def G_big_Gcd := mkG (asC (aAgg eTBig) (as1 (aAgg eTBig))) (fun x : TBig × TBig => big_Gcd x.1 x.2) (fun r : TBig × Int => .clean (.tup [.agg [.int .i64 r.1.f_Sign, .sl false false r.1.f_Digits.length (encL (eI .i64) r.1.f_Digits)], .int .i64 r.2]))

theorem q_big_Gcd (p0_0 : Int) (p0_1 : (List Int)) (p1_0 : Int) (p1_1 : (List Int)) : G_big_Gcd none [.agg [.int .i64 p0_0, .sl false false p0_1.length (encL (eI .i64) p0_1)], .agg [.int .i64 p1_0, .sl false false p1_1.length (encL (eI .i64) p1_1)]] = (big_Gcd (TBig.mk p0_0 p0_1) (TBig.mk p1_0 p1_1)).map fun r : TBig × Int => (.clean (.tup [.agg [.int .i64 r.1.f_Sign, .sl false false r.1.f_Digits.length (encL (eI .i64) r.1.f_Digits)], .int .i64 r.2]), none) := mkG_eq _ _ _ ((TBig.mk p0_0 p0_1), (TBig.mk p1_0 p1_1))

noncomputable def g_big_Gcd : Env := (Am.keep 6 (Am.ext (Am.ext (Am.ext (Am.ext (Am.ext noEnv 58 false G_big_Right) 90 false G_big_signed) 91 false G_slices_Clone) 92 false G_big_checked) 93 false G_big_div))

theorem ge_big_Gcd : GOk Try.prog g_big_Gcd := (GOk.keep (((((GOk.none.add ok_big_Right false).add ok_big_signed false).add ok_slices_Clone false).add ok_big_checked false).add ok_big_div false) 6)

theorem gg_big_Gcd : g_big_Gcd = (Am.keep 6 (Am.ext (Am.ext (Am.ext (Am.ext (Am.ext noEnv 58 false G_big_Right) 90 false G_big_signed) 91 false G_slices_Clone) 92 false G_big_checked) 93 false G_big_div)) := Eq.trans rfl rfl

theorem x_big_Gcd : type_of% (And.intro @w <| And.intro @q_big_Right <| And.intro @q_big_signed <| And.intro @q_slices_Clone <| And.intro @q_big_checked <| And.intro @q_big_div <| @gg_big_Gcd) := And.intro @w <| And.intro @q_big_Right <| And.intro @q_big_signed <| And.intro @q_slices_Clone <| And.intro @q_big_checked <| And.intro @q_big_div <| @gg_big_Gcd

theorem m_big_Gcd (p0 : TBig) (p1 : TBig) (r : TBig × Int) (hh : big_Gcd p0 p1 = some r) : vfunc .clean tab g_big_Gcd FU Try.f59 none [.agg [.int .i64 p0.f_Sign, .sl false false p0.f_Digits.length (encL (eI .i64) p0.f_Digits)], .agg [.int .i64 p1.f_Sign, .sl false false p1.f_Digits.length (encL (eI .i64) p1.f_Digits)]] = some (.clean (.tup [.agg [.int .i64 r.1.f_Sign, .sl false false r.1.f_Digits.length (encL (eI .i64) r.1.f_Digits)], .int .i64 r.2]), none) := by
  refine vfunc_of rfl Try.ntmps59 Try.results59 ?_
  unfold big_Gcd at hh
  obtain ⟨r1, hr1, hh⟩ := bindS hh
  try simp only [x_big_Gcd, seval, -Int.reduceToNat, hr1]
  obtain ⟨o2, ho2, hh⟩ := bindS hh
  refine tstO_cut 0 (fun s t H e => match s with | s17j1 => ∃ v2j1 : Nat, ∃ v3j1 : Nat, ∃ v4j1 : Nat, t 2 = .ptr 2 v2j1 0 ∧ t 3 = .ptr 3 v3j1 0 ∧ t 4 = .ptr 4 v4j1 0 ∧ t 17 = .bool s17j1 ∧ H 2 = some ⟨v2j1, 32, [.int .i64 p0.f_Sign, .sl false false p0.f_Digits.length (encL (eI .i64) p0.f_Digits)], false, false⟩ ∧ H 3 = some ⟨v3j1, 32, [.int .i64 p1.f_Sign, .sl false false p1.f_Digits.length (encL (eI .i64) p1.f_Digits)], false, false⟩ ∧ H 4 = some ⟨v4j1, 32, [.int .i64 0, .sl true true 0 []], false, false⟩) (fun s => s = o2) ?_ ?_
  · rintro s17j1 t H e ⟨v2j1, v3j1, v4j1, t2j1, t3j1, t4j1, t17j1, H2j1, H3j1, H4j1⟩ rfl
    try dsimp only at hh
    try simp only [x_big_Gcd, seval, -Int.reduceToNat, hr1, t2j1, t3j1, t4j1, t17j1, H2j1, H3j1, H4j1]
    refine tstC_br (fun hb3 => ?_) (fun hb3 => ?_)
    · replace hh := ite_t hb3 hh
      have i4 := q_big_checked false 0 ([])
      simp only [encL_cons, vmz, List.length_cons, List.length_nil, Nat.zero_add, Nat.reduceAdd, List.length_set] at i4
      obtain ⟨r5, hr5, hh⟩ := bindS hh
      cases hh
      try simp only [x_big_Gcd, seval, -Int.reduceToNat, hr1, t2j1, t3j1, t4j1, t17j1, H2j1, H3j1, H4j1, i4, hr5]
    · replace hh := ite_f hb3 hh
      obtain ⟨r6, hr6, hh⟩ := bindS hh
      try simp only [x_big_Gcd, seval, -Int.reduceToNat, hr1, t2j1, t3j1, t4j1, t17j1, H2j1, H3j1, H4j1, hr6]
      refine dyn_ok (by kernel_rfl) ?_
      try simp only [x_big_Gcd, seval, -Int.reduceToNat, hr1, t2j1, t3j1, t4j1, t17j1, H2j1, H3j1, H4j1, hr6]
      obtain ⟨o9, ho9, hh⟩ := bindS hh
      refine runLoop_sim (fun s t H e => match s with | (s6b, s7b) => ∃ v4b : Nat, t 4 = .ptr 4 v4b 0 ∧ t 6 = .sl false false s6b.length (encL (eI .i64) s6b) ∧ t 7 = .sl false false s7b.length (encL (eI .i64) s7b) ∧ H 4 = some ⟨v4b, 32, [.int .i64 0, .sl true true 0 []], false, false⟩) (fun o x t H e => match o with | s6bx => x = .exit 0 ∧ ∃ v4bx : Nat, t 4 = .ptr 4 v4bx 0 ∧ t 6 = .sl false false s6bx.length (encL (eI .i64) s6bx) ∧ H 4 = some ⟨v4bx, 32, [.int .i64 0, .sl true true 0 []], false, false⟩) ho9 ?_ ?_ ?_
      ·
        refine ⟨v4j1, ?_, ?_, ?_, ?_⟩
        all_goals (first | rfl | (simp only [x_big_Gcd, seval, -Int.reduceToNat, hr1, t2j1, t3j1, t4j1, t17j1, H2j1, H3j1, H4j1, hr6] <;> rfl))
      · rintro ⟨s6b, s7b⟩ t H e ⟨v4b, t4b, t6b, t7b, H4b⟩ c hh
        simp only [big_Gcd_L2] at hh
        try simp only [x_big_Gcd, seval, -Int.reduceToNat, hr1, hr6, t4b, t6b, t7b, H4b]
        refine tstC_br (fun hb10 => ?_) (fun hb10 => ?_)
        · replace hh := ite_t hb10 hh
          obtain ⟨r11, hr11, hh⟩ := bindS hh
          cases hh
          try simp only [x_big_Gcd, seval, -Int.reduceToNat, hr1, hr6, t4b, t6b, t7b, H4b, hr11]
          rw [LK_normal]
          refine ⟨_, rfl, ?_⟩
          refine ⟨v4b, ?_, ?_, ?_, ?_⟩
          all_goals (first | rfl | (simp only [x_big_Gcd, seval, -Int.reduceToNat, hr1, hr6, t4b, t6b, t7b, H4b, hr11] <;> rfl))
        · replace hh := ite_f hb10 hh
          cases hh
          try simp only [x_big_Gcd, seval, -Int.reduceToNat, hr1, hr6, t4b, t6b, t7b, H4b]
          rw [LK_exit]
          refine ⟨_, rfl, ?_⟩
          refine ⟨rfl, ⟨v4b, ?_, ?_, ?_⟩⟩
          all_goals (first | rfl | (simp only [x_big_Gcd, seval, -Int.reduceToNat, hr1, hr6, t4b, t6b, t7b, H4b] <;> rfl))
      · rintro x t H e hx
        obtain ⟨s6bx, rfl⟩ : ∃ z, z = o9 := ⟨_, rfl⟩
        dsimp only at hx hh
        obtain ⟨rfl, ⟨v4bx, t4bx, t6bx, H4bx⟩⟩ := hx
        obtain ⟨r12, hr12, hh⟩ := bindS hh
        obtain ⟨r13, hr13, hh⟩ := bindS hh
        obtain ⟨r14, hr14, hh⟩ := bindS hh
        cases hh
        try simp only [x_big_Gcd, seval, -Int.reduceToNat, hr1, hr6, t4bx, t6bx, H4bx, hr12, hr13, hr14]
  ·
    clear hh
    have hh := ho2
    try simp only [x_big_Gcd, seval, -Int.reduceToNat, hr1]
    refine tstO_br' (fun hb15 => ?_) (fun hb15 => ?_)
    · replace hh := ite_t hb15 hh
      cases hh
      try simp only [x_big_Gcd, seval, -Int.reduceToNat, hr1]
      rw [CK_normal]
      refine ⟨_, rfl, ?_⟩
      refine ⟨0, 0, 0, ?_, ?_, ?_, ?_, ?_, ?_, ?_⟩
      all_goals (first | rfl | (simp only [x_big_Gcd, seval, -Int.reduceToNat, hr1] <;> rfl))
    · replace hh := ite_f hb15 hh
      obtain ⟨r16, hr16, hh⟩ := bindS hh
      cases hh
      try simp only [x_big_Gcd, seval, -Int.reduceToNat, hr1, hr16]
      rw [CK_normal]
      refine ⟨_, rfl, ?_⟩
      refine ⟨0, 0, 0, ?_, ?_, ?_, ?_, ?_, ?_, ?_⟩
      all_goals (first | rfl | (simp only [x_big_Gcd, seval, -Int.reduceToNat, hr1, hr16] <;> rfl))

theorem ok_big_Gcd : COk Try.prog 59 G_big_Gcd := COk.of (mode := .clean) tok ge_big_Gcd mixed Try.func59 (by kernel_rfl) ⟨by kernel_rfl, by kernel_rfl⟩ (fun _ => Nat.le_of_ble_eq_true (by kernel_rfl)) (fun x r h => m_big_Gcd x.1 x.2 r h)

noncomputable def G_big_Int := mkG (as1 (aAgg eTBig)) (fun x : TBig => big_Int x) (fun r : Int × Bool => .clean (.tup [.int .i64 r.1, .bool r.2]))

theorem q_big_Int (p0_0 : Int) (p0_1 : (List Int)) : G_big_Int none [.agg [.int .i64 p0_0, .sl false false p0_1.length (encL (eI .i64) p0_1)]] = (big_Int (TBig.mk p0_0 p0_1)).map fun r : Int × Bool => (.clean (.tup [.int .i64 r.1, .bool r.2]), none) := mkG_eq _ _ _ ((TBig.mk p0_0 p0_1))

noncomputable def g_big_Int : Env := (Am.ext noEnv 58 false G_big_Right)

theorem ge_big_Int : GOk Try.prog g_big_Int := (GOk.none.add ok_big_Right false)

theorem gg_big_Int : g_big_Int = (Am.ext noEnv 58 false G_big_Right) := Eq.trans rfl rfl

theorem x_big_Int : type_of% (And.intro @w <| And.intro @q_big_Right <| @gg_big_Int) := And.intro @w <| And.intro @q_big_Right <| @gg_big_Int

theorem m_big_Int (p0 : TBig) (r : Int × Bool) (hh : big_Int p0 = some r) : vfunc .clean tab g_big_Int FU Try.f94 none [.agg [.int .i64 p0.f_Sign, .sl false false p0.f_Digits.length (encL (eI .i64) p0.f_Digits)]] = some (.clean (.tup [.int .i64 r.1, .bool r.2]), none) := by
  refine vfunc_of rfl Try.ntmps94 Try.results94 ?_
  unfold big_Int at hh
  obtain ⟨r1, hr1, hh⟩ := bindS hh
  try simp only [x_big_Int, seval, -Int.reduceToNat, hr1]
  obtain ⟨o2, ho2, hh⟩ := bindS hh
  refine tstO_cut 0 (fun s t H e => match s with | s15j1 => ∃ v1j1 : Nat, t 1 = .ptr 1 v1j1 0 ∧ t 15 = .bool s15j1 ∧ H 1 = some ⟨v1j1, 32, [.int .i64 p0.f_Sign, .sl false false p0.f_Digits.length (encL (eI .i64) p0.f_Digits)], false, false⟩) (fun s => s = o2) ?_ ?_
  · rintro s15j1 t H e ⟨v1j1, t1j1, t15j1, H1j1⟩ rfl
    try dsimp only at hh
    try simp only [x_big_Int, seval, -Int.reduceToNat, hr1, t1j1, t15j1, H1j1]
    refine tstC_br (fun hb3 => ?_) (fun hb3 => ?_)
    · replace hh := ite_t hb3 hh
      cases hh
      try simp only [x_big_Int, seval, -Int.reduceToNat, hr1, t1j1, t15j1, H1j1]
    · replace hh := ite_f hb3 hh
      try simp only [x_big_Int, seval, -Int.reduceToNat, hr1, t1j1, t15j1, H1j1]
      obtain ⟨o11, ho11, hh⟩ := bindS hh
      refine runLoop_sim (fun s t H e => match s with | (s4b, s19b) => ∃ v1b : Nat, t 1 = .ptr 1 v1b 0 ∧ t 4 = .int .u64 s4b ∧ t 17 = .sl false false p0.f_Digits.length (encL (eI .i64) p0.f_Digits) ∧ t 18 = .int .i64 (p0.f_Digits.length : Int) ∧ t 19 = .int .i64 s19b ∧ H 1 = some ⟨v1b, 32, [.int .i64 p0.f_Sign, .sl false false p0.f_Digits.length (encL (eI .i64) p0.f_Digits)], false, false⟩) (fun o x t H e => match o with | (.inl s4bx) => x = .exit 0 ∧ ∃ v1bx : Nat, t 1 = .ptr 1 v1bx 0 ∧ t 4 = .int .u64 s4bx ∧ H 1 = some ⟨v1bx, 32, [.int .i64 p0.f_Sign, .sl false false p0.f_Digits.length (encL (eI .i64) p0.f_Digits)], false, false⟩ | (.inr r) => x = .ret ∧ endM .clean tab none [.tmp 2, .tmp 3] ⟨t, H, e⟩ = some (.clean (.tup [.int .i64 r.1, .bool r.2]), none)) ho11 ?_ ?_ ?_
      ·
        refine ⟨v1j1, ?_, ?_, ?_, ?_, ?_, ?_⟩
        all_goals (first | rfl | (simp only [x_big_Int, seval, -Int.reduceToNat, hr1, t1j1, t15j1, H1j1] <;> rfl))
      · rintro ⟨s4b, s19b⟩ t H e ⟨v1b, t1b, t4b, t17b, t18b, t19b, H1b⟩ c hh
        simp only [big_Int_L2] at hh
        try simp only [x_big_Int, seval, -Int.reduceToNat, hr1, t1b, t4b, t17b, t18b, t19b, H1b]
        refine tstC_br (fun hb12 => ?_) (fun hb12 => ?_)
        · replace hh := ite_t hb12 hh
          obtain ⟨x13, hx13, hh⟩ := bindS hh
          have bx13 := idx_bd hx13
          have ax13 := idx_enc (eI .i64) hx13
          have fx13 := idx_fit (eI .i64) hx13
          simp only [vmz] at ax13 fx13
          skip
          try simp only [x_big_Int, seval, -Int.reduceToNat, hr1, t1b, t4b, t17b, t18b, t19b, H1b, bx13, ax13, fx13]
          obtain ⟨o14, ho14, hh⟩ := bindS hh
          refine tstO_cut 0 (fun s t H e => match s with | s29j4 => ∃ v1j4 : Nat, t 1 = .ptr 1 v1j4 0 ∧ t 4 = .int .u64 s4b ∧ t 5 = .int .i64 s19b ∧ t 6 = .int .i64 x13 ∧ t 17 = .sl false false p0.f_Digits.length (encL (eI .i64) p0.f_Digits) ∧ t 18 = .int .i64 (p0.f_Digits.length : Int) ∧ t 19 = .int .i64 s19b ∧ t 29 = .bool s29j4 ∧ H 1 = some ⟨v1j4, 32, [.int .i64 p0.f_Sign, .sl false false p0.f_Digits.length (encL (eI .i64) p0.f_Digits)], false, false⟩) (fun s => s = o14) ?_ ?_
          · rintro s29j4 t H e ⟨v1j4, t1j4, t4j4, t5j4, t6j4, t17j4, t18j4, t19j4, t29j4, H1j4⟩ rfl
            try dsimp only at hh
            try simp only [x_big_Int, seval, -Int.reduceToNat, hr1, bx13, ax13, fx13, t1j4, t4j4, t5j4, t6j4, t17j4, t18j4, t19j4, t29j4, H1j4]
            refine tstC_br (fun hb15 => ?_) (fun hb15 => ?_)
            · replace hh := ite_t hb15 hh
              cases hh
              try simp only [x_big_Int, seval, -Int.reduceToNat, hr1, bx13, ax13, fx13, t1j4, t4j4, t5j4, t6j4, t17j4, t18j4, t19j4, t29j4, H1j4]
              rw [LK_ret]
              refine ⟨_, rfl, ?_⟩
              refine ⟨rfl, ?_⟩
              try simp only [x_big_Int, seval, -Int.reduceToNat, hr1, bx13, ax13, fx13, t1j4, t4j4, t5j4, t6j4, t17j4, t18j4, t19j4, t29j4, H1j4]
            · replace hh := ite_f hb15 hh
              obtain ⟨x16, hx16, hh⟩ := bindS hh
              obtain ⟨q17a, q17b⟩ := shlI_ok hx16
              cases hh
              try simp only [x_big_Int, seval, -Int.reduceToNat, hr1, bx13, ax13, fx13, t1j4, t4j4, t5j4, t6j4, t17j4, t18j4, t19j4, t29j4, H1j4, q17a, q17b]
              rw [LK_normal]
              refine ⟨_, rfl, ?_⟩
              refine ⟨v1j4, ?_, ?_, ?_, ?_, ?_, ?_⟩
              all_goals (first | rfl | (simp only [x_big_Int, seval, -Int.reduceToNat, hr1, bx13, ax13, fx13, t1j4, t4j4, t5j4, t6j4, t17j4, t18j4, t19j4, t29j4, H1j4, q17a, q17b] <;> rfl))
          ·
            clear hh
            have hh := ho14
            try simp only [x_big_Int, seval, -Int.reduceToNat, hr1, t1b, t4b, t17b, t18b, t19b, H1b, bx13, ax13, fx13]
            refine tstO_br (fun hb18 => ?_) (fun hb18 => ?_)
            · replace hh := ite_t hb18 hh
              cases hh
              try simp only [x_big_Int, seval, -Int.reduceToNat, hr1, t1b, t4b, t17b, t18b, t19b, H1b, bx13, ax13, fx13]
              rw [CK_normal]
              refine ⟨_, rfl, ?_⟩
              refine ⟨v1b, ?_, ?_, ?_, ?_, ?_, ?_, ?_, ?_, ?_⟩
              all_goals (first | rfl | (simp only [x_big_Int, seval, -Int.reduceToNat, hr1, t1b, t4b, t17b, t18b, t19b, H1b, bx13, ax13, fx13] <;> rfl))
            · replace hh := ite_f hb18 hh
              cases hh
              try simp only [x_big_Int, seval, -Int.reduceToNat, hr1, t1b, t4b, t17b, t18b, t19b, H1b, bx13, ax13, fx13]
              rw [CK_normal]
              refine ⟨_, rfl, ?_⟩
              refine ⟨v1b, ?_, ?_, ?_, ?_, ?_, ?_, ?_, ?_, ?_⟩
              all_goals (first | rfl | (simp only [x_big_Int, seval, -Int.reduceToNat, hr1, t1b, t4b, t17b, t18b, t19b, H1b, bx13, ax13, fx13] <;> rfl))
        · replace hh := ite_f hb12 hh
          cases hh
          try simp only [x_big_Int, seval, -Int.reduceToNat, hr1, t1b, t4b, t17b, t18b, t19b, H1b]
          rw [LK_exit]
          refine ⟨_, rfl, ?_⟩
          refine ⟨rfl, ⟨v1b, ?_, ?_, ?_⟩⟩
          all_goals (first | rfl | (simp only [x_big_Int, seval, -Int.reduceToNat, hr1, t1b, t4b, t17b, t18b, t19b, H1b] <;> rfl))
      · rintro x t H e hx
        rcases o11 with s4bx | rb
        ·
          dsimp only at hx hh
          obtain ⟨rfl, ⟨v1bx, t1bx, t4bx, H1bx⟩⟩ := hx
          try simp only [x_big_Int, seval, -Int.reduceToNat, hr1, t1bx, t4bx, H1bx]
          obtain ⟨o19, ho19, hh⟩ := bindS hh
          refine tstO_cut 0 (fun s t H e => match s with | s38j5 => ∃ v1j5 : Nat, t 1 = .ptr 1 v1j5 0 ∧ t 4 = .int .u64 s4bx ∧ t 38 = .bool s38j5 ∧ H 1 = some ⟨v1j5, 32, [.int .i64 p0.f_Sign, .sl false false p0.f_Digits.length (encL (eI .i64) p0.f_Digits)], false, false⟩) (fun s => s = o19) ?_ ?_
          · rintro s38j5 t H e ⟨v1j5, t1j5, t4j5, t38j5, H1j5⟩ rfl
            try dsimp only at hh
            try simp only [x_big_Int, seval, -Int.reduceToNat, hr1, t1j5, t4j5, t38j5, H1j5]
            refine tstC_br (fun hb20 => ?_) (fun hb20 => ?_)
            · replace hh := ite_t hb20 hh
              cases hh
              try simp only [x_big_Int, seval, -Int.reduceToNat, hr1, t1j5, t4j5, t38j5, H1j5]
            · replace hh := ite_f hb20 hh
              try simp only [x_big_Int, seval, -Int.reduceToNat, hr1, t1j5, t4j5, t38j5, H1j5]
              refine tstO_br (fun hb21 => ?_) (fun hb21 => ?_)
              · replace hh := ite_t hb21 hh
                try simp only [x_big_Int, seval, -Int.reduceToNat, hr1, t1j5, t4j5, t38j5, H1j5]
                refine tstC_br (fun hb22 => ?_) (fun hb22 => ?_)
                · replace hh := ite_t hb22 hh
                  cases hh
                  try simp only [x_big_Int, seval, -Int.reduceToNat, hr1, t1j5, t4j5, t38j5, H1j5]
                · replace hh := ite_f hb22 hh
                  cases hh
                  try simp only [x_big_Int, seval, -Int.reduceToNat, hr1, t1j5, t4j5, t38j5, H1j5]
              · replace hh := ite_f hb21 hh
                cases hh
                try simp only [x_big_Int, seval, -Int.reduceToNat, hr1, t1j5, t4j5, t38j5, H1j5]
          ·
            clear hh
            have hh := ho19
            try simp only [x_big_Int, seval, -Int.reduceToNat, hr1, t1bx, t4bx, H1bx]
            refine tstO_br (fun hb23 => ?_) (fun hb23 => ?_)
            · replace hh := ite_t hb23 hh
              cases hh
              try simp only [x_big_Int, seval, -Int.reduceToNat, hr1, t1bx, t4bx, H1bx]
              rw [CK_normal]
              refine ⟨_, rfl, ?_⟩
              refine ⟨v1bx, ?_, ?_, ?_, ?_⟩
              all_goals (first | rfl | (simp only [x_big_Int, seval, -Int.reduceToNat, hr1, t1bx, t4bx, H1bx] <;> rfl))
            · replace hh := ite_f hb23 hh
              cases hh
              try simp only [x_big_Int, seval, -Int.reduceToNat, hr1, t1bx, t4bx, H1bx]
              rw [CK_normal]
              refine ⟨_, rfl, ?_⟩
              refine ⟨v1bx, ?_, ?_, ?_, ?_⟩
              all_goals (first | rfl | (simp only [x_big_Int, seval, -Int.reduceToNat, hr1, t1bx, t4bx, H1bx] <;> rfl))
        ·
          dsimp only at hx hh
          obtain ⟨rfl, hE⟩ := hx
          cases hh
          try simp only [runW_pass_ret, runW_pass_exit, runW_blk_ret, runW_nil, endW_ret]
          exact hE
  ·
    clear hh
    have hh := ho2
    try simp only [x_big_Int, seval, -Int.reduceToNat, hr1]
    refine tstO_br' (fun hb24 => ?_) (fun hb24 => ?_)
    · replace hh := ite_t hb24 hh
      cases hh
      try simp only [x_big_Int, seval, -Int.reduceToNat, hr1]
      rw [CK_normal]
      refine ⟨_, rfl, ?_⟩
      refine ⟨0, ?_, ?_, ?_⟩
      all_goals (first | rfl | (simp only [x_big_Int, seval, -Int.reduceToNat, hr1] <;> rfl))
    · replace hh := ite_f hb24 hh
      cases hh
      try simp only [x_big_Int, seval, -Int.reduceToNat, hr1]
      rw [CK_normal]
      refine ⟨_, rfl, ?_⟩
      refine ⟨0, ?_, ?_, ?_⟩
      all_goals (first | rfl | (simp only [x_big_Int, seval, -Int.reduceToNat, hr1] <;> rfl))

theorem ok_big_Int : COk Try.prog 94 G_big_Int := COk.of (mode := .clean) tok ge_big_Int mixed Try.func94 (by kernel_rfl) ⟨by kernel_rfl, by kernel_rfl⟩ (fun _ => Nat.le_of_ble_eq_true (by kernel_rfl)) (fun x r h => m_big_Int x r h)

noncomputable def G_frac_one := mkG (as1 (aAgg eTBig)) (fun x : TBig => frac_one x) (fun r : Bool => .clean (.bool r))

theorem q_frac_one (p0_0 : Int) (p0_1 : (List Int)) : G_frac_one none [.agg [.int .i64 p0_0, .sl false false p0_1.length (encL (eI .i64) p0_1)]] = (frac_one (TBig.mk p0_0 p0_1)).map fun r : Bool => (.clean (.bool r), none) := mkG_eq _ _ _ ((TBig.mk p0_0 p0_1))

noncomputable def g_frac_one : Env := (Am.ext noEnv 94 false G_big_Int)

theorem ge_frac_one : GOk Try.prog g_frac_one := (GOk.none.add ok_big_Int false)

theorem gg_frac_one : g_frac_one = (Am.ext noEnv 94 false G_big_Int) := Eq.trans rfl rfl

theorem x_frac_one : type_of% (And.intro @w <| And.intro @q_big_Int <| @gg_frac_one) := And.intro @w <| And.intro @q_big_Int <| @gg_frac_one

theorem m_frac_one (p0 : TBig) (r : Bool) (hh : frac_one p0 = some r) : vfunc .clean tab g_frac_one FU Try.f60 none [.agg [.int .i64 p0.f_Sign, .sl false false p0.f_Digits.length (encL (eI .i64) p0.f_Digits)]] = some (.clean (.bool r), none) := by
  refine vfunc_of rfl Try.ntmps60 Try.results60 ?_
  unfold frac_one at hh
  obtain ⟨r1, hr1, hh⟩ := bindS hh
  try simp only [x_frac_one, seval, -Int.reduceToNat, hr1]
  refine tstO_br (fun hb2 => ?_) (fun hb2 => ?_)
  · replace hh := ite_t hb2 hh
    cases hh
    try simp only [x_frac_one, seval, -Int.reduceToNat, hr1]
  · replace hh := ite_f hb2 hh
    cases hh
    try simp only [x_frac_one, seval, -Int.reduceToNat, hr1]

theorem ok_frac_one : COk Try.prog 60 G_frac_one := COk.of (mode := .clean) tok ge_frac_one mixed Try.func60 (by kernel_rfl) ⟨by kernel_rfl, by kernel_rfl⟩ (fun _ => Nat.le_of_ble_eq_true (by kernel_rfl)) (fun x r h => m_frac_one x r h)

noncomputable def G_frac_Right := mkG (as1 (aAgg eTFrac)) (fun x : TFrac => frac_Right x) (fun r : Bool => .clean (.bool r))

theorem q_frac_Right (p0_0 : Int) (p0_1 : (List Int)) (p0_2 : Int) (p0_3 : (List Int)) : G_frac_Right none [.agg [.int .i64 p0_0, .sl false false p0_1.length (encL (eI .i64) p0_1), .int .i64 p0_2, .sl false false p0_3.length (encL (eI .i64) p0_3)]] = (frac_Right (TFrac.mk (TBig.mk p0_0 p0_1) (TBig.mk p0_2 p0_3))).map fun r : Bool => (.clean (.bool r), none) := mkG_eq _ _ _ ((TFrac.mk (TBig.mk p0_0 p0_1) (TBig.mk p0_2 p0_3)))

noncomputable def g_frac_Right : Env := (Am.ext (Am.ext (Am.ext noEnv 58 false G_big_Right) 59 false G_big_Gcd) 60 false G_frac_one)

theorem ge_frac_Right : GOk Try.prog g_frac_Right := (((GOk.none.add ok_big_Right false).add ok_big_Gcd false).add ok_frac_one false)

theorem gg_frac_Right : g_frac_Right = (Am.ext (Am.ext (Am.ext noEnv 58 false G_big_Right) 59 false G_big_Gcd) 60 false G_frac_one) := Eq.trans rfl rfl

theorem x_frac_Right : type_of% (And.intro @w <| And.intro @q_big_Right <| And.intro @q_big_Gcd <| And.intro @q_frac_one <| @gg_frac_Right) := And.intro @w <| And.intro @q_big_Right <| And.intro @q_big_Gcd <| And.intro @q_frac_one <| @gg_frac_Right

theorem m_frac_Right (p0 : TFrac) (r : Bool) (hh : frac_Right p0 = some r) : vfunc .clean tab g_frac_Right FU Try.f24 none [.agg [.int .i64 p0.f_P.f_Sign, .sl false false p0.f_P.f_Digits.length (encL (eI .i64) p0.f_P.f_Digits), .int .i64 p0.f_Q.f_Sign, .sl false false p0.f_Q.f_Digits.length (encL (eI .i64) p0.f_Q.f_Digits)]] = some (.clean (.bool r), none) := by
  refine vfunc_of rfl Try.ntmps24 Try.results24 ?_
  unfold frac_Right at hh
  obtain ⟨r1, hr1, hh⟩ := bindS hh
  try simp only [x_frac_Right, seval, -Int.reduceToNat, hr1]
  obtain ⟨o2, ho2, hh⟩ := bindS hh
  refine tstO_cut 0 (fun s t H e => match s with | s20j1 => ∃ v1j1 : Nat, t 1 = .ptr 1 v1j1 0 ∧ t 20 = .bool s20j1 ∧ H 1 = some ⟨v1j1, 34, [.int .i64 p0.f_P.f_Sign, .sl false false p0.f_P.f_Digits.length (encL (eI .i64) p0.f_P.f_Digits), .int .i64 p0.f_Q.f_Sign, .sl false false p0.f_Q.f_Digits.length (encL (eI .i64) p0.f_Q.f_Digits)], false, false⟩) (fun s => s = o2) ?_ ?_
  · rintro s20j1 t H e ⟨v1j1, t1j1, t20j1, H1j1⟩ rfl
    try dsimp only at hh
    try simp only [x_frac_Right, seval, -Int.reduceToNat, hr1, t1j1, t20j1, H1j1]
    refine tstC_br (fun hb3 => ?_) (fun hb3 => ?_)
    · replace hh := ite_t hb3 hh
      cases hh
      try simp only [x_frac_Right, seval, -Int.reduceToNat, hr1, t1j1, t20j1, H1j1]
    · replace hh := ite_f hb3 hh
      obtain ⟨r4, hr4, hh⟩ := bindS hh
      try simp only [x_frac_Right, seval, -Int.reduceToNat, hr1, t1j1, t20j1, H1j1, hr4]
      refine tstO_br (fun hb5 => ?_) (fun hb5 => ?_)
      · replace hh := ite_t hb5 hh
        obtain ⟨r6, hr6, hh⟩ := bindS hh
        cases hh
        try simp only [x_frac_Right, seval, -Int.reduceToNat, hr1, t1j1, t20j1, H1j1, hr4, hr6]
      · replace hh := ite_f hb5 hh
        cases hh
        try simp only [x_frac_Right, seval, -Int.reduceToNat, hr1, t1j1, t20j1, H1j1, hr4]
  ·
    clear hh
    have hh := ho2
    try simp only [x_frac_Right, seval, -Int.reduceToNat, hr1]
    refine tstO_br' (fun hb7 => ?_) (fun hb7 => ?_)
    · replace hh := ite_t hb7 hh
      cases hh
      try simp only [x_frac_Right, seval, -Int.reduceToNat, hr1]
      rw [CK_normal]
      refine ⟨_, rfl, ?_⟩
      refine ⟨0, ?_, ?_, ?_⟩
      all_goals (first | rfl | (simp only [x_frac_Right, seval, -Int.reduceToNat, hr1] <;> rfl))
    · replace hh := ite_f hb7 hh
      obtain ⟨r8, hr8, hh⟩ := bindS hh
      try simp only [x_frac_Right, seval, -Int.reduceToNat, hr1, hr8]
      refine tstO_br' (fun hb9 => ?_) (fun hb9 => ?_)
      · replace hh := ite_t hb9 hh
        cases hh
        try simp only [x_frac_Right, seval, -Int.reduceToNat, hr1, hr8]
        rw [CK_normal]
        refine ⟨_, rfl, ?_⟩
        refine ⟨0, ?_, ?_, ?_⟩
        all_goals (first | rfl | (simp only [x_frac_Right, seval, -Int.reduceToNat, hr1, hr8] <;> rfl))
      · replace hh := ite_f hb9 hh
        cases hh
        try simp only [x_frac_Right, seval, -Int.reduceToNat, hr1, hr8]
        rw [CK_normal]
        refine ⟨_, rfl, ?_⟩
        refine ⟨0, ?_, ?_, ?_⟩
        all_goals (first | rfl | (simp only [x_frac_Right, seval, -Int.reduceToNat, hr1, hr8] <;> rfl))

theorem ok_frac_Right : COk Try.prog 24 G_frac_Right := COk.of (mode := .clean) tok ge_frac_Right mixed Try.func24 (by kernel_rfl) ⟨by kernel_rfl, by kernel_rfl⟩ (fun _ => Nat.le_of_ble_eq_true (by kernel_rfl)) (fun x r h => m_frac_Right x r h)

noncomputable def G_bridge_right := mkG (as1 (aSl eTFrac)) (fun x : (List TFrac) => bridge_right x) (fun r : Bool => .clean (.bool r))

theorem q_bridge_right (p0 : (List TFrac)) : G_bridge_right none [.sl false false p0.length (encL eTFrac p0)] = (bridge_right p0).map fun r : Bool => (.clean (.bool r), none) := mkG_eq _ _ _ (p0)

noncomputable def g_bridge_right : Env := (Am.ext noEnv 24 false G_frac_Right)

theorem ge_bridge_right : GOk Try.prog g_bridge_right := (GOk.none.add ok_frac_Right false)

theorem gg_bridge_right : g_bridge_right = (Am.ext noEnv 24 false G_frac_Right) := Eq.trans rfl rfl

theorem x_bridge_right : type_of% (And.intro @w <| And.intro @q_frac_Right <| @gg_bridge_right) := And.intro @w <| And.intro @q_frac_Right <| @gg_bridge_right

theorem m_bridge_right (p0 : (List TFrac)) (r : Bool) (hh : bridge_right p0 = some r) : vfunc .clean tab g_bridge_right FU Try.f57 none [.sl false false p0.length (encL eTFrac p0)] = some (.clean (.bool r), none) := by
  refine vfunc_of rfl Try.ntmps57 Try.results57 ?_
  unfold bridge_right at hh
  try simp only [x_bridge_right, seval, -Int.reduceToNat]
  obtain ⟨o5, ho5, hh⟩ := bindS hh
  refine runLoop_sim (fun s t H e => match s with | s7a => t 5 = .sl false false p0.length (encL eTFrac p0) ∧ t 6 = .int .i64 (p0.length : Int) ∧ t 7 = .int .i64 s7a) (fun o x t H e => match o with | (.inl _) => x = .exit 0 | (.inr r) => x = .ret ∧ endM .clean tab none [.tmp 2] ⟨t, H, e⟩ = some (.clean (.bool r), none)) ho5 ?_ ?_ ?_
  ·
    refine ⟨?_, ?_, ?_⟩
    all_goals (first | rfl | (simp only [x_bridge_right, seval, -Int.reduceToNat] <;> rfl))
  · rintro s7a t H e ⟨t5a, t6a, t7a⟩ c hh
    simp only [bridge_right_L1] at hh
    try simp only [x_bridge_right, seval, -Int.reduceToNat, t5a, t6a, t7a]
    refine tstC_br (fun hb6 => ?_) (fun hb6 => ?_)
    · replace hh := ite_t hb6 hh
      obtain ⟨x7, hx7, hh⟩ := bindS hh
      have bx7 := idx_bd hx7
      have ax7 := idx_enc eTFrac hx7
      have fx7 := idx_fit eTFrac hx7
      simp only [vmz] at ax7 fx7
      skip
      obtain ⟨r8, hr8, hh⟩ := bindS hh
      try simp only [x_bridge_right, seval, -Int.reduceToNat, t5a, t6a, t7a, bx7, ax7, fx7, hr8]
      refine tstC_br (fun hb9 => ?_) (fun hb9 => ?_)
      · replace hh := ite_t hb9 hh
        cases hh
        try simp only [x_bridge_right, seval, -Int.reduceToNat, t5a, t6a, t7a, bx7, ax7, fx7, hr8]
        rw [LK_ret]
        refine ⟨_, rfl, ?_⟩
        refine ⟨rfl, ?_⟩
        try simp only [x_bridge_right, seval, -Int.reduceToNat, t5a, t6a, t7a, bx7, ax7, fx7, hr8]
      · replace hh := ite_f hb9 hh
        cases hh
        try simp only [x_bridge_right, seval, -Int.reduceToNat, t5a, t6a, t7a, bx7, ax7, fx7, hr8]
        rw [LK_normal]
        refine ⟨_, rfl, ?_⟩
        refine ⟨?_, ?_, ?_⟩
        all_goals (first | rfl | (simp only [x_bridge_right, seval, -Int.reduceToNat, t5a, t6a, t7a, bx7, ax7, fx7, hr8] <;> rfl))
    · replace hh := ite_f hb6 hh
      cases hh
      try simp only [x_bridge_right, seval, -Int.reduceToNat, t5a, t6a, t7a]
      rw [LK_exit]
      refine ⟨_, rfl, ?_⟩
      exact rfl
  · rintro x t H e hx
    rcases o5 with _ | ra
    ·
      dsimp only at hx hh
      subst hx
      cases hh
      try simp only [x_bridge_right, seval, -Int.reduceToNat]
    ·
      dsimp only at hx hh
      obtain ⟨rfl, hE⟩ := hx
      cases hh
      try simp only [runW_pass_ret, runW_pass_exit, runW_blk_ret, runW_nil, endW_ret]
      exact hE

theorem ok_bridge_right : COk Try.prog 57 G_bridge_right := COk.of (mode := .clean) tok ge_bridge_right mixed Try.func57 (by kernel_rfl) ⟨by kernel_rfl, by kernel_rfl⟩ (fun _ => Nat.le_of_ble_eq_true (by kernel_rfl)) (fun x r h => m_bridge_right x r h)

noncomputable def G_bridge_edits := mkG (as1 (aSl eTFrac)) (fun x : (List TFrac) => bridge_edits x) (fun r : Int × Bool => .clean (.tup [.int .i64 r.1, .bool r.2]))

theorem q_bridge_edits (p0 : (List TFrac)) : G_bridge_edits none [.sl false false p0.length (encL eTFrac p0)] = (bridge_edits p0).map fun r : Int × Bool => (.clean (.tup [.int .i64 r.1, .bool r.2]), none) := mkG_eq _ _ _ (p0)

noncomputable def g_bridge_edits : Env := (Am.ext (Am.ext noEnv 57 false G_bridge_right) 86 false G_math_bits_Len)

theorem ge_bridge_edits : GOk Try.prog g_bridge_edits := ((GOk.none.add ok_bridge_right false).add ok_math_bits_Len false)

theorem gg_bridge_edits : g_bridge_edits = (Am.ext (Am.ext noEnv 57 false G_bridge_right) 86 false G_math_bits_Len) := Eq.trans rfl rfl

theorem x_bridge_edits : type_of% (And.intro @w <| And.intro @q_bridge_right <| And.intro @q_math_bits_Len <| @gg_bridge_edits) := And.intro @w <| And.intro @q_bridge_right <| And.intro @q_math_bits_Len <| @gg_bridge_edits

theorem m_bridge_edits (p0 : (List TFrac)) (r : Int × Bool) (hh : bridge_edits p0 = some r) : vfunc .clean tab g_bridge_edits FU Try.f50 none [.sl false false p0.length (encL eTFrac p0)] = some (.clean (.tup [.int .i64 r.1, .bool r.2]), none) := by
  refine vfunc_of rfl Try.ntmps50 Try.results50 ?_
  unfold bridge_edits at hh
  obtain ⟨r1, hr1, hh⟩ := bindS hh
  try simp only [x_bridge_edits, seval, -Int.reduceToNat, hr1]
  refine tstO_br' (fun hb2 => ?_) (fun hb2 => ?_)
  · replace hh := ite_t hb2 hh
    cases hh
    try simp only [x_bridge_edits, seval, -Int.reduceToNat, hr1]
  · replace hh := ite_f hb2 hh
    try simp only [x_bridge_edits, seval, -Int.reduceToNat, hr1]
    refine tstO_br' (fun hb3 => ?_) (fun hb3 => ?_)
    · replace hh := ite_t hb3 hh
      cases hh
      try simp only [x_bridge_edits, seval, -Int.reduceToNat, hr1]
    · replace hh := ite_f hb3 hh
      obtain ⟨x4, hx4, hh⟩ := bindS hh
      obtain ⟨q5a, q5b⟩ := shlI_ok hx4
      try simp only [x_bridge_edits, seval, -Int.reduceToNat, hr1, q5a, q5b]
      refine tstO_br' (fun hb6 => ?_) (fun hb6 => ?_)
      · replace hh := ite_t hb6 hh
        cases hh
        try simp only [x_bridge_edits, seval, -Int.reduceToNat, hr1, q5a, q5b]
      · replace hh := ite_f hb6 hh
        obtain ⟨r7, hr7, hh⟩ := bindS hh
        try simp only [x_bridge_edits, seval, -Int.reduceToNat, hr1, q5a, q5b, hr7]
        refine tstC_br (fun hb8 => ?_) (fun hb8 => ?_)
        · replace hh := ite_t hb8 hh
          cases hh
          try simp only [x_bridge_edits, seval, -Int.reduceToNat, hr1, q5a, q5b, hr7]
        · replace hh := ite_f hb8 hh
          cases hh
          try simp only [x_bridge_edits, seval, -Int.reduceToNat, hr1, q5a, q5b, hr7]

theorem ok_bridge_edits : COk Try.prog 50 G_bridge_edits := COk.of (mode := .clean) tok ge_bridge_edits mixed Try.func50 (by kernel_rfl) ⟨by kernel_rfl, by kernel_rfl⟩ (fun _ => Nat.le_of_ble_eq_true (by kernel_rfl)) (fun x r h => m_bridge_edits x r h)

noncomputable def G_big_Of := mkG (as1 (aI .i64)) (fun x : Int => big_Of x) (fun r : TBig => .clean (.agg [.int .i64 r.f_Sign, .sl false false r.f_Digits.length (encL (eI .i64) r.f_Digits)]))

theorem q_big_Of (p0 : Int) : G_big_Of none [.int .i64 p0] = (big_Of p0).map fun r : TBig => (.clean (.agg [.int .i64 r.f_Sign, .sl false false r.f_Digits.length (encL (eI .i64) r.f_Digits)]), none) := mkG_eq _ _ _ (p0)

noncomputable def g_big_Of : Env := (Am.ext noEnv 90 false G_big_signed)

theorem ge_big_Of : GOk Try.prog g_big_Of := (GOk.none.add ok_big_signed false)

theorem gg_big_Of : g_big_Of = (Am.ext noEnv 90 false G_big_signed) := Eq.trans rfl rfl

theorem x_big_Of : type_of% (And.intro @w <| And.intro @q_big_signed <| @gg_big_Of) := And.intro @w <| And.intro @q_big_signed <| @gg_big_Of

theorem m_big_Of (p0 : Int) (r : TBig) (hh : big_Of p0 = some r) : vfunc .clean tab g_big_Of FU Try.f87 none [.int .i64 p0] = some (.clean (.agg [.int .i64 r.f_Sign, .sl false false r.f_Digits.length (encL (eI .i64) r.f_Digits)]), none) := by
  refine vfunc_of rfl Try.ntmps87 Try.results87 ?_
  unfold big_Of at hh
  try simp only [x_big_Of, seval, -Int.reduceToNat]
  obtain ⟨o1, ho1, hh⟩ := bindS hh
  refine tstC_cut 0 (fun s t H e => match s with | (s3j1, s4j1) => ∃ v2j1 : Nat, t 2 = .ptr 2 v2j1 0 ∧ t 3 = .int .i64 s3j1 ∧ t 4 = .int .u64 s4j1 ∧ H 2 = some ⟨v2j1, 32, [.int .i64 0, .sl true true 0 []], false, false⟩) (fun s => s = o1) ?_ ?_
  · rintro ⟨s3j1, s4j1⟩ t H e ⟨v2j1, t2j1, t3j1, t4j1, H2j1⟩ rfl
    try dsimp only at hh
    try simp only [x_big_Of, seval, -Int.reduceToNat, t2j1, t3j1, t4j1, H2j1]
    obtain ⟨o7, ho7, hh⟩ := bindS hh
    refine runLoop_sim (fun s t H e => match s with | (s4b, l5b) => ∃ v2b : Nat, ∃ v5b : Nat, t 2 = .ptr 2 v2b 0 ∧ t 3 = .int .i64 s3j1 ∧ t 4 = .int .u64 s4b ∧ t 5 = .buf 5 v5b 1 0 (l5b).length ∧ H 2 = some ⟨v2b, 32, [.int .i64 0, .sl true true 0 []], false, false⟩ ∧ H 5 = some ⟨v5b, 3, encL (eI .i64) l5b, false, true⟩) (fun o x t H e => match o with | l5bx => x = .exit 0 ∧ ∃ v2bx : Nat, ∃ v5bx : Nat, t 2 = .ptr 2 v2bx 0 ∧ t 3 = .int .i64 s3j1 ∧ t 5 = .buf 5 v5bx 1 0 (l5bx).length ∧ H 2 = some ⟨v2bx, 32, [.int .i64 0, .sl true true 0 []], false, false⟩ ∧ H 5 = some ⟨v5bx, 3, encL (eI .i64) l5bx, false, true⟩) ho7 ?_ ?_ ?_
    ·
      refine ⟨v2j1, e, ?_, ?_, ?_, ?_, ?_, ?_⟩
      all_goals (first | rfl | (simp only [x_big_Of, seval, -Int.reduceToNat, t2j1, t3j1, t4j1, H2j1] <;> rfl))
    · rintro ⟨s4b, l5b⟩ t H e ⟨v2b, v5b, t2b, t3b, t4b, t5b, H2b, H5b⟩ c hh
      simp only [big_Of_L2] at hh
      try simp only [x_big_Of, seval, -Int.reduceToNat, t2b, t3b, t4b, t5b, H2b, H5b]
      refine tstC_br (fun hb8 => ?_) (fun hb8 => ?_)
      · replace hh := ite_t hb8 hh
        obtain ⟨x9, hx9, hh⟩ := bindS hh
        obtain ⟨q10a, q10b, q10c, q10d⟩ := app_one (eI .i64) hx9
        simp only [vmz] at q10b
        obtain ⟨x11, hx11, hh⟩ := bindS hh
        obtain ⟨q12a, q12b⟩ := shrI_ok hx11
        cases hh
        try simp only [x_big_Of, seval, -Int.reduceToNat, t2b, t3b, t4b, t5b, H2b, H5b, q10a, q10b, q10c, q10d, q12a, q12b]
        rw [LK_normal]
        refine ⟨_, rfl, ?_⟩
        refine ⟨v2b, e + 1, ?_, ?_, ?_, ?_, ?_, ?_⟩
        all_goals (first | rfl | (simp only [x_big_Of, seval, -Int.reduceToNat, t2b, t3b, t4b, t5b, H2b, H5b, q10a, q10b, q10c, q10d, q12a, q12b] <;> rfl))
      · replace hh := ite_f hb8 hh
        cases hh
        try simp only [x_big_Of, seval, -Int.reduceToNat, t2b, t3b, t4b, t5b, H2b, H5b]
        rw [LK_exit]
        refine ⟨_, rfl, ?_⟩
        refine ⟨rfl, ⟨v2b, v5b, ?_, ?_, ?_, ?_, ?_⟩⟩
        all_goals (first | rfl | (simp only [x_big_Of, seval, -Int.reduceToNat, t2b, t3b, t4b, t5b, H2b, H5b] <;> rfl))
    · rintro x t H e hx
      obtain ⟨l5bx, rfl⟩ : ∃ z, z = o7 := ⟨_, rfl⟩
      dsimp only at hx hh
      obtain ⟨rfl, ⟨v2bx, v5bx, t2bx, t3bx, t5bx, H2bx, H5bx⟩⟩ := hx
      obtain ⟨r13, hr13, hh⟩ := bindS hh
      cases hh
      try simp only [x_big_Of, seval, -Int.reduceToNat, t2bx, t3bx, t5bx, H2bx, H5bx, hr13]
  ·
    clear hh
    have hh := ho1
    try simp only [x_big_Of, seval, -Int.reduceToNat]
    refine tstC_br (fun hb14 => ?_) (fun hb14 => ?_)
    · replace hh := ite_t hb14 hh
      cases hh
      try simp only [x_big_Of, seval, -Int.reduceToNat]
      rw [CK_normal]
      refine ⟨_, rfl, ?_⟩
      refine ⟨0, ?_, ?_, ?_, ?_⟩
      all_goals (first | rfl | (simp only [x_big_Of, seval, -Int.reduceToNat] <;> rfl))
    · replace hh := ite_f hb14 hh
      cases hh
      try simp only [x_big_Of, seval, -Int.reduceToNat]
      rw [CK_normal]
      refine ⟨_, rfl, ?_⟩
      refine ⟨0, ?_, ?_, ?_, ?_⟩
      all_goals (first | rfl | (simp only [x_big_Of, seval, -Int.reduceToNat] <;> rfl))

theorem ok_big_Of : COk Try.prog 87 G_big_Of := COk.of (mode := .clean) tok ge_big_Of mixed Try.func87 (by kernel_rfl) ⟨by kernel_rfl, by kernel_rfl⟩ (fun _ => Nat.le_of_ble_eq_true (by kernel_rfl)) (fun x r h => m_big_Of x r h)

noncomputable def G_frac_Int := mkG (as1 (aI .i64)) (fun x : Int => frac_Int x) (fun r : TFrac => .clean (.agg [.int .i64 r.f_P.f_Sign, .sl false false r.f_P.f_Digits.length (encL (eI .i64) r.f_P.f_Digits), .int .i64 r.f_Q.f_Sign, .sl false false r.f_Q.f_Digits.length (encL (eI .i64) r.f_Q.f_Digits)]))

theorem q_frac_Int (p0 : Int) : G_frac_Int none [.int .i64 p0] = (frac_Int p0).map fun r : TFrac => (.clean (.agg [.int .i64 r.f_P.f_Sign, .sl false false r.f_P.f_Digits.length (encL (eI .i64) r.f_P.f_Digits), .int .i64 r.f_Q.f_Sign, .sl false false r.f_Q.f_Digits.length (encL (eI .i64) r.f_Q.f_Digits)]), none) := mkG_eq _ _ _ (p0)

noncomputable def g_frac_Int : Env := (Am.ext noEnv 87 false G_big_Of)

theorem ge_frac_Int : GOk Try.prog g_frac_Int := (GOk.none.add ok_big_Of false)

theorem gg_frac_Int : g_frac_Int = (Am.ext noEnv 87 false G_big_Of) := Eq.trans rfl rfl

theorem x_frac_Int : type_of% (And.intro @w <| And.intro @q_big_Of <| @gg_frac_Int) := And.intro @w <| And.intro @q_big_Of <| @gg_frac_Int

theorem m_frac_Int (p0 : Int) (r : TFrac) (hh : frac_Int p0 = some r) : vfunc .clean tab g_frac_Int FU Try.f52 none [.int .i64 p0] = some (.clean (.agg [.int .i64 r.f_P.f_Sign, .sl false false r.f_P.f_Digits.length (encL (eI .i64) r.f_P.f_Digits), .int .i64 r.f_Q.f_Sign, .sl false false r.f_Q.f_Digits.length (encL (eI .i64) r.f_Q.f_Digits)]), none) := by
  refine vfunc_of rfl Try.ntmps52 Try.results52 ?_
  unfold frac_Int at hh
  obtain ⟨r1, hr1, hh⟩ := bindS hh
  obtain ⟨r2, hr2, hh⟩ := bindS hh
  cases hh
  try simp only [x_frac_Int, seval, -Int.reduceToNat, hr1, hr2]

theorem ok_frac_Int : COk Try.prog 52 G_frac_Int := COk.of (mode := .clean) tok ge_frac_Int mixed Try.func52 (by kernel_rfl) ⟨by kernel_rfl, by kernel_rfl⟩ (fun _ => Nat.le_of_ble_eq_true (by kernel_rfl)) (fun x r h => m_frac_Int x r h)

noncomputable def G_big_Neg := mkG (as1 (aAgg eTBig)) (fun x : TBig => big_Neg x) (fun r : TBig => .clean (.agg [.int .i64 r.f_Sign, .sl false false r.f_Digits.length (encL (eI .i64) r.f_Digits)]))

theorem q_big_Neg (p0_0 : Int) (p0_1 : (List Int)) : G_big_Neg none [.agg [.int .i64 p0_0, .sl false false p0_1.length (encL (eI .i64) p0_1)]] = (big_Neg (TBig.mk p0_0 p0_1)).map fun r : TBig => (.clean (.agg [.int .i64 r.f_Sign, .sl false false r.f_Digits.length (encL (eI .i64) r.f_Digits)]), none) := mkG_eq _ _ _ ((TBig.mk p0_0 p0_1))

noncomputable def g_big_Neg : Env := (Am.ext (Am.ext (Am.ext noEnv 58 false G_big_Right) 90 false G_big_signed) 91 false G_slices_Clone)

theorem ge_big_Neg : GOk Try.prog g_big_Neg := (((GOk.none.add ok_big_Right false).add ok_big_signed false).add ok_slices_Clone false)

theorem gg_big_Neg : g_big_Neg = (Am.ext (Am.ext (Am.ext noEnv 58 false G_big_Right) 90 false G_big_signed) 91 false G_slices_Clone) := Eq.trans rfl rfl

theorem x_big_Neg : type_of% (And.intro @w <| And.intro @q_big_Right <| And.intro @q_big_signed <| And.intro @q_slices_Clone <| @gg_big_Neg) := And.intro @w <| And.intro @q_big_Right <| And.intro @q_big_signed <| And.intro @q_slices_Clone <| @gg_big_Neg

theorem m_big_Neg (p0 : TBig) (r : TBig) (hh : big_Neg p0 = some r) : vfunc .clean tab g_big_Neg FU Try.f55 none [.agg [.int .i64 p0.f_Sign, .sl false false p0.f_Digits.length (encL (eI .i64) p0.f_Digits)]] = some (.clean (.agg [.int .i64 r.f_Sign, .sl false false r.f_Digits.length (encL (eI .i64) r.f_Digits)]), none) := by
  refine vfunc_of rfl Try.ntmps55 Try.results55 ?_
  unfold big_Neg at hh
  obtain ⟨r1, hr1, hh⟩ := bindS hh
  try simp only [x_big_Neg, seval, -Int.reduceToNat, hr1]
  refine tstC_br (fun hb2 => ?_) (fun hb2 => ?_)
  · replace hh := ite_t hb2 hh
    cases hh
    try simp only [x_big_Neg, seval, -Int.reduceToNat, hr1]
  · replace hh := ite_f hb2 hh
    obtain ⟨r3, hr3, hh⟩ := bindS hh
    obtain ⟨r4, hr4, hh⟩ := bindS hh
    try simp only [x_big_Neg, seval, -Int.reduceToNat, hr1, hr3, hr4]
    refine dyn_ok (by kernel_rfl) ?_
    cases hh
    try simp only [x_big_Neg, seval, -Int.reduceToNat, hr1, hr3, hr4]

theorem ok_big_Neg : COk Try.prog 55 G_big_Neg := COk.of (mode := .clean) tok ge_big_Neg mixed Try.func55 (by kernel_rfl) ⟨by kernel_rfl, by kernel_rfl⟩ (fun _ => Nat.le_of_ble_eq_true (by kernel_rfl)) (fun x r h => m_big_Neg x r h)

noncomputable def G_big_Mul := mkG (asC (aAgg eTBig) (as1 (aAgg eTBig))) (fun x : TBig × TBig => big_Mul x.1 x.2) (fun r : TBig × Int => .clean (.tup [.agg [.int .i64 r.1.f_Sign, .sl false false r.1.f_Digits.length (encL (eI .i64) r.1.f_Digits)], .int .i64 r.2]))

theorem q_big_Mul (p0_0 : Int) (p0_1 : (List Int)) (p1_0 : Int) (p1_1 : (List Int)) : G_big_Mul none [.agg [.int .i64 p0_0, .sl false false p0_1.length (encL (eI .i64) p0_1)], .agg [.int .i64 p1_0, .sl false false p1_1.length (encL (eI .i64) p1_1)]] = (big_Mul (TBig.mk p0_0 p0_1) (TBig.mk p1_0 p1_1)).map fun r : TBig × Int => (.clean (.tup [.agg [.int .i64 r.1.f_Sign, .sl false false r.1.f_Digits.length (encL (eI .i64) r.1.f_Digits)], .int .i64 r.2]), none) := mkG_eq _ _ _ ((TBig.mk p0_0 p0_1), (TBig.mk p1_0 p1_1))

noncomputable def g_big_Mul : Env := (Am.ext (Am.ext (Am.ext (Am.ext noEnv 58 false G_big_Right) 90 false G_big_signed) 92 false G_big_checked) 117 false G_big_mul)

theorem ge_big_Mul : GOk Try.prog g_big_Mul := ((((GOk.none.add ok_big_Right false).add ok_big_signed false).add ok_big_checked false).add ok_big_mul false)

theorem gg_big_Mul : g_big_Mul = (Am.ext (Am.ext (Am.ext (Am.ext noEnv 58 false G_big_Right) 90 false G_big_signed) 92 false G_big_checked) 117 false G_big_mul) := Eq.trans rfl rfl

theorem x_big_Mul : type_of% (And.intro @w <| And.intro @q_big_Right <| And.intro @q_big_signed <| And.intro @q_big_checked <| And.intro @q_big_mul <| @gg_big_Mul) := And.intro @w <| And.intro @q_big_Right <| And.intro @q_big_signed <| And.intro @q_big_checked <| And.intro @q_big_mul <| @gg_big_Mul

theorem m_big_Mul (p0 : TBig) (p1 : TBig) (r : TBig × Int) (hh : big_Mul p0 p1 = some r) : vfunc .clean tab g_big_Mul FU Try.f99 none [.agg [.int .i64 p0.f_Sign, .sl false false p0.f_Digits.length (encL (eI .i64) p0.f_Digits)], .agg [.int .i64 p1.f_Sign, .sl false false p1.f_Digits.length (encL (eI .i64) p1.f_Digits)]] = some (.clean (.tup [.agg [.int .i64 r.1.f_Sign, .sl false false r.1.f_Digits.length (encL (eI .i64) r.1.f_Digits)], .int .i64 r.2]), none) := by
  refine vfunc_of rfl Try.ntmps99 Try.results99 ?_
  unfold big_Mul at hh
  obtain ⟨r1, hr1, hh⟩ := bindS hh
  try simp only [x_big_Mul, seval, -Int.reduceToNat, hr1]
  obtain ⟨o2, ho2, hh⟩ := bindS hh
  refine tstO_cut 0 (fun s t H e => match s with | s13j1 => ∃ v2j1 : Nat, ∃ v3j1 : Nat, ∃ v4j1 : Nat, t 2 = .ptr 2 v2j1 0 ∧ t 3 = .ptr 3 v3j1 0 ∧ t 4 = .ptr 4 v4j1 0 ∧ t 13 = .bool s13j1 ∧ H 2 = some ⟨v2j1, 32, [.int .i64 p0.f_Sign, .sl false false p0.f_Digits.length (encL (eI .i64) p0.f_Digits)], false, false⟩ ∧ H 3 = some ⟨v3j1, 32, [.int .i64 p1.f_Sign, .sl false false p1.f_Digits.length (encL (eI .i64) p1.f_Digits)], false, false⟩ ∧ H 4 = some ⟨v4j1, 32, [.int .i64 0, .sl true true 0 []], false, false⟩) (fun s => s = o2) ?_ ?_
  · rintro s13j1 t H e ⟨v2j1, v3j1, v4j1, t2j1, t3j1, t4j1, t13j1, H2j1, H3j1, H4j1⟩ rfl
    try dsimp only at hh
    try simp only [x_big_Mul, seval, -Int.reduceToNat, hr1, t2j1, t3j1, t4j1, t13j1, H2j1, H3j1, H4j1]
    refine tstC_br (fun hb3 => ?_) (fun hb3 => ?_)
    · replace hh := ite_t hb3 hh
      have i4 := q_big_checked false 0 ([])
      simp only [encL_cons, vmz, List.length_cons, List.length_nil, Nat.zero_add, Nat.reduceAdd, List.length_set] at i4
      obtain ⟨r5, hr5, hh⟩ := bindS hh
      cases hh
      try simp only [x_big_Mul, seval, -Int.reduceToNat, hr1, t2j1, t3j1, t4j1, t13j1, H2j1, H3j1, H4j1, i4, hr5]
    · replace hh := ite_f hb3 hh
      obtain ⟨r6, hr6, hh⟩ := bindS hh
      obtain ⟨r7, hr7, hh⟩ := bindS hh
      obtain ⟨r8, hr8, hh⟩ := bindS hh
      try simp only [x_big_Mul, seval, -Int.reduceToNat, hr1, t2j1, t3j1, t4j1, t13j1, H2j1, H3j1, H4j1, hr6, hr7, hr8]
      refine dyn_ok (by kernel_rfl) ?_
      cases hh
      try simp only [x_big_Mul, seval, -Int.reduceToNat, hr1, t2j1, t3j1, t4j1, t13j1, H2j1, H3j1, H4j1, hr6, hr7, hr8]
  ·
    clear hh
    have hh := ho2
    try simp only [x_big_Mul, seval, -Int.reduceToNat, hr1]
    refine tstO_br' (fun hb9 => ?_) (fun hb9 => ?_)
    · replace hh := ite_t hb9 hh
      cases hh
      try simp only [x_big_Mul, seval, -Int.reduceToNat, hr1]
      rw [CK_normal]
      refine ⟨_, rfl, ?_⟩
      refine ⟨0, 0, 0, ?_, ?_, ?_, ?_, ?_, ?_, ?_⟩
      all_goals (first | rfl | (simp only [x_big_Mul, seval, -Int.reduceToNat, hr1] <;> rfl))
    · replace hh := ite_f hb9 hh
      obtain ⟨r10, hr10, hh⟩ := bindS hh
      cases hh
      try simp only [x_big_Mul, seval, -Int.reduceToNat, hr1, hr10]
      rw [CK_normal]
      refine ⟨_, rfl, ?_⟩
      refine ⟨0, 0, 0, ?_, ?_, ?_, ?_, ?_, ?_, ?_⟩
      all_goals (first | rfl | (simp only [x_big_Mul, seval, -Int.reduceToNat, hr1, hr10] <;> rfl))

theorem ok_big_Mul : COk Try.prog 99 G_big_Mul := COk.of (mode := .clean) tok ge_big_Mul mixed Try.func99 (by kernel_rfl) ⟨by kernel_rfl, by kernel_rfl⟩ (fun _ => Nat.le_of_ble_eq_true (by kernel_rfl)) (fun x r h => m_big_Mul x.1 x.2 r h)

noncomputable def G_frac_times := mkG (asC (aAgg eTBig) (as1 (aAgg eTBig))) (fun x : TBig × TBig => frac_times x.1 x.2) (fun r : TBig => .clean (.agg [.int .i64 r.f_Sign, .sl false false r.f_Digits.length (encL (eI .i64) r.f_Digits)]))

theorem q_frac_times (p0_0 : Int) (p0_1 : (List Int)) (p1_0 : Int) (p1_1 : (List Int)) : G_frac_times none [.agg [.int .i64 p0_0, .sl false false p0_1.length (encL (eI .i64) p0_1)], .agg [.int .i64 p1_0, .sl false false p1_1.length (encL (eI .i64) p1_1)]] = (frac_times (TBig.mk p0_0 p0_1) (TBig.mk p1_0 p1_1)).map fun r : TBig => (.clean (.agg [.int .i64 r.f_Sign, .sl false false r.f_Digits.length (encL (eI .i64) r.f_Digits)]), none) := mkG_eq _ _ _ ((TBig.mk p0_0 p0_1), (TBig.mk p1_0 p1_1))

noncomputable def g_frac_times : Env := (Am.ext noEnv 99 false G_big_Mul)

theorem ge_frac_times : GOk Try.prog g_frac_times := (GOk.none.add ok_big_Mul false)

theorem gg_frac_times : g_frac_times = (Am.ext noEnv 99 false G_big_Mul) := Eq.trans rfl rfl

theorem x_frac_times : type_of% (And.intro @w <| And.intro @q_big_Mul <| @gg_frac_times) := And.intro @w <| And.intro @q_big_Mul <| @gg_frac_times

theorem m_frac_times (p0 : TBig) (p1 : TBig) (r : TBig) (hh : frac_times p0 p1 = some r) : vfunc .clean tab g_frac_times FU Try.f62 none [.agg [.int .i64 p0.f_Sign, .sl false false p0.f_Digits.length (encL (eI .i64) p0.f_Digits)], .agg [.int .i64 p1.f_Sign, .sl false false p1.f_Digits.length (encL (eI .i64) p1.f_Digits)]] = some (.clean (.agg [.int .i64 r.f_Sign, .sl false false r.f_Digits.length (encL (eI .i64) r.f_Digits)]), none) := by
  refine vfunc_of rfl Try.ntmps62 Try.results62 ?_
  unfold frac_times at hh
  obtain ⟨r1, hr1, hh⟩ := bindS hh
  cases hh
  try simp only [x_frac_times, seval, -Int.reduceToNat, hr1]

theorem ok_frac_times : COk Try.prog 62 G_frac_times := COk.of (mode := .clean) tok ge_frac_times mixed Try.func62 (by kernel_rfl) ⟨by kernel_rfl, by kernel_rfl⟩ (fun _ => Nat.le_of_ble_eq_true (by kernel_rfl)) (fun x r h => m_frac_times x.1 x.2 r h)

noncomputable def G_cmp_Or := mkG (as1 (aSl (eI .i64))) (fun x : (List Int) => cmp_Or x) (fun r : Int => .clean (.int .i64 r))

theorem q_cmp_Or (p0 : (List Int)) : G_cmp_Or none [.sl false false p0.length (encL (eI .i64) p0)] = (cmp_Or p0).map fun r : Int => (.clean (.int .i64 r), none) := mkG_eq _ _ _ (p0)

theorem m_cmp_Or (p0 : (List Int)) (r : Int) (hh : cmp_Or p0 = some r) : vfunc .clean tab noEnv FU Try.f95 none [.sl false false p0.length (encL (eI .i64) p0)] = some (.clean (.int .i64 r), none) := by
  refine vfunc_of rfl Try.ntmps95 Try.results95 ?_
  unfold cmp_Or at hh
  try simp only [w, seval, -Int.reduceToNat]
  obtain ⟨o4, ho4, hh⟩ := bindS hh
  refine runLoop_sim (fun s t H e => match s with | s8a => t 3 = .int .i64 0 ∧ t 6 = .sl false false p0.length (encL (eI .i64) p0) ∧ t 7 = .int .i64 (p0.length : Int) ∧ t 8 = .int .i64 s8a) (fun o x t H e => match o with | (.inl _) => x = .exit 0 ∧ t 3 = .int .i64 0 | (.inr r) => x = .ret ∧ endM .clean tab none [.tmp 2] ⟨t, H, e⟩ = some (.clean (.int .i64 r), none)) ho4 ?_ ?_ ?_
  ·
    refine ⟨?_, ?_, ?_, ?_⟩
    all_goals (first | rfl | (simp only [w, seval, -Int.reduceToNat] <;> rfl))
  · rintro s8a t H e ⟨t3a, t6a, t7a, t8a⟩ c hh
    simp only [cmp_Or_L1] at hh
    try simp only [w, seval, -Int.reduceToNat, t3a, t6a, t7a, t8a]
    refine tstC_br (fun hb5 => ?_) (fun hb5 => ?_)
    · replace hh := ite_t hb5 hh
      obtain ⟨x6, hx6, hh⟩ := bindS hh
      have bx6 := idx_bd hx6
      have ax6 := idx_enc (eI .i64) hx6
      have fx6 := idx_fit (eI .i64) hx6
      simp only [vmz] at ax6 fx6
      skip
      try simp only [w, seval, -Int.reduceToNat, t3a, t6a, t7a, t8a, bx6, ax6, fx6]
      refine tstC_br (fun hb7 => ?_) (fun hb7 => ?_)
      · replace hh := ite_t hb7 hh
        cases hh
        try simp only [w, seval, -Int.reduceToNat, t3a, t6a, t7a, t8a, bx6, ax6, fx6]
        rw [LK_ret]
        refine ⟨_, rfl, ?_⟩
        refine ⟨rfl, ?_⟩
        try simp only [w, seval, -Int.reduceToNat, t3a, t6a, t7a, t8a, bx6, ax6, fx6]
      · replace hh := ite_f hb7 hh
        cases hh
        try simp only [w, seval, -Int.reduceToNat, t3a, t6a, t7a, t8a, bx6, ax6, fx6]
        rw [LK_normal]
        refine ⟨_, rfl, ?_⟩
        refine ⟨?_, ?_, ?_, ?_⟩
        all_goals (first | rfl | (simp only [w, seval, -Int.reduceToNat, t3a, t6a, t7a, t8a, bx6, ax6, fx6] <;> rfl))
    · replace hh := ite_f hb5 hh
      cases hh
      try simp only [w, seval, -Int.reduceToNat, t3a, t6a, t7a, t8a]
      rw [LK_exit]
      refine ⟨_, rfl, ?_⟩
      refine ⟨rfl, ?_⟩
      all_goals (first | rfl | (simp only [w, seval, -Int.reduceToNat, t3a, t6a, t7a, t8a] <;> rfl))
  · rintro x t H e hx
    rcases o4 with _ | ra
    ·
      dsimp only at hx hh
      obtain ⟨rfl, t3ax⟩ := hx
      cases hh
      try simp only [w, seval, -Int.reduceToNat, t3ax]
    ·
      dsimp only at hx hh
      obtain ⟨rfl, hE⟩ := hx
      cases hh
      try simp only [runW_pass_ret, runW_pass_exit, runW_blk_ret, runW_nil, endW_ret]
      exact hE

theorem ok_cmp_Or : COk Try.prog 95 G_cmp_Or := COk.of (mode := .clean) tok GOk.none mixed Try.func95 (by kernel_rfl) ⟨by kernel_rfl, by kernel_rfl⟩ (fun _ => Nat.le_of_ble_eq_true (by kernel_rfl)) (fun x r h => m_cmp_Or x r h)

noncomputable def G_big_add := mkG (asC (aSl (eI .i64)) (as1 (aSl (eI .i64)))) (fun x : (List Int) × (List Int) => big_add x.1 x.2) (fun r : (List Int) => .clean (.sl false false r.length (encL (eI .i64) r)))

theorem q_big_add (p0 : (List Int)) (p1 : (List Int)) : G_big_add none [.sl false false p0.length (encL (eI .i64) p0), .sl false false p1.length (encL (eI .i64) p1)] = (big_add p0 p1).map fun r : (List Int) => (.clean (.sl false false r.length (encL (eI .i64) r)), none) := mkG_eq _ _ _ (p0, p1)

noncomputable def g_big_add : Env := (Am.ext noEnv 115 false G_big_trim)

theorem ge_big_add : GOk Try.prog g_big_add := (GOk.none.add ok_big_trim false)

theorem gg_big_add : g_big_add = (Am.ext noEnv 115 false G_big_trim) := Eq.trans rfl rfl

theorem x_big_add : type_of% (And.intro @w <| And.intro @q_big_trim <| @gg_big_add) := And.intro @w <| And.intro @q_big_trim <| @gg_big_add

theorem m_big_add (p0 : (List Int)) (p1 : (List Int)) (r : (List Int)) (hh : big_add p0 p1 = some r) : vfunc .clean tab g_big_add FU Try.f96 none [.sl false false p0.length (encL (eI .i64) p0), .sl false false p1.length (encL (eI .i64) p1)] = some (.clean (.sl false false r.length (encL (eI .i64) r)), none) := by
  refine vfunc_of rfl Try.ntmps96 Try.results96 ?_
  unfold big_add at hh
  try simp only [x_big_add, seval, -Int.reduceToNat]
  obtain ⟨o1, ho1, hh⟩ := bindS hh
  refine tstC_cut 0 (fun s t H e => match s with | (s0j1, s1j1) => t 0 = .sl false false s0j1.length (encL (eI .i64) s0j1) ∧ t 1 = .sl false false s1j1.length (encL (eI .i64) s1j1)) (fun s => s = o1) ?_ ?_
  · rintro ⟨s0j1, s1j1⟩ t H e ⟨t0j1, t1j1⟩ rfl
    try dsimp only at hh
    obtain ⟨x2, hx2, hh⟩ := bindS hh
    obtain ⟨q3a, q3b, q3c, q3d, q3e⟩ := mk_one (eI .i64) hx2
    simp only [vmz] at q3d
    try simp only [x_big_add, seval, -Int.reduceToNat, t0j1, t1j1, q3a, q3b, q3c, q3d, q3e]
    obtain ⟨o13, ho13, hh⟩ := bindS hh
    refine runLoop_sim (fun s t H e => match s with | (s6b, s22b, l5b) => ∃ v5b : Nat, t 0 = .sl false false s0j1.length (encL (eI .i64) s0j1) ∧ t 1 = .sl false false s1j1.length (encL (eI .i64) s1j1) ∧ t 5 = .buf 5 v5b 1 0 (l5b).length ∧ t 6 = .int .i64 s6b ∧ t 20 = .sl false false s0j1.length (encL (eI .i64) s0j1) ∧ t 21 = .int .i64 (s0j1.length : Int) ∧ t 22 = .int .i64 s22b ∧ H 5 = some ⟨v5b, 3, encL (eI .i64) l5b, false, true⟩) (fun o x t H e => match o with | (s6bx, l5bx) => x = .exit 0 ∧ ∃ v5bx : Nat, t 0 = .sl false false s0j1.length (encL (eI .i64) s0j1) ∧ t 5 = .buf 5 v5bx 1 0 (l5bx).length ∧ t 6 = .int .i64 s6bx ∧ H 5 = some ⟨v5bx, 3, encL (eI .i64) l5bx, false, true⟩) ho13 ?_ ?_ ?_
    ·
      refine ⟨e, ?_, ?_, ?_, ?_, ?_, ?_, ?_, ?_⟩
      all_goals (first | rfl | (simp only [x_big_add, seval, -Int.reduceToNat, t0j1, t1j1, q3a, q3b, q3c, q3d, q3e] <;> rfl))
    · rintro ⟨s6b, s22b, l5b⟩ t H e ⟨v5b, t0b, t1b, t5b, t6b, t20b, t21b, t22b, H5b⟩ c hh
      simp only [big_add_L2] at hh
      try simp only [x_big_add, seval, -Int.reduceToNat, q3a, q3b, q3c, q3d, q3e, t0b, t1b, t5b, t6b, t20b, t21b, t22b, H5b]
      refine tstC_br (fun hb14 => ?_) (fun hb14 => ?_)
      · replace hh := ite_t hb14 hh
        obtain ⟨x15, hx15, hh⟩ := bindS hh
        have bx15 := idx_bd hx15
        have ax15 := idx_enc (eI .i64) hx15
        have fx15 := idx_fit (eI .i64) hx15
        simp only [vmz] at ax15 fx15
        skip
        try simp only [x_big_add, seval, -Int.reduceToNat, q3a, q3b, q3c, q3d, q3e, t0b, t1b, t5b, t6b, t20b, t21b, t22b, H5b, bx15, ax15, fx15]
        obtain ⟨o16, ho16, hh⟩ := bindS hh
        refine tstC_cut 0 (fun s t H e => match s with | s6j4 => ∃ v5j4 : Nat, t 0 = .sl false false s0j1.length (encL (eI .i64) s0j1) ∧ t 1 = .sl false false s1j1.length (encL (eI .i64) s1j1) ∧ t 5 = .buf 5 v5j4 1 0 (l5b).length ∧ t 6 = .int .i64 s6j4 ∧ t 7 = .int .i64 s22b ∧ t 20 = .sl false false s0j1.length (encL (eI .i64) s0j1) ∧ t 21 = .int .i64 (s0j1.length : Int) ∧ t 22 = .int .i64 s22b ∧ H 5 = some ⟨v5j4, 3, encL (eI .i64) l5b, false, true⟩) (fun s => s = o16) ?_ ?_
        · rintro s6j4 t H e ⟨v5j4, t0j4, t1j4, t5j4, t6j4, t7j4, t20j4, t21j4, t22j4, H5j4⟩ rfl
          try dsimp only at hh
          obtain ⟨x17, hx17, hh⟩ := bindS hh
          have bx17 := idx_bd hx17
          have ax17 := idx_enc (eI .i64) hx17
          have fx17 := idx_fit (eI .i64) hx17
          simp only [vmz] at ax17 fx17
          skip
          have p18 := put_enc (eI .i64) (x' := bitI .and .i64 s6j4 1048575) (fo := 0) (cs := [.int .i64 (bitI .and .i64 s6j4 1048575)]) hx17 rfl (Nat.le_of_ble_eq_true rfl)
          simp only [vmz, Nat.add_zero] at p18
          have up18 := p18
          simp only [putCells, List.length_cons, List.length_nil, Nat.zero_add, Nat.reduceAdd] at up18
          obtain ⟨x19, hx19, hh⟩ := bindS hh
          obtain ⟨q20a, q20b⟩ := shrI_ok hx19
          cases hh
          try simp only [x_big_add, seval, -Int.reduceToNat, q3a, q3b, q3c, q3d, q3e, bx15, ax15, fx15, t0j4, t1j4, t5j4, t6j4, t7j4, t20j4, t21j4, t22j4, H5j4, bx17, ax17, fx17, p18, up18, q20a, q20b]
          rw [LK_normal]
          refine ⟨_, rfl, ?_⟩
          refine ⟨v5j4, ?_, ?_, ?_, ?_, ?_, ?_, ?_, ?_⟩
          all_goals (first | rfl | (simp only [x_big_add, seval, -Int.reduceToNat, q3a, q3b, q3c, q3d, q3e, bx15, ax15, fx15, t0j4, t1j4, t5j4, t6j4, t7j4, t20j4, t21j4, t22j4, H5j4, bx17, ax17, fx17, p18, up18, q20a, q20b] <;> rfl))
        ·
          clear hh
          have hh := ho16
          try simp only [x_big_add, seval, -Int.reduceToNat, q3a, q3b, q3c, q3d, q3e, t0b, t1b, t5b, t6b, t20b, t21b, t22b, H5b, bx15, ax15, fx15]
          refine tstC_br (fun hb21 => ?_) (fun hb21 => ?_)
          · replace hh := ite_t hb21 hh
            obtain ⟨x22, hx22, hh⟩ := bindS hh
            have bx22 := idx_bd hx22
            have ax22 := idx_enc (eI .i64) hx22
            have fx22 := idx_fit (eI .i64) hx22
            simp only [vmz] at ax22 fx22
            skip
            cases hh
            try simp only [x_big_add, seval, -Int.reduceToNat, q3a, q3b, q3c, q3d, q3e, t0b, t1b, t5b, t6b, t20b, t21b, t22b, H5b, bx15, ax15, fx15, bx22, ax22, fx22]
            rw [CK_normal]
            refine ⟨_, rfl, ?_⟩
            refine ⟨v5b, ?_, ?_, ?_, ?_, ?_, ?_, ?_, ?_, ?_⟩
            all_goals (first | rfl | (simp only [x_big_add, seval, -Int.reduceToNat, q3a, q3b, q3c, q3d, q3e, t0b, t1b, t5b, t6b, t20b, t21b, t22b, H5b, bx15, ax15, fx15, bx22, ax22, fx22] <;> rfl))
          · replace hh := ite_f hb21 hh
            cases hh
            try simp only [x_big_add, seval, -Int.reduceToNat, q3a, q3b, q3c, q3d, q3e, t0b, t1b, t5b, t6b, t20b, t21b, t22b, H5b, bx15, ax15, fx15]
            rw [CK_normal]
            refine ⟨_, rfl, ?_⟩
            refine ⟨v5b, ?_, ?_, ?_, ?_, ?_, ?_, ?_, ?_, ?_⟩
            all_goals (first | rfl | (simp only [x_big_add, seval, -Int.reduceToNat, q3a, q3b, q3c, q3d, q3e, t0b, t1b, t5b, t6b, t20b, t21b, t22b, H5b, bx15, ax15, fx15] <;> rfl))
      · replace hh := ite_f hb14 hh
        cases hh
        try simp only [x_big_add, seval, -Int.reduceToNat, q3a, q3b, q3c, q3d, q3e, t0b, t1b, t5b, t6b, t20b, t21b, t22b, H5b]
        rw [LK_exit]
        refine ⟨_, rfl, ?_⟩
        refine ⟨rfl, ⟨v5b, ?_, ?_, ?_, ?_⟩⟩
        all_goals (first | rfl | (simp only [x_big_add, seval, -Int.reduceToNat, q3a, q3b, q3c, q3d, q3e, t0b, t1b, t5b, t6b, t20b, t21b, t22b, H5b] <;> rfl))
    · rintro x t H e hx
      rcases o13 with ⟨s6bx, l5bx⟩
      dsimp only at hx hh
      obtain ⟨rfl, ⟨v5bx, t0bx, t5bx, t6bx, H5bx⟩⟩ := hx
      obtain ⟨x23, hx23, hh⟩ := bindS hh
      have bx23 := idx_bd hx23
      have ax23 := idx_enc (eI .i64) hx23
      have fx23 := idx_fit (eI .i64) hx23
      simp only [vmz] at ax23 fx23
      skip
      have p24 := put_enc (eI .i64) (x' := s6bx) (fo := 0) (cs := [.int .i64 s6bx]) hx23 rfl (Nat.le_of_ble_eq_true rfl)
      simp only [vmz, Nat.add_zero] at p24
      have up24 := p24
      simp only [putCells, List.length_cons, List.length_nil, Nat.zero_add, Nat.reduceAdd] at up24
      have i25 := q_big_trim (l5bx.set ((s0j1.length : Int)).toNat s6bx)
      simp only [encL_cons, vmz, List.length_cons, List.length_nil, Nat.zero_add, Nat.reduceAdd, List.length_set] at i25
      obtain ⟨r26, hr26, hh⟩ := bindS hh
      cases hh
      try simp only [x_big_add, seval, -Int.reduceToNat, q3a, q3b, q3c, q3d, q3e, t0bx, t5bx, t6bx, H5bx, bx23, ax23, fx23, p24, up24, i25, hr26]
  ·
    clear hh
    have hh := ho1
    try simp only [x_big_add, seval, -Int.reduceToNat]
    refine tstC_br (fun hb27 => ?_) (fun hb27 => ?_)
    · replace hh := ite_t hb27 hh
      cases hh
      try simp only [x_big_add, seval, -Int.reduceToNat]
      rw [CK_normal]
      refine ⟨_, rfl, ?_⟩
      refine ⟨?_, ?_⟩
      all_goals (first | rfl | (simp only [x_big_add, seval, -Int.reduceToNat] <;> rfl))
    · replace hh := ite_f hb27 hh
      cases hh
      try simp only [x_big_add, seval, -Int.reduceToNat]
      rw [CK_normal]
      refine ⟨_, rfl, ?_⟩
      refine ⟨?_, ?_⟩
      all_goals (first | rfl | (simp only [x_big_add, seval, -Int.reduceToNat] <;> rfl))

theorem ok_big_add : COk Try.prog 96 G_big_add := COk.of (mode := .clean) tok ge_big_add mixed Try.func96 (by kernel_rfl) ⟨by kernel_rfl, by kernel_rfl⟩ (fun _ => Nat.le_of_ble_eq_true (by kernel_rfl)) (fun x r h => m_big_add x.1 x.2 r h)

noncomputable def G_big_sub := mkG (asC (aSl (eI .i64)) (as1 (aSl (eI .i64)))) (fun x : (List Int) × (List Int) => big_sub x.1 x.2) (fun r : (List Int) => .clean (.sl false false r.length (encL (eI .i64) r)))

theorem q_big_sub (p0 : (List Int)) (p1 : (List Int)) : G_big_sub none [.sl false false p0.length (encL (eI .i64) p0), .sl false false p1.length (encL (eI .i64) p1)] = (big_sub p0 p1).map fun r : (List Int) => (.clean (.sl false false r.length (encL (eI .i64) r)), none) := mkG_eq _ _ _ (p0, p1)

noncomputable def g_big_sub : Env := (Am.ext (Am.ext noEnv 91 false G_slices_Clone) 115 false G_big_trim)

theorem ge_big_sub : GOk Try.prog g_big_sub := ((GOk.none.add ok_slices_Clone false).add ok_big_trim false)

theorem gg_big_sub : g_big_sub = (Am.ext (Am.ext noEnv 91 false G_slices_Clone) 115 false G_big_trim) := Eq.trans rfl rfl

theorem x_big_sub : type_of% (And.intro @w <| And.intro @q_slices_Clone <| And.intro @q_big_trim <| @gg_big_sub) := And.intro @w <| And.intro @q_slices_Clone <| And.intro @q_big_trim <| @gg_big_sub

theorem m_big_sub (p0 : (List Int)) (p1 : (List Int)) (r : (List Int)) (hh : big_sub p0 p1 = some r) : vfunc .clean tab g_big_sub FU Try.f98 none [.sl false false p0.length (encL (eI .i64) p0), .sl false false p1.length (encL (eI .i64) p1)] = some (.clean (.sl false false r.length (encL (eI .i64) r)), none) := by
  refine vfunc_of rfl Try.ntmps98 Try.results98 ?_
  unfold big_sub at hh
  obtain ⟨r1, hr1, hh⟩ := bindS hh
  try simp only [x_big_sub, seval, -Int.reduceToNat, hr1]
  obtain ⟨o10, ho10, hh⟩ := bindS hh
  refine runLoop_sim (fun s t H e => match s with | (s6a, s13a, l5a) => ∃ v5a : Nat, t 1 = .sl false false p1.length (encL (eI .i64) p1) ∧ t 5 = .buf 5 v5a 1 0 (l5a).length ∧ t 6 = .int .i64 s6a ∧ t 12 = .int .i64 ((r1).length : Int) ∧ t 13 = .int .i64 s13a ∧ H 5 = some ⟨v5a, 3, encL (eI .i64) l5a, false, true⟩) (fun o x t H e => match o with | l5ax => x = .exit 0 ∧ ∃ v5ax : Nat, t 5 = .buf 5 v5ax 1 0 (l5ax).length ∧ H 5 = some ⟨v5ax, 3, encL (eI .i64) l5ax, false, true⟩) ho10 ?_ ?_ ?_
  ·
    refine ⟨1, ?_, ?_, ?_, ?_, ?_, ?_⟩
    all_goals (first | rfl | (simp only [x_big_sub, seval, -Int.reduceToNat, hr1] <;> rfl))
  · rintro ⟨s6a, s13a, l5a⟩ t H e ⟨v5a, t1a, t5a, t6a, t12a, t13a, H5a⟩ c hh
    simp only [big_sub_L1] at hh
    try simp only [x_big_sub, seval, -Int.reduceToNat, hr1, t1a, t5a, t6a, t12a, t13a, H5a]
    refine tstC_br (fun hb11 => ?_) (fun hb11 => ?_)
    · replace hh := ite_t hb11 hh
      obtain ⟨x12, hx12, hh⟩ := bindS hh
      have bx12 := idx_bd hx12
      have ax12 := idx_enc (eI .i64) hx12
      have fx12 := idx_fit (eI .i64) hx12
      simp only [vmz] at ax12 fx12
      skip
      try simp only [x_big_sub, seval, -Int.reduceToNat, hr1, t1a, t5a, t6a, t12a, t13a, H5a, bx12, ax12, fx12]
      obtain ⟨o13, ho13, hh⟩ := bindS hh
      refine tstC_cut 0 (fun s t H e => match s with | s8j3 => ∃ v5j3 : Nat, t 1 = .sl false false p1.length (encL (eI .i64) p1) ∧ t 5 = .buf 5 v5j3 1 0 (l5a).length ∧ t 7 = .int .i64 s13a ∧ t 8 = .int .i64 s8j3 ∧ t 12 = .int .i64 ((r1).length : Int) ∧ t 13 = .int .i64 s13a ∧ H 5 = some ⟨v5j3, 3, encL (eI .i64) l5a, false, true⟩) (fun s => s = o13) ?_ ?_
      · rintro s8j3 t H e ⟨v5j3, t1j3, t5j3, t7j3, t8j3, t12j3, t13j3, H5j3⟩ rfl
        try dsimp only at hh
        obtain ⟨x14, hx14, hh⟩ := bindS hh
        obtain ⟨q15a, q15b⟩ := shrI_ok hx14
        have bx12 := idx_bd hx12
        have ax12 := idx_enc (eI .i64) hx12
        have fx12 := idx_fit (eI .i64) hx12
        simp only [vmz] at ax12 fx12
        skip
        have p16 := put_enc (eI .i64) (x' := bitI .and .i64 s8j3 1048575) (fo := 0) (cs := [.int .i64 (bitI .and .i64 s8j3 1048575)]) hx12 rfl (Nat.le_of_ble_eq_true rfl)
        simp only [vmz, Nat.add_zero] at p16
        have up16 := p16
        simp only [putCells, List.length_cons, List.length_nil, Nat.zero_add, Nat.reduceAdd] at up16
        cases hh
        try simp only [x_big_sub, seval, -Int.reduceToNat, hr1, bx12, ax12, fx12, t1j3, t5j3, t7j3, t8j3, t12j3, t13j3, H5j3, q15a, q15b, bx12, ax12, fx12, p16, up16]
        rw [LK_normal]
        refine ⟨_, rfl, ?_⟩
        refine ⟨v5j3, ?_, ?_, ?_, ?_, ?_, ?_⟩
        all_goals (first | rfl | (simp only [x_big_sub, seval, -Int.reduceToNat, hr1, bx12, ax12, fx12, t1j3, t5j3, t7j3, t8j3, t12j3, t13j3, H5j3, q15a, q15b, bx12, ax12, fx12, p16, up16] <;> rfl))
      ·
        clear hh
        have hh := ho13
        try simp only [x_big_sub, seval, -Int.reduceToNat, hr1, t1a, t5a, t6a, t12a, t13a, H5a, bx12, ax12, fx12]
        refine tstC_br (fun hb17 => ?_) (fun hb17 => ?_)
        · replace hh := ite_t hb17 hh
          obtain ⟨x18, hx18, hh⟩ := bindS hh
          have bx18 := idx_bd hx18
          have ax18 := idx_enc (eI .i64) hx18
          have fx18 := idx_fit (eI .i64) hx18
          simp only [vmz] at ax18 fx18
          skip
          cases hh
          try simp only [x_big_sub, seval, -Int.reduceToNat, hr1, t1a, t5a, t6a, t12a, t13a, H5a, bx12, ax12, fx12, bx18, ax18, fx18]
          rw [CK_normal]
          refine ⟨_, rfl, ?_⟩
          refine ⟨v5a, ?_, ?_, ?_, ?_, ?_, ?_, ?_⟩
          all_goals (first | rfl | (simp only [x_big_sub, seval, -Int.reduceToNat, hr1, t1a, t5a, t6a, t12a, t13a, H5a, bx12, ax12, fx12, bx18, ax18, fx18] <;> rfl))
        · replace hh := ite_f hb17 hh
          cases hh
          try simp only [x_big_sub, seval, -Int.reduceToNat, hr1, t1a, t5a, t6a, t12a, t13a, H5a, bx12, ax12, fx12]
          rw [CK_normal]
          refine ⟨_, rfl, ?_⟩
          refine ⟨v5a, ?_, ?_, ?_, ?_, ?_, ?_, ?_⟩
          all_goals (first | rfl | (simp only [x_big_sub, seval, -Int.reduceToNat, hr1, t1a, t5a, t6a, t12a, t13a, H5a, bx12, ax12, fx12] <;> rfl))
    · replace hh := ite_f hb11 hh
      cases hh
      try simp only [x_big_sub, seval, -Int.reduceToNat, hr1, t1a, t5a, t6a, t12a, t13a, H5a]
      rw [LK_exit]
      refine ⟨_, rfl, ?_⟩
      refine ⟨rfl, ⟨v5a, ?_, ?_⟩⟩
      all_goals (first | rfl | (simp only [x_big_sub, seval, -Int.reduceToNat, hr1, t1a, t5a, t6a, t12a, t13a, H5a] <;> rfl))
  · rintro x t H e hx
    obtain ⟨l5ax, rfl⟩ : ∃ z, z = o10 := ⟨_, rfl⟩
    dsimp only at hx hh
    obtain ⟨rfl, ⟨v5ax, t5ax, H5ax⟩⟩ := hx
    obtain ⟨r19, hr19, hh⟩ := bindS hh
    cases hh
    try simp only [x_big_sub, seval, -Int.reduceToNat, hr1, t5ax, H5ax, hr19]

theorem ok_big_sub : COk Try.prog 98 G_big_sub := COk.of (mode := .clean) tok ge_big_sub mixed Try.func98 (by kernel_rfl) ⟨by kernel_rfl, by kernel_rfl⟩ (fun _ => Nat.le_of_ble_eq_true (by kernel_rfl)) (fun x r h => m_big_sub x.1 x.2 r h)

noncomputable def G_big_Add := mkG (asC (aAgg eTBig) (as1 (aAgg eTBig))) (fun x : TBig × TBig => big_Add x.1 x.2) (fun r : TBig × Int => .clean (.tup [.agg [.int .i64 r.1.f_Sign, .sl false false r.1.f_Digits.length (encL (eI .i64) r.1.f_Digits)], .int .i64 r.2]))

theorem q_big_Add (p0_0 : Int) (p0_1 : (List Int)) (p1_0 : Int) (p1_1 : (List Int)) : G_big_Add none [.agg [.int .i64 p0_0, .sl false false p0_1.length (encL (eI .i64) p0_1)], .agg [.int .i64 p1_0, .sl false false p1_1.length (encL (eI .i64) p1_1)]] = (big_Add (TBig.mk p0_0 p0_1) (TBig.mk p1_0 p1_1)).map fun r : TBig × Int => (.clean (.tup [.agg [.int .i64 r.1.f_Sign, .sl false false r.1.f_Digits.length (encL (eI .i64) r.1.f_Digits)], .int .i64 r.2]), none) := mkG_eq _ _ _ ((TBig.mk p0_0 p0_1), (TBig.mk p1_0 p1_1))

noncomputable def g_big_Add : Env := (Am.ext (Am.ext (Am.ext (Am.ext (Am.ext (Am.ext (Am.ext noEnv 58 false G_big_Right) 90 false G_big_signed) 92 false G_big_checked) 95 false G_cmp_Or) 96 false G_big_add) 97 false G_big_compare) 98 false G_big_sub)

theorem ge_big_Add : GOk Try.prog g_big_Add := (((((((GOk.none.add ok_big_Right false).add ok_big_signed false).add ok_big_checked false).add ok_cmp_Or false).add ok_big_add false).add ok_big_compare false).add ok_big_sub false)

theorem gg_big_Add : g_big_Add = (Am.ext (Am.ext (Am.ext (Am.ext (Am.ext (Am.ext (Am.ext noEnv 58 false G_big_Right) 90 false G_big_signed) 92 false G_big_checked) 95 false G_cmp_Or) 96 false G_big_add) 97 false G_big_compare) 98 false G_big_sub) := Eq.trans rfl rfl

theorem x_big_Add : type_of% (And.intro @w <| And.intro @q_big_Right <| And.intro @q_big_signed <| And.intro @q_big_checked <| And.intro @q_cmp_Or <| And.intro @q_big_add <| And.intro @q_big_compare <| And.intro @q_big_sub <| @gg_big_Add) := And.intro @w <| And.intro @q_big_Right <| And.intro @q_big_signed <| And.intro @q_big_checked <| And.intro @q_cmp_Or <| And.intro @q_big_add <| And.intro @q_big_compare <| And.intro @q_big_sub <| @gg_big_Add

theorem m_big_Add (p0 : TBig) (p1 : TBig) (r : TBig × Int) (hh : big_Add p0 p1 = some r) : vfunc .clean tab g_big_Add FU Try.f61 none [.agg [.int .i64 p0.f_Sign, .sl false false p0.f_Digits.length (encL (eI .i64) p0.f_Digits)], .agg [.int .i64 p1.f_Sign, .sl false false p1.f_Digits.length (encL (eI .i64) p1.f_Digits)]] = some (.clean (.tup [.agg [.int .i64 r.1.f_Sign, .sl false false r.1.f_Digits.length (encL (eI .i64) r.1.f_Digits)], .int .i64 r.2]), none) := by
  refine vfunc_of rfl Try.ntmps61 Try.results61 ?_
  unfold big_Add at hh
  obtain ⟨r1, hr1, hh⟩ := bindS hh
  try simp only [x_big_Add, seval, -Int.reduceToNat, hr1]
  obtain ⟨o2, ho2, hh⟩ := bindS hh
  refine tstO_cut 0 (fun s t H e => match s with | s13j1 => ∃ v2j1 : Nat, ∃ v3j1 : Nat, ∃ v4j1 : Nat, t 2 = .ptr 2 v2j1 0 ∧ t 3 = .ptr 3 v3j1 0 ∧ t 4 = .ptr 4 v4j1 0 ∧ t 13 = .bool s13j1 ∧ H 2 = some ⟨v2j1, 32, [.int .i64 p0.f_Sign, .sl false false p0.f_Digits.length (encL (eI .i64) p0.f_Digits)], false, false⟩ ∧ H 3 = some ⟨v3j1, 32, [.int .i64 p1.f_Sign, .sl false false p1.f_Digits.length (encL (eI .i64) p1.f_Digits)], false, false⟩ ∧ H 4 = some ⟨v4j1, 32, [.int .i64 0, .sl true true 0 []], false, false⟩) (fun s => s = o2) ?_ ?_
  · rintro s13j1 t H e ⟨v2j1, v3j1, v4j1, t2j1, t3j1, t4j1, t13j1, H2j1, H3j1, H4j1⟩ rfl
    try dsimp only at hh
    try simp only [x_big_Add, seval, -Int.reduceToNat, hr1, t2j1, t3j1, t4j1, t13j1, H2j1, H3j1, H4j1]
    refine tstC_br (fun hb3 => ?_) (fun hb3 => ?_)
    · replace hh := ite_t hb3 hh
      have i4 := q_big_checked false 0 ([])
      simp only [encL_cons, vmz, List.length_cons, List.length_nil, Nat.zero_add, Nat.reduceAdd, List.length_set] at i4
      obtain ⟨r5, hr5, hh⟩ := bindS hh
      cases hh
      try simp only [x_big_Add, seval, -Int.reduceToNat, hr1, t2j1, t3j1, t4j1, t13j1, H2j1, H3j1, H4j1, i4, hr5]
    · replace hh := ite_f hb3 hh
      try simp only [x_big_Add, seval, -Int.reduceToNat, hr1, t2j1, t3j1, t4j1, t13j1, H2j1, H3j1, H4j1]
      refine tstC_br (fun hb6 => ?_) (fun hb6 => ?_)
      · replace hh := ite_t hb6 hh
        have i7 := q_cmp_Or ([p0.f_Sign, p1.f_Sign])
        simp only [encL_cons, vmz, List.length_cons, List.length_nil, Nat.zero_add, Nat.reduceAdd, List.length_set] at i7
        obtain ⟨r8, hr8, hh⟩ := bindS hh
        obtain ⟨r9, hr9, hh⟩ := bindS hh
        obtain ⟨r10, hr10, hh⟩ := bindS hh
        obtain ⟨r11, hr11, hh⟩ := bindS hh
        try simp only [x_big_Add, seval, -Int.reduceToNat, hr1, t2j1, t3j1, t4j1, t13j1, H2j1, H3j1, H4j1, i7, hr8, hr9, hr10, hr11]
        refine dyn_ok (by kernel_rfl) ?_
        cases hh
        try simp only [x_big_Add, seval, -Int.reduceToNat, hr1, t2j1, t3j1, t4j1, t13j1, H2j1, H3j1, H4j1, i7, hr8, hr9, hr10, hr11]
      · replace hh := ite_f hb6 hh
        obtain ⟨r12, hr12, hh⟩ := bindS hh
        try simp only [x_big_Add, seval, -Int.reduceToNat, hr1, t2j1, t3j1, t4j1, t13j1, H2j1, H3j1, H4j1, hr12]
        refine tstC_br (fun hb13 => ?_) (fun hb13 => ?_)
        · replace hh := ite_t hb13 hh
          obtain ⟨r14, hr14, hh⟩ := bindS hh
          obtain ⟨r15, hr15, hh⟩ := bindS hh
          obtain ⟨r16, hr16, hh⟩ := bindS hh
          try simp only [x_big_Add, seval, -Int.reduceToNat, hr1, t2j1, t3j1, t4j1, t13j1, H2j1, H3j1, H4j1, hr12, hr14, hr15, hr16]
          refine dyn_ok (by kernel_rfl) ?_
          cases hh
          try simp only [x_big_Add, seval, -Int.reduceToNat, hr1, t2j1, t3j1, t4j1, t13j1, H2j1, H3j1, H4j1, hr12, hr14, hr15, hr16]
        · replace hh := ite_f hb13 hh
          obtain ⟨r17, hr17, hh⟩ := bindS hh
          obtain ⟨r18, hr18, hh⟩ := bindS hh
          obtain ⟨r19, hr19, hh⟩ := bindS hh
          try simp only [x_big_Add, seval, -Int.reduceToNat, hr1, t2j1, t3j1, t4j1, t13j1, H2j1, H3j1, H4j1, hr12, hr17, hr18, hr19]
          refine dyn_ok (by kernel_rfl) ?_
          cases hh
          try simp only [x_big_Add, seval, -Int.reduceToNat, hr1, t2j1, t3j1, t4j1, t13j1, H2j1, H3j1, H4j1, hr12, hr17, hr18, hr19]
  ·
    clear hh
    have hh := ho2
    try simp only [x_big_Add, seval, -Int.reduceToNat, hr1]
    refine tstO_br' (fun hb20 => ?_) (fun hb20 => ?_)
    · replace hh := ite_t hb20 hh
      cases hh
      try simp only [x_big_Add, seval, -Int.reduceToNat, hr1]
      rw [CK_normal]
      refine ⟨_, rfl, ?_⟩
      refine ⟨0, 0, 0, ?_, ?_, ?_, ?_, ?_, ?_, ?_⟩
      all_goals (first | rfl | (simp only [x_big_Add, seval, -Int.reduceToNat, hr1] <;> rfl))
    · replace hh := ite_f hb20 hh
      obtain ⟨r21, hr21, hh⟩ := bindS hh
      cases hh
      try simp only [x_big_Add, seval, -Int.reduceToNat, hr1, hr21]
      rw [CK_normal]
      refine ⟨_, rfl, ?_⟩
      refine ⟨0, 0, 0, ?_, ?_, ?_, ?_, ?_, ?_, ?_⟩
      all_goals (first | rfl | (simp only [x_big_Add, seval, -Int.reduceToNat, hr1, hr21] <;> rfl))

theorem ok_big_Add : COk Try.prog 61 G_big_Add := COk.of (mode := .clean) tok ge_big_Add mixed Try.func61 (by kernel_rfl) ⟨by kernel_rfl, by kernel_rfl⟩ (fun _ => Nat.le_of_ble_eq_true (by kernel_rfl)) (fun x r h => m_big_Add x.1 x.2 r h)

noncomputable def G_big_Div := mkG (asC (aAgg eTBig) (as1 (aAgg eTBig))) (fun x : TBig × TBig => big_Div x.1 x.2) (fun r : TBig × TBig × Int => .clean (.tup [.agg [.int .i64 r.1.f_Sign, .sl false false r.1.f_Digits.length (encL (eI .i64) r.1.f_Digits)], .agg [.int .i64 r.2.1.f_Sign, .sl false false r.2.1.f_Digits.length (encL (eI .i64) r.2.1.f_Digits)], .int .i64 r.2.2]))

theorem q_big_Div (p0_0 : Int) (p0_1 : (List Int)) (p1_0 : Int) (p1_1 : (List Int)) : G_big_Div none [.agg [.int .i64 p0_0, .sl false false p0_1.length (encL (eI .i64) p0_1)], .agg [.int .i64 p1_0, .sl false false p1_1.length (encL (eI .i64) p1_1)]] = (big_Div (TBig.mk p0_0 p0_1) (TBig.mk p1_0 p1_1)).map fun r : TBig × TBig × Int => (.clean (.tup [.agg [.int .i64 r.1.f_Sign, .sl false false r.1.f_Digits.length (encL (eI .i64) r.1.f_Digits)], .agg [.int .i64 r.2.1.f_Sign, .sl false false r.2.1.f_Digits.length (encL (eI .i64) r.2.1.f_Digits)], .int .i64 r.2.2]), none) := mkG_eq _ _ _ ((TBig.mk p0_0 p0_1), (TBig.mk p1_0 p1_1))

noncomputable def g_big_Div : Env := (Am.ext (Am.ext (Am.ext (Am.ext (Am.ext noEnv 58 false G_big_Right) 90 false G_big_signed) 93 false G_big_div) 96 false G_big_add) 98 false G_big_sub)

theorem ge_big_Div : GOk Try.prog g_big_Div := (((((GOk.none.add ok_big_Right false).add ok_big_signed false).add ok_big_div false).add ok_big_add false).add ok_big_sub false)

theorem gg_big_Div : g_big_Div = (Am.ext (Am.ext (Am.ext (Am.ext (Am.ext noEnv 58 false G_big_Right) 90 false G_big_signed) 93 false G_big_div) 96 false G_big_add) 98 false G_big_sub) := Eq.trans rfl rfl

theorem x_big_Div : type_of% (And.intro @w <| And.intro @q_big_Right <| And.intro @q_big_signed <| And.intro @q_big_div <| And.intro @q_big_add <| And.intro @q_big_sub <| @gg_big_Div) := And.intro @w <| And.intro @q_big_Right <| And.intro @q_big_signed <| And.intro @q_big_div <| And.intro @q_big_add <| And.intro @q_big_sub <| @gg_big_Div

theorem m_big_Div (p0 : TBig) (p1 : TBig) (r : TBig × TBig × Int) (hh : big_Div p0 p1 = some r) : vfunc .clean tab g_big_Div FU Try.f100 none [.agg [.int .i64 p0.f_Sign, .sl false false p0.f_Digits.length (encL (eI .i64) p0.f_Digits)], .agg [.int .i64 p1.f_Sign, .sl false false p1.f_Digits.length (encL (eI .i64) p1.f_Digits)]] = some (.clean (.tup [.agg [.int .i64 r.1.f_Sign, .sl false false r.1.f_Digits.length (encL (eI .i64) r.1.f_Digits)], .agg [.int .i64 r.2.1.f_Sign, .sl false false r.2.1.f_Digits.length (encL (eI .i64) r.2.1.f_Digits)], .int .i64 r.2.2]), none) := by
  refine vfunc_of rfl Try.ntmps100 Try.results100 ?_
  unfold big_Div at hh
  obtain ⟨r1, hr1, hh⟩ := bindS hh
  try simp only [x_big_Div, seval, -Int.reduceToNat, hr1]
  obtain ⟨o2, ho2, hh⟩ := bindS hh
  refine tstO_cut 0 (fun s t H e => match s with | s9j1 => ∃ v2j1 : Nat, ∃ v3j1 : Nat, ∃ v4j1 : Nat, ∃ v5j1 : Nat, t 2 = .ptr 2 v2j1 0 ∧ t 3 = .ptr 3 v3j1 0 ∧ t 4 = .ptr 4 v4j1 0 ∧ t 5 = .ptr 5 v5j1 0 ∧ t 9 = .bool s9j1 ∧ H 2 = some ⟨v2j1, 32, [.int .i64 p0.f_Sign, .sl false false p0.f_Digits.length (encL (eI .i64) p0.f_Digits)], false, false⟩ ∧ H 3 = some ⟨v3j1, 32, [.int .i64 p1.f_Sign, .sl false false p1.f_Digits.length (encL (eI .i64) p1.f_Digits)], false, false⟩ ∧ H 4 = some ⟨v4j1, 32, [.int .i64 0, .sl true true 0 []], false, false⟩ ∧ H 5 = some ⟨v5j1, 32, [.int .i64 0, .sl true true 0 []], false, false⟩) (fun s => s = o2) ?_ ?_
  · rintro s9j1 t H e ⟨v2j1, v3j1, v4j1, v5j1, t2j1, t3j1, t4j1, t5j1, t9j1, H2j1, H3j1, H4j1, H5j1⟩ rfl
    try dsimp only at hh
    try simp only [x_big_Div, seval, -Int.reduceToNat, hr1, t2j1, t3j1, t4j1, t5j1, t9j1, H2j1, H3j1, H4j1, H5j1]
    refine tstC_br (fun hb3 => ?_) (fun hb3 => ?_)
    · replace hh := ite_t hb3 hh
      cases hh
      try simp only [x_big_Div, seval, -Int.reduceToNat, hr1, t2j1, t3j1, t4j1, t5j1, t9j1, H2j1, H3j1, H4j1, H5j1]
    · replace hh := ite_f hb3 hh
      try simp only [x_big_Div, seval, -Int.reduceToNat, hr1, t2j1, t3j1, t4j1, t5j1, t9j1, H2j1, H3j1, H4j1, H5j1]
      refine tstC_br (fun hb4 => ?_) (fun hb4 => ?_)
      · replace hh := ite_t hb4 hh
        cases hh
        try simp only [x_big_Div, seval, -Int.reduceToNat, hr1, t2j1, t3j1, t4j1, t5j1, t9j1, H2j1, H3j1, H4j1, H5j1]
      · replace hh := ite_f hb4 hh
        obtain ⟨r5, hr5, hh⟩ := bindS hh
        try simp only [x_big_Div, seval, -Int.reduceToNat, hr1, t2j1, t3j1, t4j1, t5j1, t9j1, H2j1, H3j1, H4j1, H5j1, hr5]
        obtain ⟨o6, ho6, hh⟩ := bindS hh
        refine tstO_cut 0 (fun s t H e => match s with | s44j2 => ∃ v2j2 : Nat, ∃ v3j2 : Nat, ∃ v4j2 : Nat, ∃ v5j2 : Nat, t 2 = .ptr 2 v2j2 0 ∧ t 3 = .ptr 3 v3j2 0 ∧ t 4 = .ptr 4 v4j2 0 ∧ t 5 = .ptr 5 v5j2 0 ∧ t 7 = .sl false false r5.1.length (encL (eI .i64) r5.1) ∧ t 8 = .sl false false r5.2.length (encL (eI .i64) r5.2) ∧ t 44 = .bool s44j2 ∧ H 2 = some ⟨v2j2, 32, [.int .i64 p0.f_Sign, .sl false false p0.f_Digits.length (encL (eI .i64) p0.f_Digits)], false, false⟩ ∧ H 3 = some ⟨v3j2, 32, [.int .i64 p1.f_Sign, .sl false false p1.f_Digits.length (encL (eI .i64) p1.f_Digits)], false, false⟩ ∧ H 4 = some ⟨v4j2, 32, [.int .i64 0, .sl true true 0 []], false, false⟩ ∧ H 5 = some ⟨v5j2, 32, [.int .i64 0, .sl true true 0 []], false, false⟩) (fun s => s = o6) ?_ ?_
        · rintro s44j2 t H e ⟨v2j2, v3j2, v4j2, v5j2, t2j2, t3j2, t4j2, t5j2, t7j2, t8j2, t44j2, H2j2, H3j2, H4j2, H5j2⟩ rfl
          try dsimp only at hh
          try simp only [x_big_Div, seval, -Int.reduceToNat, hr1, hr5, t2j2, t3j2, t4j2, t5j2, t7j2, t8j2, t44j2, H2j2, H3j2, H4j2, H5j2]
          refine tstC_br (fun hb7 => ?_) (fun hb7 => ?_)
          · replace hh := ite_t hb7 hh
            have i8 := q_big_add r5.1 ([1])
            simp only [encL_cons, vmz, List.length_cons, List.length_nil, Nat.zero_add, Nat.reduceAdd, List.length_set] at i8
            obtain ⟨r9, hr9, hh⟩ := bindS hh
            obtain ⟨r10, hr10, hh⟩ := bindS hh
            obtain ⟨r11, hr11, hh⟩ := bindS hh
            obtain ⟨r12, hr12, hh⟩ := bindS hh
            try simp only [x_big_Div, seval, -Int.reduceToNat, hr1, hr5, t2j2, t3j2, t4j2, t5j2, t7j2, t8j2, t44j2, H2j2, H3j2, H4j2, H5j2, i8, hr9, hr10, hr11, hr12]
            refine dyn_ok (by kernel_rfl) ?_
            cases hh
            try simp only [x_big_Div, seval, -Int.reduceToNat, hr1, hr5, t2j2, t3j2, t4j2, t5j2, t7j2, t8j2, t44j2, H2j2, H3j2, H4j2, H5j2, i8, hr9, hr10, hr11, hr12]
          · replace hh := ite_f hb7 hh
            obtain ⟨r13, hr13, hh⟩ := bindS hh
            obtain ⟨r14, hr14, hh⟩ := bindS hh
            try simp only [x_big_Div, seval, -Int.reduceToNat, hr1, hr5, t2j2, t3j2, t4j2, t5j2, t7j2, t8j2, t44j2, H2j2, H3j2, H4j2, H5j2, hr13, hr14]
            refine dyn_ok (by kernel_rfl) ?_
            cases hh
            try simp only [x_big_Div, seval, -Int.reduceToNat, hr1, hr5, t2j2, t3j2, t4j2, t5j2, t7j2, t8j2, t44j2, H2j2, H3j2, H4j2, H5j2, hr13, hr14]
        ·
          clear hh
          have hh := ho6
          try simp only [x_big_Div, seval, -Int.reduceToNat, hr1, t2j1, t3j1, t4j1, t5j1, t9j1, H2j1, H3j1, H4j1, H5j1, hr5]
          refine tstO_br (fun hb15 => ?_) (fun hb15 => ?_)
          · replace hh := ite_t hb15 hh
            cases hh
            try simp only [x_big_Div, seval, -Int.reduceToNat, hr1, t2j1, t3j1, t4j1, t5j1, t9j1, H2j1, H3j1, H4j1, H5j1, hr5]
            rw [CK_normal]
            refine ⟨_, rfl, ?_⟩
            refine ⟨v2j1, v3j1, v4j1, v5j1, ?_, ?_, ?_, ?_, ?_, ?_, ?_, ?_, ?_, ?_, ?_⟩
            all_goals (first | rfl | (simp only [x_big_Div, seval, -Int.reduceToNat, hr1, t2j1, t3j1, t4j1, t5j1, t9j1, H2j1, H3j1, H4j1, H5j1, hr5] <;> rfl))
          · replace hh := ite_f hb15 hh
            cases hh
            try simp only [x_big_Div, seval, -Int.reduceToNat, hr1, t2j1, t3j1, t4j1, t5j1, t9j1, H2j1, H3j1, H4j1, H5j1, hr5]
            rw [CK_normal]
            refine ⟨_, rfl, ?_⟩
            refine ⟨v2j1, v3j1, v4j1, v5j1, ?_, ?_, ?_, ?_, ?_, ?_, ?_, ?_, ?_, ?_, ?_⟩
            all_goals (first | rfl | (simp only [x_big_Div, seval, -Int.reduceToNat, hr1, t2j1, t3j1, t4j1, t5j1, t9j1, H2j1, H3j1, H4j1, H5j1, hr5] <;> rfl))
  ·
    clear hh
    have hh := ho2
    try simp only [x_big_Div, seval, -Int.reduceToNat, hr1]
    refine tstO_br' (fun hb16 => ?_) (fun hb16 => ?_)
    · replace hh := ite_t hb16 hh
      cases hh
      try simp only [x_big_Div, seval, -Int.reduceToNat, hr1]
      rw [CK_normal]
      refine ⟨_, rfl, ?_⟩
      refine ⟨0, 0, 0, 0, ?_, ?_, ?_, ?_, ?_, ?_, ?_, ?_, ?_⟩
      all_goals (first | rfl | (simp only [x_big_Div, seval, -Int.reduceToNat, hr1] <;> rfl))
    · replace hh := ite_f hb16 hh
      obtain ⟨r17, hr17, hh⟩ := bindS hh
      cases hh
      try simp only [x_big_Div, seval, -Int.reduceToNat, hr1, hr17]
      rw [CK_normal]
      refine ⟨_, rfl, ?_⟩
      refine ⟨0, 0, 0, 0, ?_, ?_, ?_, ?_, ?_, ?_, ?_, ?_, ?_⟩
      all_goals (first | rfl | (simp only [x_big_Div, seval, -Int.reduceToNat, hr1, hr17] <;> rfl))

theorem ok_big_Div : COk Try.prog 100 G_big_Div := COk.of (mode := .clean) tok ge_big_Div mixed Try.func100 (by kernel_rfl) ⟨by kernel_rfl, by kernel_rfl⟩ (fun _ => Nat.le_of_ble_eq_true (by kernel_rfl)) (fun x r h => m_big_Div x.1 x.2 r h)

noncomputable def G_frac_New := mkG (asC (aAgg eTBig) (as1 (aAgg eTBig))) (fun x : TBig × TBig => frac_New x.1 x.2) (fun r : TFrac × Int => .clean (.tup [.agg [.int .i64 r.1.f_P.f_Sign, .sl false false r.1.f_P.f_Digits.length (encL (eI .i64) r.1.f_P.f_Digits), .int .i64 r.1.f_Q.f_Sign, .sl false false r.1.f_Q.f_Digits.length (encL (eI .i64) r.1.f_Q.f_Digits)], .int .i64 r.2]))

theorem q_frac_New (p0_0 : Int) (p0_1 : (List Int)) (p1_0 : Int) (p1_1 : (List Int)) : G_frac_New none [.agg [.int .i64 p0_0, .sl false false p0_1.length (encL (eI .i64) p0_1)], .agg [.int .i64 p1_0, .sl false false p1_1.length (encL (eI .i64) p1_1)]] = (frac_New (TBig.mk p0_0 p0_1) (TBig.mk p1_0 p1_1)).map fun r : TFrac × Int => (.clean (.tup [.agg [.int .i64 r.1.f_P.f_Sign, .sl false false r.1.f_P.f_Digits.length (encL (eI .i64) r.1.f_P.f_Digits), .int .i64 r.1.f_Q.f_Sign, .sl false false r.1.f_Q.f_Digits.length (encL (eI .i64) r.1.f_Q.f_Digits)], .int .i64 r.2]), none) := mkG_eq _ _ _ ((TBig.mk p0_0 p0_1), (TBig.mk p1_0 p1_1))

noncomputable def g_frac_New : Env := (Am.ext (Am.ext (Am.ext (Am.ext noEnv 55 false G_big_Neg) 58 false G_big_Right) 59 false G_big_Gcd) 100 false G_big_Div)

theorem ge_frac_New : GOk Try.prog g_frac_New := ((((GOk.none.add ok_big_Neg false).add ok_big_Right false).add ok_big_Gcd false).add ok_big_Div false)

theorem gg_frac_New : g_frac_New = (Am.ext (Am.ext (Am.ext (Am.ext noEnv 55 false G_big_Neg) 58 false G_big_Right) 59 false G_big_Gcd) 100 false G_big_Div) := Eq.trans rfl rfl

theorem x_frac_New : type_of% (And.intro @w <| And.intro @q_big_Neg <| And.intro @q_big_Right <| And.intro @q_big_Gcd <| And.intro @q_big_Div <| @gg_frac_New) := And.intro @w <| And.intro @q_big_Neg <| And.intro @q_big_Right <| And.intro @q_big_Gcd <| And.intro @q_big_Div <| @gg_frac_New

theorem m_frac_New (p0 : TBig) (p1 : TBig) (r : TFrac × Int) (hh : frac_New p0 p1 = some r) : vfunc .clean tab g_frac_New FU Try.f63 none [.agg [.int .i64 p0.f_Sign, .sl false false p0.f_Digits.length (encL (eI .i64) p0.f_Digits)], .agg [.int .i64 p1.f_Sign, .sl false false p1.f_Digits.length (encL (eI .i64) p1.f_Digits)]] = some (.clean (.tup [.agg [.int .i64 r.1.f_P.f_Sign, .sl false false r.1.f_P.f_Digits.length (encL (eI .i64) r.1.f_P.f_Digits), .int .i64 r.1.f_Q.f_Sign, .sl false false r.1.f_Q.f_Digits.length (encL (eI .i64) r.1.f_Q.f_Digits)], .int .i64 r.2]), none) := by
  refine vfunc_of rfl Try.ntmps63 Try.results63 ?_
  unfold frac_New at hh
  obtain ⟨r1, hr1, hh⟩ := bindS hh
  try simp only [x_frac_New, seval, -Int.reduceToNat, hr1]
  obtain ⟨o2, ho2, hh⟩ := bindS hh
  refine tstO_cut 0 (fun s t H e => match s with | s14j1 => ∃ v2j1 : Nat, ∃ v3j1 : Nat, ∃ v4j1 : Nat, t 2 = .ptr 2 v2j1 0 ∧ t 3 = .ptr 3 v3j1 0 ∧ t 4 = .ptr 4 v4j1 0 ∧ t 14 = .bool s14j1 ∧ H 2 = some ⟨v2j1, 32, [.int .i64 p0.f_Sign, .sl false false p0.f_Digits.length (encL (eI .i64) p0.f_Digits)], false, false⟩ ∧ H 3 = some ⟨v3j1, 32, [.int .i64 p1.f_Sign, .sl false false p1.f_Digits.length (encL (eI .i64) p1.f_Digits)], false, false⟩ ∧ H 4 = some ⟨v4j1, 34, [.int .i64 0, .sl true true 0 [], .int .i64 0, .sl true true 0 []], false, false⟩) (fun s => s = o2) ?_ ?_
  · rintro s14j1 t H e ⟨v2j1, v3j1, v4j1, t2j1, t3j1, t4j1, t14j1, H2j1, H3j1, H4j1⟩ rfl
    try dsimp only at hh
    try simp only [x_frac_New, seval, -Int.reduceToNat, hr1, t2j1, t3j1, t4j1, t14j1, H2j1, H3j1, H4j1]
    refine tstC_br (fun hb3 => ?_) (fun hb3 => ?_)
    · replace hh := ite_t hb3 hh
      cases hh
      try simp only [x_frac_New, seval, -Int.reduceToNat, hr1, t2j1, t3j1, t4j1, t14j1, H2j1, H3j1, H4j1]
    · replace hh := ite_f hb3 hh
      try simp only [x_frac_New, seval, -Int.reduceToNat, hr1, t2j1, t3j1, t4j1, t14j1, H2j1, H3j1, H4j1]
      refine tstC_br (fun hb4 => ?_) (fun hb4 => ?_)
      · replace hh := ite_t hb4 hh
        cases hh
        try simp only [x_frac_New, seval, -Int.reduceToNat, hr1, t2j1, t3j1, t4j1, t14j1, H2j1, H3j1, H4j1]
      · replace hh := ite_f hb4 hh
        try simp only [x_frac_New, seval, -Int.reduceToNat, hr1, t2j1, t3j1, t4j1, t14j1, H2j1, H3j1, H4j1]
        obtain ⟨o5, ho5, hh⟩ := bindS hh
        refine tstC_cut 0 (fun s t H e => match s with | (r2_0j2, r2_1j2, r3_0j2, r3_1j2) => ∃ v2j2 : Nat, ∃ v3j2 : Nat, ∃ v4j2 : Nat, t 2 = .ptr 2 v2j2 0 ∧ t 3 = .ptr 3 v3j2 0 ∧ t 4 = .ptr 4 v4j2 0 ∧ H 2 = some ⟨v2j2, 32, [.int .i64 r2_0j2, .sl false false r2_1j2.length (encL (eI .i64) r2_1j2)], false, false⟩ ∧ H 3 = some ⟨v3j2, 32, [.int .i64 r3_0j2, .sl false false r3_1j2.length (encL (eI .i64) r3_1j2)], false, false⟩ ∧ H 4 = some ⟨v4j2, 34, [.int .i64 0, .sl true true 0 [], .int .i64 0, .sl true true 0 []], false, false⟩) (fun s => s = o5) ?_ ?_
        · rintro ⟨r2_0j2, r2_1j2, r3_0j2, r3_1j2⟩ t H e ⟨v2j2, v3j2, v4j2, t2j2, t3j2, t4j2, H2j2, H3j2, H4j2⟩ rfl
          try dsimp only at hh
          obtain ⟨r6, hr6, hh⟩ := bindS hh
          obtain ⟨r7, hr7, hh⟩ := bindS hh
          obtain ⟨r8, hr8, hh⟩ := bindS hh
          cases hh
          try simp only [x_frac_New, seval, -Int.reduceToNat, hr1, t2j2, t3j2, t4j2, H2j2, H3j2, H4j2, hr6, hr7, hr8]
        ·
          clear hh
          have hh := ho5
          try simp only [x_frac_New, seval, -Int.reduceToNat, hr1, t2j1, t3j1, t4j1, t14j1, H2j1, H3j1, H4j1]
          refine tstC_br (fun hb9 => ?_) (fun hb9 => ?_)
          · replace hh := ite_t hb9 hh
            obtain ⟨r10, hr10, hh⟩ := bindS hh
            obtain ⟨r11, hr11, hh⟩ := bindS hh
            try simp only [x_frac_New, seval, -Int.reduceToNat, hr1, t2j1, t3j1, t4j1, t14j1, H2j1, H3j1, H4j1, hr10, hr11]
            refine dyn_ok (by kernel_rfl) ?_
            cases hh
            try simp only [x_frac_New, seval, -Int.reduceToNat, hr1, t2j1, t3j1, t4j1, t14j1, H2j1, H3j1, H4j1, hr10, hr11]
            rw [CK_normal]
            refine ⟨_, rfl, ?_⟩
            refine ⟨v2j1, v3j1, v4j1, ?_, ?_, ?_, ?_, ?_, ?_⟩
            all_goals (first | rfl | (simp only [x_frac_New, seval, -Int.reduceToNat, hr1, t2j1, t3j1, t4j1, t14j1, H2j1, H3j1, H4j1, hr10, hr11] <;> rfl))
          · replace hh := ite_f hb9 hh
            cases hh
            try simp only [x_frac_New, seval, -Int.reduceToNat, hr1, t2j1, t3j1, t4j1, t14j1, H2j1, H3j1, H4j1]
            rw [CK_normal]
            refine ⟨_, rfl, ?_⟩
            refine ⟨v2j1, v3j1, v4j1, ?_, ?_, ?_, ?_, ?_, ?_⟩
            all_goals (first | rfl | (simp only [x_frac_New, seval, -Int.reduceToNat, hr1, t2j1, t3j1, t4j1, t14j1, H2j1, H3j1, H4j1] <;> rfl))
  ·
    clear hh
    have hh := ho2
    try simp only [x_frac_New, seval, -Int.reduceToNat, hr1]
    refine tstO_br' (fun hb12 => ?_) (fun hb12 => ?_)
    · replace hh := ite_t hb12 hh
      cases hh
      try simp only [x_frac_New, seval, -Int.reduceToNat, hr1]
      rw [CK_normal]
      refine ⟨_, rfl, ?_⟩
      refine ⟨0, 0, 0, ?_, ?_, ?_, ?_, ?_, ?_, ?_⟩
      all_goals (first | rfl | (simp only [x_frac_New, seval, -Int.reduceToNat, hr1] <;> rfl))
    · replace hh := ite_f hb12 hh
      obtain ⟨r13, hr13, hh⟩ := bindS hh
      cases hh
      try simp only [x_frac_New, seval, -Int.reduceToNat, hr1, hr13]
      rw [CK_normal]
      refine ⟨_, rfl, ?_⟩
      refine ⟨0, 0, 0, ?_, ?_, ?_, ?_, ?_, ?_, ?_⟩
      all_goals (first | rfl | (simp only [x_frac_New, seval, -Int.reduceToNat, hr1, hr13] <;> rfl))

theorem ok_frac_New : COk Try.prog 63 G_frac_New := COk.of (mode := .clean) tok ge_frac_New mixed Try.func63 (by kernel_rfl) ⟨by kernel_rfl, by kernel_rfl⟩ (fun _ => Nat.le_of_ble_eq_true (by kernel_rfl)) (fun x r h => m_frac_New x.1 x.2 r h)

noncomputable def G_frac_Add := mkG (asC (aAgg eTFrac) (as1 (aAgg eTFrac))) (fun x : TFrac × TFrac => frac_Add x.1 x.2) (fun r : TFrac × Int => .clean (.tup [.agg [.int .i64 r.1.f_P.f_Sign, .sl false false r.1.f_P.f_Digits.length (encL (eI .i64) r.1.f_P.f_Digits), .int .i64 r.1.f_Q.f_Sign, .sl false false r.1.f_Q.f_Digits.length (encL (eI .i64) r.1.f_Q.f_Digits)], .int .i64 r.2]))

theorem q_frac_Add (p0_0 : Int) (p0_1 : (List Int)) (p0_2 : Int) (p0_3 : (List Int)) (p1_0 : Int) (p1_1 : (List Int)) (p1_2 : Int) (p1_3 : (List Int)) : G_frac_Add none [.agg [.int .i64 p0_0, .sl false false p0_1.length (encL (eI .i64) p0_1), .int .i64 p0_2, .sl false false p0_3.length (encL (eI .i64) p0_3)], .agg [.int .i64 p1_0, .sl false false p1_1.length (encL (eI .i64) p1_1), .int .i64 p1_2, .sl false false p1_3.length (encL (eI .i64) p1_3)]] = (frac_Add (TFrac.mk (TBig.mk p0_0 p0_1) (TBig.mk p0_2 p0_3)) (TFrac.mk (TBig.mk p1_0 p1_1) (TBig.mk p1_2 p1_3))).map fun r : TFrac × Int => (.clean (.tup [.agg [.int .i64 r.1.f_P.f_Sign, .sl false false r.1.f_P.f_Digits.length (encL (eI .i64) r.1.f_P.f_Digits), .int .i64 r.1.f_Q.f_Sign, .sl false false r.1.f_Q.f_Digits.length (encL (eI .i64) r.1.f_Q.f_Digits)], .int .i64 r.2]), none) := mkG_eq _ _ _ ((TFrac.mk (TBig.mk p0_0 p0_1) (TBig.mk p0_2 p0_3)), (TFrac.mk (TBig.mk p1_0 p1_1) (TBig.mk p1_2 p1_3)))

noncomputable def g_frac_Add : Env := (Am.ext (Am.ext (Am.ext (Am.ext noEnv 24 false G_frac_Right) 61 false G_big_Add) 62 false G_frac_times) 63 false G_frac_New)

theorem ge_frac_Add : GOk Try.prog g_frac_Add := ((((GOk.none.add ok_frac_Right false).add ok_big_Add false).add ok_frac_times false).add ok_frac_New false)

theorem gg_frac_Add : g_frac_Add = (Am.ext (Am.ext (Am.ext (Am.ext noEnv 24 false G_frac_Right) 61 false G_big_Add) 62 false G_frac_times) 63 false G_frac_New) := Eq.trans rfl rfl

theorem x_frac_Add : type_of% (And.intro @w <| And.intro @q_frac_Right <| And.intro @q_big_Add <| And.intro @q_frac_times <| And.intro @q_frac_New <| @gg_frac_Add) := And.intro @w <| And.intro @q_frac_Right <| And.intro @q_big_Add <| And.intro @q_frac_times <| And.intro @q_frac_New <| @gg_frac_Add

theorem m_frac_Add (p0 : TFrac) (p1 : TFrac) (r : TFrac × Int) (hh : frac_Add p0 p1 = some r) : vfunc .clean tab g_frac_Add FU Try.f25 none [.agg [.int .i64 p0.f_P.f_Sign, .sl false false p0.f_P.f_Digits.length (encL (eI .i64) p0.f_P.f_Digits), .int .i64 p0.f_Q.f_Sign, .sl false false p0.f_Q.f_Digits.length (encL (eI .i64) p0.f_Q.f_Digits)], .agg [.int .i64 p1.f_P.f_Sign, .sl false false p1.f_P.f_Digits.length (encL (eI .i64) p1.f_P.f_Digits), .int .i64 p1.f_Q.f_Sign, .sl false false p1.f_Q.f_Digits.length (encL (eI .i64) p1.f_Q.f_Digits)]] = some (.clean (.tup [.agg [.int .i64 r.1.f_P.f_Sign, .sl false false r.1.f_P.f_Digits.length (encL (eI .i64) r.1.f_P.f_Digits), .int .i64 r.1.f_Q.f_Sign, .sl false false r.1.f_Q.f_Digits.length (encL (eI .i64) r.1.f_Q.f_Digits)], .int .i64 r.2]), none) := by
  refine vfunc_of rfl Try.ntmps25 Try.results25 ?_
  unfold frac_Add at hh
  obtain ⟨r1, hr1, hh⟩ := bindS hh
  try simp only [x_frac_Add, seval, -Int.reduceToNat, hr1]
  obtain ⟨o2, ho2, hh⟩ := bindS hh
  refine tstO_cut 0 (fun s t H e => match s with | s15j1 => ∃ v2j1 : Nat, ∃ v3j1 : Nat, ∃ v4j1 : Nat, t 2 = .ptr 2 v2j1 0 ∧ t 3 = .ptr 3 v3j1 0 ∧ t 4 = .ptr 4 v4j1 0 ∧ t 15 = .bool s15j1 ∧ H 2 = some ⟨v2j1, 34, [.int .i64 p0.f_P.f_Sign, .sl false false p0.f_P.f_Digits.length (encL (eI .i64) p0.f_P.f_Digits), .int .i64 p0.f_Q.f_Sign, .sl false false p0.f_Q.f_Digits.length (encL (eI .i64) p0.f_Q.f_Digits)], false, false⟩ ∧ H 3 = some ⟨v3j1, 34, [.int .i64 p1.f_P.f_Sign, .sl false false p1.f_P.f_Digits.length (encL (eI .i64) p1.f_P.f_Digits), .int .i64 p1.f_Q.f_Sign, .sl false false p1.f_Q.f_Digits.length (encL (eI .i64) p1.f_Q.f_Digits)], false, false⟩ ∧ H 4 = some ⟨v4j1, 34, [.int .i64 0, .sl true true 0 [], .int .i64 0, .sl true true 0 []], false, false⟩) (fun s => s = o2) ?_ ?_
  · rintro s15j1 t H e ⟨v2j1, v3j1, v4j1, t2j1, t3j1, t4j1, t15j1, H2j1, H3j1, H4j1⟩ rfl
    try dsimp only at hh
    try simp only [x_frac_Add, seval, -Int.reduceToNat, hr1, t2j1, t3j1, t4j1, t15j1, H2j1, H3j1, H4j1]
    refine tstC_br (fun hb3 => ?_) (fun hb3 => ?_)
    · replace hh := ite_t hb3 hh
      cases hh
      try simp only [x_frac_Add, seval, -Int.reduceToNat, hr1, t2j1, t3j1, t4j1, t15j1, H2j1, H3j1, H4j1]
    · replace hh := ite_f hb3 hh
      obtain ⟨r4, hr4, hh⟩ := bindS hh
      obtain ⟨r5, hr5, hh⟩ := bindS hh
      obtain ⟨r6, hr6, hh⟩ := bindS hh
      try simp only [x_frac_Add, seval, -Int.reduceToNat, hr1, t2j1, t3j1, t4j1, t15j1, H2j1, H3j1, H4j1, hr4, hr5, hr6]
      refine dyn_ok (by kernel_rfl) ?_
      obtain ⟨r7, hr7, hh⟩ := bindS hh
      obtain ⟨r8, hr8, hh⟩ := bindS hh
      try simp only [x_frac_Add, seval, -Int.reduceToNat, hr1, t2j1, t3j1, t4j1, t15j1, H2j1, H3j1, H4j1, hr4, hr5, hr6, hr7, hr8]
      refine dyn_ok (by kernel_rfl) ?_
      cases hh
      try simp only [x_frac_Add, seval, -Int.reduceToNat, hr1, t2j1, t3j1, t4j1, t15j1, H2j1, H3j1, H4j1, hr4, hr5, hr6, hr7, hr8]
  ·
    clear hh
    have hh := ho2
    try simp only [x_frac_Add, seval, -Int.reduceToNat, hr1]
    refine tstO_br' (fun hb9 => ?_) (fun hb9 => ?_)
    · replace hh := ite_t hb9 hh
      cases hh
      try simp only [x_frac_Add, seval, -Int.reduceToNat, hr1]
      rw [CK_normal]
      refine ⟨_, rfl, ?_⟩
      refine ⟨0, 0, 0, ?_, ?_, ?_, ?_, ?_, ?_, ?_⟩
      all_goals (first | rfl | (simp only [x_frac_Add, seval, -Int.reduceToNat, hr1] <;> rfl))
    · replace hh := ite_f hb9 hh
      obtain ⟨r10, hr10, hh⟩ := bindS hh
      cases hh
      try simp only [x_frac_Add, seval, -Int.reduceToNat, hr1, hr10]
      rw [CK_normal]
      refine ⟨_, rfl, ?_⟩
      refine ⟨0, 0, 0, ?_, ?_, ?_, ?_, ?_, ?_, ?_⟩
      all_goals (first | rfl | (simp only [x_frac_Add, seval, -Int.reduceToNat, hr1, hr10] <;> rfl))

theorem ok_frac_Add : COk Try.prog 25 G_frac_Add := COk.of (mode := .clean) tok ge_frac_Add mixed Try.func25 (by kernel_rfl) ⟨by kernel_rfl, by kernel_rfl⟩ (fun _ => Nat.le_of_ble_eq_true (by kernel_rfl)) (fun x r h => m_frac_Add x.1 x.2 r h)

noncomputable def G_frac_Sub := mkG (asC (aAgg eTFrac) (as1 (aAgg eTFrac))) (fun x : TFrac × TFrac => frac_Sub x.1 x.2) (fun r : TFrac × Int => .clean (.tup [.agg [.int .i64 r.1.f_P.f_Sign, .sl false false r.1.f_P.f_Digits.length (encL (eI .i64) r.1.f_P.f_Digits), .int .i64 r.1.f_Q.f_Sign, .sl false false r.1.f_Q.f_Digits.length (encL (eI .i64) r.1.f_Q.f_Digits)], .int .i64 r.2]))

theorem q_frac_Sub (p0_0 : Int) (p0_1 : (List Int)) (p0_2 : Int) (p0_3 : (List Int)) (p1_0 : Int) (p1_1 : (List Int)) (p1_2 : Int) (p1_3 : (List Int)) : G_frac_Sub none [.agg [.int .i64 p0_0, .sl false false p0_1.length (encL (eI .i64) p0_1), .int .i64 p0_2, .sl false false p0_3.length (encL (eI .i64) p0_3)], .agg [.int .i64 p1_0, .sl false false p1_1.length (encL (eI .i64) p1_1), .int .i64 p1_2, .sl false false p1_3.length (encL (eI .i64) p1_3)]] = (frac_Sub (TFrac.mk (TBig.mk p0_0 p0_1) (TBig.mk p0_2 p0_3)) (TFrac.mk (TBig.mk p1_0 p1_1) (TBig.mk p1_2 p1_3))).map fun r : TFrac × Int => (.clean (.tup [.agg [.int .i64 r.1.f_P.f_Sign, .sl false false r.1.f_P.f_Digits.length (encL (eI .i64) r.1.f_P.f_Digits), .int .i64 r.1.f_Q.f_Sign, .sl false false r.1.f_Q.f_Digits.length (encL (eI .i64) r.1.f_Q.f_Digits)], .int .i64 r.2]), none) := mkG_eq _ _ _ ((TFrac.mk (TBig.mk p0_0 p0_1) (TBig.mk p0_2 p0_3)), (TFrac.mk (TBig.mk p1_0 p1_1) (TBig.mk p1_2 p1_3)))

noncomputable def g_frac_Sub : Env := (Am.ext (Am.ext (Am.ext noEnv 24 false G_frac_Right) 25 false G_frac_Add) 55 false G_big_Neg)

theorem ge_frac_Sub : GOk Try.prog g_frac_Sub := (((GOk.none.add ok_frac_Right false).add ok_frac_Add false).add ok_big_Neg false)

theorem gg_frac_Sub : g_frac_Sub = (Am.ext (Am.ext (Am.ext noEnv 24 false G_frac_Right) 25 false G_frac_Add) 55 false G_big_Neg) := Eq.trans rfl rfl

theorem x_frac_Sub : type_of% (And.intro @w <| And.intro @q_frac_Right <| And.intro @q_frac_Add <| And.intro @q_big_Neg <| @gg_frac_Sub) := And.intro @w <| And.intro @q_frac_Right <| And.intro @q_frac_Add <| And.intro @q_big_Neg <| @gg_frac_Sub

theorem m_frac_Sub (p0 : TFrac) (p1 : TFrac) (r : TFrac × Int) (hh : frac_Sub p0 p1 = some r) : vfunc .clean tab g_frac_Sub FU Try.f18 none [.agg [.int .i64 p0.f_P.f_Sign, .sl false false p0.f_P.f_Digits.length (encL (eI .i64) p0.f_P.f_Digits), .int .i64 p0.f_Q.f_Sign, .sl false false p0.f_Q.f_Digits.length (encL (eI .i64) p0.f_Q.f_Digits)], .agg [.int .i64 p1.f_P.f_Sign, .sl false false p1.f_P.f_Digits.length (encL (eI .i64) p1.f_P.f_Digits), .int .i64 p1.f_Q.f_Sign, .sl false false p1.f_Q.f_Digits.length (encL (eI .i64) p1.f_Q.f_Digits)]] = some (.clean (.tup [.agg [.int .i64 r.1.f_P.f_Sign, .sl false false r.1.f_P.f_Digits.length (encL (eI .i64) r.1.f_P.f_Digits), .int .i64 r.1.f_Q.f_Sign, .sl false false r.1.f_Q.f_Digits.length (encL (eI .i64) r.1.f_Q.f_Digits)], .int .i64 r.2]), none) := by
  refine vfunc_of rfl Try.ntmps18 Try.results18 ?_
  unfold frac_Sub at hh
  obtain ⟨r1, hr1, hh⟩ := bindS hh
  try simp only [x_frac_Sub, seval, -Int.reduceToNat, hr1]
  obtain ⟨o2, ho2, hh⟩ := bindS hh
  refine tstO_cut 0 (fun s t H e => match s with | s13j1 => ∃ v2j1 : Nat, ∃ v3j1 : Nat, ∃ v4j1 : Nat, t 2 = .ptr 2 v2j1 0 ∧ t 3 = .ptr 3 v3j1 0 ∧ t 4 = .ptr 4 v4j1 0 ∧ t 13 = .bool s13j1 ∧ H 2 = some ⟨v2j1, 34, [.int .i64 p0.f_P.f_Sign, .sl false false p0.f_P.f_Digits.length (encL (eI .i64) p0.f_P.f_Digits), .int .i64 p0.f_Q.f_Sign, .sl false false p0.f_Q.f_Digits.length (encL (eI .i64) p0.f_Q.f_Digits)], false, false⟩ ∧ H 3 = some ⟨v3j1, 34, [.int .i64 p1.f_P.f_Sign, .sl false false p1.f_P.f_Digits.length (encL (eI .i64) p1.f_P.f_Digits), .int .i64 p1.f_Q.f_Sign, .sl false false p1.f_Q.f_Digits.length (encL (eI .i64) p1.f_Q.f_Digits)], false, false⟩ ∧ H 4 = some ⟨v4j1, 34, [.int .i64 0, .sl true true 0 [], .int .i64 0, .sl true true 0 []], false, false⟩) (fun s => s = o2) ?_ ?_
  · rintro s13j1 t H e ⟨v2j1, v3j1, v4j1, t2j1, t3j1, t4j1, t13j1, H2j1, H3j1, H4j1⟩ rfl
    try dsimp only at hh
    try simp only [x_frac_Sub, seval, -Int.reduceToNat, hr1, t2j1, t3j1, t4j1, t13j1, H2j1, H3j1, H4j1]
    refine tstC_br (fun hb3 => ?_) (fun hb3 => ?_)
    · replace hh := ite_t hb3 hh
      cases hh
      try simp only [x_frac_Sub, seval, -Int.reduceToNat, hr1, t2j1, t3j1, t4j1, t13j1, H2j1, H3j1, H4j1]
    · replace hh := ite_f hb3 hh
      obtain ⟨r4, hr4, hh⟩ := bindS hh
      obtain ⟨r5, hr5, hh⟩ := bindS hh
      try simp only [x_frac_Sub, seval, -Int.reduceToNat, hr1, t2j1, t3j1, t4j1, t13j1, H2j1, H3j1, H4j1, hr4, hr5]
      refine dyn_ok (by kernel_rfl) ?_
      cases hh
      try simp only [x_frac_Sub, seval, -Int.reduceToNat, hr1, t2j1, t3j1, t4j1, t13j1, H2j1, H3j1, H4j1, hr4, hr5]
  ·
    clear hh
    have hh := ho2
    try simp only [x_frac_Sub, seval, -Int.reduceToNat, hr1]
    refine tstO_br' (fun hb6 => ?_) (fun hb6 => ?_)
    · replace hh := ite_t hb6 hh
      cases hh
      try simp only [x_frac_Sub, seval, -Int.reduceToNat, hr1]
      rw [CK_normal]
      refine ⟨_, rfl, ?_⟩
      refine ⟨0, 0, 0, ?_, ?_, ?_, ?_, ?_, ?_, ?_⟩
      all_goals (first | rfl | (simp only [x_frac_Sub, seval, -Int.reduceToNat, hr1] <;> rfl))
    · replace hh := ite_f hb6 hh
      obtain ⟨r7, hr7, hh⟩ := bindS hh
      cases hh
      try simp only [x_frac_Sub, seval, -Int.reduceToNat, hr1, hr7]
      rw [CK_normal]
      refine ⟨_, rfl, ?_⟩
      refine ⟨0, 0, 0, ?_, ?_, ?_, ?_, ?_, ?_, ?_⟩
      all_goals (first | rfl | (simp only [x_frac_Sub, seval, -Int.reduceToNat, hr1, hr7] <;> rfl))

theorem ok_frac_Sub : COk Try.prog 18 G_frac_Sub := COk.of (mode := .clean) tok ge_frac_Sub mixed Try.func18 (by kernel_rfl) ⟨by kernel_rfl, by kernel_rfl⟩ (fun _ => Nat.le_of_ble_eq_true (by kernel_rfl)) (fun x r h => m_frac_Sub x.1 x.2 r h)

noncomputable def G_bridge_sub := mkG (asC (aAgg eTFrac) (as1 (aAgg eTFrac))) (fun x : TFrac × TFrac => bridge_sub x.1 x.2) (fun r : TFrac => .clean (.agg [.int .i64 r.f_P.f_Sign, .sl false false r.f_P.f_Digits.length (encL (eI .i64) r.f_P.f_Digits), .int .i64 r.f_Q.f_Sign, .sl false false r.f_Q.f_Digits.length (encL (eI .i64) r.f_Q.f_Digits)]))

theorem q_bridge_sub (p0_0 : Int) (p0_1 : (List Int)) (p0_2 : Int) (p0_3 : (List Int)) (p1_0 : Int) (p1_1 : (List Int)) (p1_2 : Int) (p1_3 : (List Int)) : G_bridge_sub none [.agg [.int .i64 p0_0, .sl false false p0_1.length (encL (eI .i64) p0_1), .int .i64 p0_2, .sl false false p0_3.length (encL (eI .i64) p0_3)], .agg [.int .i64 p1_0, .sl false false p1_1.length (encL (eI .i64) p1_1), .int .i64 p1_2, .sl false false p1_3.length (encL (eI .i64) p1_3)]] = (bridge_sub (TFrac.mk (TBig.mk p0_0 p0_1) (TBig.mk p0_2 p0_3)) (TFrac.mk (TBig.mk p1_0 p1_1) (TBig.mk p1_2 p1_3))).map fun r : TFrac => (.clean (.agg [.int .i64 r.f_P.f_Sign, .sl false false r.f_P.f_Digits.length (encL (eI .i64) r.f_P.f_Digits), .int .i64 r.f_Q.f_Sign, .sl false false r.f_Q.f_Digits.length (encL (eI .i64) r.f_Q.f_Digits)]), none) := mkG_eq _ _ _ ((TFrac.mk (TBig.mk p0_0 p0_1) (TBig.mk p0_2 p0_3)), (TFrac.mk (TBig.mk p1_0 p1_1) (TBig.mk p1_2 p1_3)))

noncomputable def g_bridge_sub : Env := (Am.ext noEnv 18 false G_frac_Sub)

theorem ge_bridge_sub : GOk Try.prog g_bridge_sub := (GOk.none.add ok_frac_Sub false)

theorem gg_bridge_sub : g_bridge_sub = (Am.ext noEnv 18 false G_frac_Sub) := Eq.trans rfl rfl

theorem x_bridge_sub : type_of% (And.intro @w <| And.intro @q_frac_Sub <| @gg_bridge_sub) := And.intro @w <| And.intro @q_frac_Sub <| @gg_bridge_sub

theorem m_bridge_sub (p0 : TFrac) (p1 : TFrac) (r : TFrac) (hh : bridge_sub p0 p1 = some r) : vfunc .clean tab g_bridge_sub FU Try.f51 none [.agg [.int .i64 p0.f_P.f_Sign, .sl false false p0.f_P.f_Digits.length (encL (eI .i64) p0.f_P.f_Digits), .int .i64 p0.f_Q.f_Sign, .sl false false p0.f_Q.f_Digits.length (encL (eI .i64) p0.f_Q.f_Digits)], .agg [.int .i64 p1.f_P.f_Sign, .sl false false p1.f_P.f_Digits.length (encL (eI .i64) p1.f_P.f_Digits), .int .i64 p1.f_Q.f_Sign, .sl false false p1.f_Q.f_Digits.length (encL (eI .i64) p1.f_Q.f_Digits)]] = some (.clean (.agg [.int .i64 r.f_P.f_Sign, .sl false false r.f_P.f_Digits.length (encL (eI .i64) r.f_P.f_Digits), .int .i64 r.f_Q.f_Sign, .sl false false r.f_Q.f_Digits.length (encL (eI .i64) r.f_Q.f_Digits)]), none) := by
  refine vfunc_of rfl Try.ntmps51 Try.results51 ?_
  unfold bridge_sub at hh
  obtain ⟨r1, hr1, hh⟩ := bindS hh
  cases hh
  try simp only [x_bridge_sub, seval, -Int.reduceToNat, hr1]

theorem ok_bridge_sub : COk Try.prog 51 G_bridge_sub := COk.of (mode := .clean) tok ge_bridge_sub mixed Try.func51 (by kernel_rfl) ⟨by kernel_rfl, by kernel_rfl⟩ (fun _ => Nat.le_of_ble_eq_true (by kernel_rfl)) (fun x r h => m_bridge_sub x.1 x.2 r h)
end Go.Proofs.Ytoclpeomlofcjaa.Am
