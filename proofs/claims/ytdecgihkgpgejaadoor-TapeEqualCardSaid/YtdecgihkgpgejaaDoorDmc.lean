/- The machine computes the plain functions (written by wip/dec.py). -/
import Derived.Test.YtdecgihkgpgejaaDoorDmb
namespace Go.Proofs.YtdecgihkgpgejaaDoor.Am
open Go.RowKit Go.Proofs.YtdecgihkgpgejaaDoor.P
set_option maxRecDepth 100000
set_option maxHeartbeats 4000000
set_option linter.unusedSimpArgs false
set_option linter.unusedVariables false

noncomputable def G_l50_TapeDraws := mkG (asC (aSl (eI .i64)) (as1 (aI .i64))) (fun x : (List Int) × Int => l50_TapeDraws x.1 x.2) (fun r : Bool => .clean (.bool r))

theorem q_l50_TapeDraws (p0 : (List Int)) (p1 : Int) : G_l50_TapeDraws none [.sl false false p0.length (encL (eI .i64) p0), .int .i64 p1] = (l50_TapeDraws p0 p1).map fun r : Bool => (.clean (.bool r), none) := mkG_eq _ _ _ (p0, p1)

noncomputable def g_l50_TapeDraws : Env := (Am.ext (Am.ext (Am.ext (Am.ext (Am.ext (Am.ext noEnv 9 false G_l50_sane) 11 false G_r50_FewRow) 17 false G_r50_SameInts) 18 false G_tape_Right) 22 false G_tape_Draw) 24 false G_tape_Find)

theorem ge_l50_TapeDraws : GOk Tryd.prog g_l50_TapeDraws := ((((((GOk.none.add ok_l50_sane false).add ok_r50_FewRow false).add ok_r50_SameInts false).add ok_tape_Right false).add ok_tape_Draw false).add ok_tape_Find false)

theorem gg_l50_TapeDraws : g_l50_TapeDraws = (Am.ext (Am.ext (Am.ext (Am.ext (Am.ext (Am.ext noEnv 9 false G_l50_sane) 11 false G_r50_FewRow) 17 false G_r50_SameInts) 18 false G_tape_Right) 22 false G_tape_Draw) 24 false G_tape_Find) := Eq.trans rfl rfl

theorem x_l50_TapeDraws : type_of% (And.intro @w <| And.intro @q_l50_sane <| And.intro @q_r50_FewRow <| And.intro @q_r50_SameInts <| And.intro @q_tape_Right <| And.intro @q_tape_Draw <| And.intro @q_tape_Find <| @gg_l50_TapeDraws) := And.intro @w <| And.intro @q_l50_sane <| And.intro @q_r50_FewRow <| And.intro @q_r50_SameInts <| And.intro @q_tape_Right <| And.intro @q_tape_Draw <| And.intro @q_tape_Find <| @gg_l50_TapeDraws

theorem m_l50_TapeDraws (p0 : (List Int)) (p1 : Int) (r : Bool) (hh : l50_TapeDraws p0 p1 = some r) : vfunc .clean tab g_l50_TapeDraws FU Tryd.f5 none [.sl false false p0.length (encL (eI .i64) p0), .int .i64 p1] = some (.clean (.bool r), none) := by
  refine vfunc_of rfl Tryd.ntmps5 Tryd.results5 ?_
  unfold l50_TapeDraws at hh
  obtain ⟨r1, hr1, hh⟩ := bindS hh
  obtain ⟨r2, hr2, hh⟩ := bindS hh
  try simp only [x_l50_TapeDraws, seval, -Int.reduceToNat, hr1, hr2]
  refine tstC_br (fun hb3 => ?_) (fun hb3 => ?_)
  · replace hh := ite_t hb3 hh
    cases hh
    try simp only [x_l50_TapeDraws, seval, -Int.reduceToNat, hr1, hr2]
  · replace hh := ite_f hb3 hh
    obtain ⟨r4, hr4, hh⟩ := bindS hh
    obtain ⟨r5, hr5, hh⟩ := bindS hh
    try simp only [x_l50_TapeDraws, seval, -Int.reduceToNat, hr1, hr2, hr4, hr5]
    obtain ⟨o6, ho6, hh⟩ := bindS hh
    refine tstO_cut 0 (fun s t H e => match s with | s45j1 => t 0 = .sl false false p0.length (encL (eI .i64) p0) ∧ t 1 = .int .i64 p1 ∧ t 5 = .bool r1 ∧ t 6 = .sl false false r4.1.length (encL (eI .i64) r4.1) ∧ t 7 = .int .i64 r4.2 ∧ t 45 = .bool s45j1) (fun s => s = o6) ?_ ?_
    · rintro s45j1 t H e ⟨t0j1, t1j1, t5j1, t6j1, t7j1, t45j1⟩ rfl
      try dsimp only at hh
      try simp only [x_l50_TapeDraws, seval, -Int.reduceToNat, hr1, hr2, hr4, hr5, t0j1, t1j1, t5j1, t6j1, t7j1, t45j1]
      refine tstC_br (fun hb7 => ?_) (fun hb7 => ?_)
      · replace hh := ite_t hb7 hh
        cases hh
        try simp only [x_l50_TapeDraws, seval, -Int.reduceToNat, hr1, hr2, hr4, hr5, t0j1, t1j1, t5j1, t6j1, t7j1, t45j1]
      · replace hh := ite_f hb7 hh
        try simp only [x_l50_TapeDraws, seval, -Int.reduceToNat, hr1, hr2, hr4, hr5, t0j1, t1j1, t5j1, t6j1, t7j1, t45j1]
        refine tstC_br (fun hb8 => ?_) (fun hb8 => ?_)
        · replace hh := ite_t hb8 hh
          obtain ⟨r9, hr9, hh⟩ := bindS hh
          try simp only [x_l50_TapeDraws, seval, -Int.reduceToNat, hr1, hr2, hr4, hr5, t0j1, t1j1, t5j1, t6j1, t7j1, t45j1, hr9]
          obtain ⟨o10, ho10, hh⟩ := bindS hh
          refine tstO_cut 0 (fun s t H e => match s with | s68j2 => t 0 = .sl false false p0.length (encL (eI .i64) p0) ∧ t 1 = .int .i64 p1 ∧ t 5 = .bool r1 ∧ t 6 = .sl false false r4.1.length (encL (eI .i64) r4.1) ∧ t 68 = .bool s68j2) (fun s => s = o10) ?_ ?_
          · rintro s68j2 t H e ⟨t0j2, t1j2, t5j2, t6j2, t68j2⟩ rfl
            try dsimp only at hh
            try simp only [x_l50_TapeDraws, seval, -Int.reduceToNat, hr1, hr2, hr4, hr5, hr9, t0j2, t1j2, t5j2, t6j2, t68j2]
            refine tstC_br (fun hb11 => ?_) (fun hb11 => ?_)
            · replace hh := ite_t hb11 hh
              cases hh
              try simp only [x_l50_TapeDraws, seval, -Int.reduceToNat, hr1, hr2, hr4, hr5, hr9, t0j2, t1j2, t5j2, t6j2, t68j2]
            · replace hh := ite_f hb11 hh
              try simp only [x_l50_TapeDraws, seval, -Int.reduceToNat, hr1, hr2, hr4, hr5, hr9, t0j2, t1j2, t5j2, t6j2, t68j2]
              obtain ⟨o25, ho25, hh⟩ := bindS hh
              refine runLoop_sim (fun s t H e => match s with | s10c => t 0 = .sl false false p0.length (encL (eI .i64) p0) ∧ t 1 = .int .i64 p1 ∧ t 5 = .bool r1 ∧ t 6 = .sl false false r4.1.length (encL (eI .i64) r4.1) ∧ t 10 = .int .i64 s10c) (fun o x t H e => match o with | (.inl _) => x = .exit 0 ∧ t 0 = .sl false false p0.length (encL (eI .i64) p0) ∧ t 1 = .int .i64 p1 ∧ t 5 = .bool r1 | (.inr r) => x = .ret ∧ endM .clean tab none [.tmp 4] ⟨t, H, e⟩ = some (.clean (.bool r), none)) ho25 ?_ ?_ ?_
              ·
                refine ⟨?_, ?_, ?_, ?_, ?_⟩
                all_goals (first | rfl | (simp only [x_l50_TapeDraws, seval, -Int.reduceToNat, hr1, hr2, hr4, hr5, hr9, t0j2, t1j2, t5j2, t6j2, t68j2] <;> rfl))
              · rintro s10c t H e ⟨t0c, t1c, t5c, t6c, t10c⟩ c hh
                simp only [l50_TapeDraws_L3] at hh
                try simp only [x_l50_TapeDraws, seval, -Int.reduceToNat, hr1, hr2, hr4, hr5, hr9, t0c, t1c, t5c, t6c, t10c]
                refine tstC_br (fun hb26 => ?_) (fun hb26 => ?_)
                · replace hh := ite_t hb26 hh
                  obtain ⟨x27, hx27, hh⟩ := bindS hh
                  have bx27 := idx_bd hx27
                  have ax27 := idx_enc (eI .i64) hx27
                  have fx27 := idx_fit (eI .i64) hx27
                  simp only [vmz] at ax27 fx27
                  skip
                  try simp only [x_l50_TapeDraws, seval, -Int.reduceToNat, hr1, hr2, hr4, hr5, hr9, t0c, t1c, t5c, t6c, t10c, bx27, ax27, fx27]
                  obtain ⟨o28, ho28, hh⟩ := bindS hh
                  refine tstO_cut 0 (fun s t H e => match s with | s87j6 => t 0 = .sl false false p0.length (encL (eI .i64) p0) ∧ t 1 = .int .i64 p1 ∧ t 5 = .bool r1 ∧ t 6 = .sl false false r4.1.length (encL (eI .i64) r4.1) ∧ t 10 = .int .i64 s10c ∧ t 87 = .bool s87j6) (fun s => s = o28) ?_ ?_
                  · rintro s87j6 t H e ⟨t0j6, t1j6, t5j6, t6j6, t10j6, t87j6⟩ rfl
                    try dsimp only at hh
                    try simp only [x_l50_TapeDraws, seval, -Int.reduceToNat, hr1, hr2, hr4, hr5, hr9, bx27, ax27, fx27, t0j6, t1j6, t5j6, t6j6, t10j6, t87j6]
                    refine tstC_br (fun hb29 => ?_) (fun hb29 => ?_)
                    · replace hh := ite_t hb29 hh
                      cases hh
                      try simp only [x_l50_TapeDraws, seval, -Int.reduceToNat, hr1, hr2, hr4, hr5, hr9, bx27, ax27, fx27, t0j6, t1j6, t5j6, t6j6, t10j6, t87j6]
                      rw [LK_ret]
                      refine ⟨_, rfl, ?_⟩
                      refine ⟨rfl, ?_⟩
                      try simp only [x_l50_TapeDraws, seval, -Int.reduceToNat, hr1, hr2, hr4, hr5, hr9, bx27, ax27, fx27, t0j6, t1j6, t5j6, t6j6, t10j6, t87j6]
                    · replace hh := ite_f hb29 hh
                      try simp only [x_l50_TapeDraws, seval, -Int.reduceToNat, hr1, hr2, hr4, hr5, hr9, bx27, ax27, fx27, t0j6, t1j6, t5j6, t6j6, t10j6, t87j6]
                      obtain ⟨o34, ho34, hh⟩ := bindS hh
                      refine runLoop_sim (fun s t H e => match s with | s11g => t 0 = .sl false false p0.length (encL (eI .i64) p0) ∧ t 1 = .int .i64 p1 ∧ t 5 = .bool r1 ∧ t 6 = .sl false false r4.1.length (encL (eI .i64) r4.1) ∧ t 10 = .int .i64 s10c ∧ t 11 = .int .i64 s11g) (fun o x t H e => match o with | (.inl _) => x = .exit 2 ∧ t 0 = .sl false false p0.length (encL (eI .i64) p0) ∧ t 1 = .int .i64 p1 ∧ t 5 = .bool r1 ∧ t 6 = .sl false false r4.1.length (encL (eI .i64) r4.1) ∧ t 10 = .int .i64 s10c | (.inr r) => x = .ret ∧ endM .clean tab none [.tmp 4] ⟨t, H, e⟩ = some (.clean (.bool r), none)) ho34 ?_ ?_ ?_
                      ·
                        refine ⟨?_, ?_, ?_, ?_, ?_, ?_⟩
                        all_goals (first | rfl | (simp only [x_l50_TapeDraws, seval, -Int.reduceToNat, hr1, hr2, hr4, hr5, hr9, bx27, ax27, fx27, t0j6, t1j6, t5j6, t6j6, t10j6, t87j6] <;> rfl))
                      · rintro s11g t H e ⟨t0g, t1g, t5g, t6g, t10g, t11g⟩ c hh
                        simp only [l50_TapeDraws_L7] at hh
                        try simp only [x_l50_TapeDraws, seval, -Int.reduceToNat, hr1, hr2, hr4, hr5, hr9, bx27, ax27, fx27, t0g, t1g, t5g, t6g, t10g, t11g]
                        refine tstC_br (fun hb35 => ?_) (fun hb35 => ?_)
                        · replace hh := ite_t hb35 hh
                          obtain ⟨x36, hx36, hh⟩ := bindS hh
                          have bx36 := idx_bd hx36
                          have ax36 := idx_enc (eI .i64) hx36
                          have fx36 := idx_fit (eI .i64) hx36
                          simp only [vmz] at ax36 fx36
                          skip
                          have bx27 := idx_bd hx27
                          have ax27 := idx_enc (eI .i64) hx27
                          have fx27 := idx_fit (eI .i64) hx27
                          simp only [vmz] at ax27 fx27
                          skip
                          try simp only [x_l50_TapeDraws, seval, -Int.reduceToNat, hr1, hr2, hr4, hr5, hr9, bx27, ax27, fx27, t0g, t1g, t5g, t6g, t10g, t11g, bx36, ax36, fx36, bx27, ax27, fx27]
                          refine dyn_ok (by kernel_rfl) ?_
                          try simp only [x_l50_TapeDraws, seval, -Int.reduceToNat, hr1, hr2, hr4, hr5, hr9, bx27, ax27, fx27, t0g, t1g, t5g, t6g, t10g, t11g, bx36, ax36, fx36, bx27, ax27, fx27]
                          refine tstC_br (fun hb37 => ?_) (fun hb37 => ?_)
                          · replace hh := ite_t hb37 hh
                            cases hh
                            try simp only [x_l50_TapeDraws, seval, -Int.reduceToNat, hr1, hr2, hr4, hr5, hr9, bx27, ax27, fx27, t0g, t1g, t5g, t6g, t10g, t11g, bx36, ax36, fx36, bx27, ax27, fx27]
                            rw [LK_ret]
                            refine ⟨_, rfl, ?_⟩
                            refine ⟨rfl, ?_⟩
                            try simp only [x_l50_TapeDraws, seval, -Int.reduceToNat, hr1, hr2, hr4, hr5, hr9, bx27, ax27, fx27, t0g, t1g, t5g, t6g, t10g, t11g, bx36, ax36, fx36, bx27, ax27, fx27]
                          · replace hh := ite_f hb37 hh
                            cases hh
                            try simp only [x_l50_TapeDraws, seval, -Int.reduceToNat, hr1, hr2, hr4, hr5, hr9, bx27, ax27, fx27, t0g, t1g, t5g, t6g, t10g, t11g, bx36, ax36, fx36, bx27, ax27, fx27]
                            rw [LK_normal]
                            refine ⟨_, rfl, ?_⟩
                            refine ⟨?_, ?_, ?_, ?_, ?_, ?_⟩
                            all_goals (first | rfl | (simp only [x_l50_TapeDraws, seval, -Int.reduceToNat, hr1, hr2, hr4, hr5, hr9, bx27, ax27, fx27, t0g, t1g, t5g, t6g, t10g, t11g, bx36, ax36, fx36, bx27, ax27, fx27] <;> rfl))
                        · replace hh := ite_f hb35 hh
                          cases hh
                          try simp only [x_l50_TapeDraws, seval, -Int.reduceToNat, hr1, hr2, hr4, hr5, hr9, bx27, ax27, fx27, t0g, t1g, t5g, t6g, t10g, t11g]
                          rw [LK_exit]
                          refine ⟨_, rfl, ?_⟩
                          refine ⟨rfl, ⟨?_, ?_, ?_, ?_, ?_⟩⟩
                          all_goals (first | rfl | (simp only [x_l50_TapeDraws, seval, -Int.reduceToNat, hr1, hr2, hr4, hr5, hr9, bx27, ax27, fx27, t0g, t1g, t5g, t6g, t10g, t11g] <;> rfl))
                      · rintro x t H e hx
                        rcases o34 with _ | rg
                        ·
                          dsimp only at hx hh
                          obtain ⟨rfl, ⟨t0gx, t1gx, t5gx, t6gx, t10gx⟩⟩ := hx
                          cases hh
                          try simp only [x_l50_TapeDraws, seval, -Int.reduceToNat, hr1, hr2, hr4, hr5, hr9, bx27, ax27, fx27, t0gx, t1gx, t5gx, t6gx, t10gx]
                          rw [LK_normal]
                          refine ⟨_, rfl, ?_⟩
                          refine ⟨?_, ?_, ?_, ?_, ?_⟩
                          all_goals (first | rfl | (simp only [x_l50_TapeDraws, seval, -Int.reduceToNat, hr1, hr2, hr4, hr5, hr9, bx27, ax27, fx27, t0gx, t1gx, t5gx, t6gx, t10gx] <;> rfl))
                        ·
                          dsimp only at hx hh
                          obtain ⟨rfl, hE⟩ := hx
                          cases hh
                          try simp only [runW_pass_ret, runW_pass_exit, runW_blk_ret, runW_nil, endW_ret]
                          rw [LK_ret]
                          refine ⟨_, rfl, ?_⟩
                          first | exact ⟨rfl, hE⟩ | (simp only [x_l50_TapeDraws, seval, -Int.reduceToNat] at hE; exact ⟨rfl, hE⟩)
                  ·
                    clear hh
                    have hh := ho28
                    try simp only [x_l50_TapeDraws, seval, -Int.reduceToNat, hr1, hr2, hr4, hr5, hr9, t0c, t1c, t5c, t6c, t10c, bx27, ax27, fx27]
                    refine tstO_br' (fun hb38 => ?_) (fun hb38 => ?_)
                    · replace hh := ite_t hb38 hh
                      cases hh
                      try simp only [x_l50_TapeDraws, seval, -Int.reduceToNat, hr1, hr2, hr4, hr5, hr9, t0c, t1c, t5c, t6c, t10c, bx27, ax27, fx27]
                      rw [CK_normal]
                      refine ⟨_, rfl, ?_⟩
                      refine ⟨?_, ?_, ?_, ?_, ?_, ?_⟩
                      all_goals (first | rfl | (simp only [x_l50_TapeDraws, seval, -Int.reduceToNat, hr1, hr2, hr4, hr5, hr9, t0c, t1c, t5c, t6c, t10c, bx27, ax27, fx27] <;> rfl))
                    · replace hh := ite_f hb38 hh
                      have bx27 := idx_bd hx27
                      have ax27 := idx_enc (eI .i64) hx27
                      have fx27 := idx_fit (eI .i64) hx27
                      simp only [vmz] at ax27 fx27
                      skip
                      cases hh
                      try simp only [x_l50_TapeDraws, seval, -Int.reduceToNat, hr1, hr2, hr4, hr5, hr9, t0c, t1c, t5c, t6c, t10c, bx27, ax27, fx27, bx27, ax27, fx27]
                      rw [CK_normal]
                      refine ⟨_, rfl, ?_⟩
                      refine ⟨?_, ?_, ?_, ?_, ?_, ?_⟩
                      all_goals (first | rfl | (simp only [x_l50_TapeDraws, seval, -Int.reduceToNat, hr1, hr2, hr4, hr5, hr9, t0c, t1c, t5c, t6c, t10c, bx27, ax27, fx27, bx27, ax27, fx27] <;> rfl))
                · replace hh := ite_f hb26 hh
                  cases hh
                  try simp only [x_l50_TapeDraws, seval, -Int.reduceToNat, hr1, hr2, hr4, hr5, hr9, t0c, t1c, t5c, t6c, t10c]
                  rw [LK_exit]
                  refine ⟨_, rfl, ?_⟩
                  refine ⟨rfl, ⟨?_, ?_, ?_⟩⟩
                  all_goals (first | rfl | (simp only [x_l50_TapeDraws, seval, -Int.reduceToNat, hr1, hr2, hr4, hr5, hr9, t0c, t1c, t5c, t6c, t10c] <;> rfl))
              · rintro x t H e hx
                rcases o25 with _ | rc
                ·
                  dsimp only at hx hh
                  obtain ⟨rfl, ⟨t0cx, t1cx, t5cx⟩⟩ := hx
                  obtain ⟨r39, hr39, hh⟩ := bindS hh
                  try simp only [x_l50_TapeDraws, seval, -Int.reduceToNat, hr1, hr2, hr4, hr5, hr9, t0cx, t1cx, t5cx, hr39]
                  refine tstC_br (fun hb40 => ?_) (fun hb40 => ?_)
                  · replace hh := ite_t hb40 hh
                    try simp only [x_l50_TapeDraws, seval, -Int.reduceToNat, hr1, hr2, hr4, hr5, hr9, t0cx, t1cx, t5cx, hr39]
                    obtain ⟨o41, ho41, hh⟩ := bindS hh
                    refine tstO_cut 0 (fun s t H e => match s with | s4j8 => t 4 = .bool s4j8) (fun s => s = o41) ?_ ?_
                    · rintro s4j8 t H e t4j8 rfl
                      try dsimp only at hh
                      cases hh
                      try simp only [x_l50_TapeDraws, seval, -Int.reduceToNat, hr1, hr2, hr4, hr5, hr9, hr39, t4j8]
                    ·
                      clear hh
                      have hh := ho41
                      try simp only [x_l50_TapeDraws, seval, -Int.reduceToNat, hr1, hr2, hr4, hr5, hr9, t0cx, t1cx, t5cx, hr39]
                      refine tstO_br (fun hb42 => ?_) (fun hb42 => ?_)
                      · replace hh := ite_t hb42 hh
                        cases hh
                        try simp only [x_l50_TapeDraws, seval, -Int.reduceToNat, hr1, hr2, hr4, hr5, hr9, t0cx, t1cx, t5cx, hr39]
                        rw [CK_normal]
                        refine ⟨_, rfl, ?_⟩
                        refine ?_
                        all_goals (first | rfl | (simp only [x_l50_TapeDraws, seval, -Int.reduceToNat, hr1, hr2, hr4, hr5, hr9, t0cx, t1cx, t5cx, hr39] <;> rfl))
                      · replace hh := ite_f hb42 hh
                        cases hh
                        try simp only [x_l50_TapeDraws, seval, -Int.reduceToNat, hr1, hr2, hr4, hr5, hr9, t0cx, t1cx, t5cx, hr39]
                        rw [CK_normal]
                        refine ⟨_, rfl, ?_⟩
                        refine ?_
                        all_goals (first | rfl | (simp only [x_l50_TapeDraws, seval, -Int.reduceToNat, hr1, hr2, hr4, hr5, hr9, t0cx, t1cx, t5cx, hr39] <;> rfl))
                  · replace hh := ite_f hb40 hh
                    obtain ⟨r43, hr43, hh⟩ := bindS hh
                    try simp only [x_l50_TapeDraws, seval, -Int.reduceToNat, hr1, hr2, hr4, hr5, hr9, t0cx, t1cx, t5cx, hr39, hr43]
                    refine tstO_br (fun hb44 => ?_) (fun hb44 => ?_)
                    · replace hh := ite_t hb44 hh
                      try simp only [x_l50_TapeDraws, seval, -Int.reduceToNat, hr1, hr2, hr4, hr5, hr9, t0cx, t1cx, t5cx, hr39, hr43]
                      refine tstO_br (fun hb45 => ?_) (fun hb45 => ?_)
                      · replace hh := ite_t hb45 hh
                        obtain ⟨r46, hr46, hh⟩ := bindS hh
                        try simp only [x_l50_TapeDraws, seval, -Int.reduceToNat, hr1, hr2, hr4, hr5, hr9, t0cx, t1cx, t5cx, hr39, hr43, hr46]
                        refine tstO_br (fun hb47 => ?_) (fun hb47 => ?_)
                        · replace hh := ite_t hb47 hh
                          obtain ⟨r48, hr48, hh⟩ := bindS hh
                          cases hh
                          try simp only [x_l50_TapeDraws, seval, -Int.reduceToNat, hr1, hr2, hr4, hr5, hr9, t0cx, t1cx, t5cx, hr39, hr43, hr46, hr48]
                        · replace hh := ite_f hb47 hh
                          cases hh
                          try simp only [x_l50_TapeDraws, seval, -Int.reduceToNat, hr1, hr2, hr4, hr5, hr9, t0cx, t1cx, t5cx, hr39, hr43, hr46]
                      · replace hh := ite_f hb45 hh
                        cases hh
                        try simp only [x_l50_TapeDraws, seval, -Int.reduceToNat, hr1, hr2, hr4, hr5, hr9, t0cx, t1cx, t5cx, hr39, hr43]
                    · replace hh := ite_f hb44 hh
                      cases hh
                      try simp only [x_l50_TapeDraws, seval, -Int.reduceToNat, hr1, hr2, hr4, hr5, hr9, t0cx, t1cx, t5cx, hr39, hr43]
                ·
                  dsimp only at hx hh
                  obtain ⟨rfl, hE⟩ := hx
                  cases hh
                  try simp only [runW_pass_ret, runW_pass_exit, runW_blk_ret, runW_nil, endW_ret]
                  exact hE
          ·
            clear hh
            have hh := ho10
            try simp only [x_l50_TapeDraws, seval, -Int.reduceToNat, hr1, hr2, hr4, hr5, t0j1, t1j1, t5j1, t6j1, t7j1, t45j1, hr9]
            refine tstO_br' (fun hb49 => ?_) (fun hb49 => ?_)
            · replace hh := ite_t hb49 hh
              cases hh
              try simp only [x_l50_TapeDraws, seval, -Int.reduceToNat, hr1, hr2, hr4, hr5, t0j1, t1j1, t5j1, t6j1, t7j1, t45j1, hr9]
              rw [CK_normal]
              refine ⟨_, rfl, ?_⟩
              refine ⟨?_, ?_, ?_, ?_, ?_⟩
              all_goals (first | rfl | (simp only [x_l50_TapeDraws, seval, -Int.reduceToNat, hr1, hr2, hr4, hr5, t0j1, t1j1, t5j1, t6j1, t7j1, t45j1, hr9] <;> rfl))
            · replace hh := ite_f hb49 hh
              obtain ⟨r50, hr50, hh⟩ := bindS hh
              try simp only [x_l50_TapeDraws, seval, -Int.reduceToNat, hr1, hr2, hr4, hr5, t0j1, t1j1, t5j1, t6j1, t7j1, t45j1, hr9, hr50]
              refine tstO_br' (fun hb51 => ?_) (fun hb51 => ?_)
              · replace hh := ite_t hb51 hh
                cases hh
                try simp only [x_l50_TapeDraws, seval, -Int.reduceToNat, hr1, hr2, hr4, hr5, t0j1, t1j1, t5j1, t6j1, t7j1, t45j1, hr9, hr50]
                rw [CK_normal]
                refine ⟨_, rfl, ?_⟩
                refine ⟨?_, ?_, ?_, ?_, ?_⟩
                all_goals (first | rfl | (simp only [x_l50_TapeDraws, seval, -Int.reduceToNat, hr1, hr2, hr4, hr5, t0j1, t1j1, t5j1, t6j1, t7j1, t45j1, hr9, hr50] <;> rfl))
              · replace hh := ite_f hb51 hh
                cases hh
                try simp only [x_l50_TapeDraws, seval, -Int.reduceToNat, hr1, hr2, hr4, hr5, t0j1, t1j1, t5j1, t6j1, t7j1, t45j1, hr9, hr50]
                rw [CK_normal]
                refine ⟨_, rfl, ?_⟩
                refine ⟨?_, ?_, ?_, ?_, ?_⟩
                all_goals (first | rfl | (simp only [x_l50_TapeDraws, seval, -Int.reduceToNat, hr1, hr2, hr4, hr5, t0j1, t1j1, t5j1, t6j1, t7j1, t45j1, hr9, hr50] <;> rfl))
        · replace hh := ite_f hb8 hh
          obtain ⟨r52, hr52, hh⟩ := bindS hh
          try simp only [x_l50_TapeDraws, seval, -Int.reduceToNat, hr1, hr2, hr4, hr5, t0j1, t1j1, t5j1, t6j1, t7j1, t45j1, hr52]
          refine tstC_br (fun hb53 => ?_) (fun hb53 => ?_)
          · replace hh := ite_t hb53 hh
            try simp only [x_l50_TapeDraws, seval, -Int.reduceToNat, hr1, hr2, hr4, hr5, t0j1, t1j1, t5j1, t6j1, t7j1, t45j1, hr52]
            obtain ⟨o54, ho54, hh⟩ := bindS hh
            refine tstO_cut 0 (fun s t H e => match s with | s4j9 => t 4 = .bool s4j9) (fun s => s = o54) ?_ ?_
            · rintro s4j9 t H e t4j9 rfl
              try dsimp only at hh
              cases hh
              try simp only [x_l50_TapeDraws, seval, -Int.reduceToNat, hr1, hr2, hr4, hr5, hr52, t4j9]
            ·
              clear hh
              have hh := ho54
              try simp only [x_l50_TapeDraws, seval, -Int.reduceToNat, hr1, hr2, hr4, hr5, t0j1, t1j1, t5j1, t6j1, t7j1, t45j1, hr52]
              refine tstO_br (fun hb55 => ?_) (fun hb55 => ?_)
              · replace hh := ite_t hb55 hh
                cases hh
                try simp only [x_l50_TapeDraws, seval, -Int.reduceToNat, hr1, hr2, hr4, hr5, t0j1, t1j1, t5j1, t6j1, t7j1, t45j1, hr52]
                rw [CK_normal]
                refine ⟨_, rfl, ?_⟩
                refine ?_
                all_goals (first | rfl | (simp only [x_l50_TapeDraws, seval, -Int.reduceToNat, hr1, hr2, hr4, hr5, t0j1, t1j1, t5j1, t6j1, t7j1, t45j1, hr52] <;> rfl))
              · replace hh := ite_f hb55 hh
                cases hh
                try simp only [x_l50_TapeDraws, seval, -Int.reduceToNat, hr1, hr2, hr4, hr5, t0j1, t1j1, t5j1, t6j1, t7j1, t45j1, hr52]
                rw [CK_normal]
                refine ⟨_, rfl, ?_⟩
                refine ?_
                all_goals (first | rfl | (simp only [x_l50_TapeDraws, seval, -Int.reduceToNat, hr1, hr2, hr4, hr5, t0j1, t1j1, t5j1, t6j1, t7j1, t45j1, hr52] <;> rfl))
          · replace hh := ite_f hb53 hh
            obtain ⟨r56, hr56, hh⟩ := bindS hh
            try simp only [x_l50_TapeDraws, seval, -Int.reduceToNat, hr1, hr2, hr4, hr5, t0j1, t1j1, t5j1, t6j1, t7j1, t45j1, hr52, hr56]
            refine tstO_br (fun hb57 => ?_) (fun hb57 => ?_)
            · replace hh := ite_t hb57 hh
              try simp only [x_l50_TapeDraws, seval, -Int.reduceToNat, hr1, hr2, hr4, hr5, t0j1, t1j1, t5j1, t6j1, t7j1, t45j1, hr52, hr56]
              refine tstO_br (fun hb58 => ?_) (fun hb58 => ?_)
              · replace hh := ite_t hb58 hh
                obtain ⟨r59, hr59, hh⟩ := bindS hh
                try simp only [x_l50_TapeDraws, seval, -Int.reduceToNat, hr1, hr2, hr4, hr5, t0j1, t1j1, t5j1, t6j1, t7j1, t45j1, hr52, hr56, hr59]
                refine tstO_br (fun hb60 => ?_) (fun hb60 => ?_)
                · replace hh := ite_t hb60 hh
                  obtain ⟨r61, hr61, hh⟩ := bindS hh
                  cases hh
                  try simp only [x_l50_TapeDraws, seval, -Int.reduceToNat, hr1, hr2, hr4, hr5, t0j1, t1j1, t5j1, t6j1, t7j1, t45j1, hr52, hr56, hr59, hr61]
                · replace hh := ite_f hb60 hh
                  cases hh
                  try simp only [x_l50_TapeDraws, seval, -Int.reduceToNat, hr1, hr2, hr4, hr5, t0j1, t1j1, t5j1, t6j1, t7j1, t45j1, hr52, hr56, hr59]
              · replace hh := ite_f hb58 hh
                cases hh
                try simp only [x_l50_TapeDraws, seval, -Int.reduceToNat, hr1, hr2, hr4, hr5, t0j1, t1j1, t5j1, t6j1, t7j1, t45j1, hr52, hr56]
            · replace hh := ite_f hb57 hh
              cases hh
              try simp only [x_l50_TapeDraws, seval, -Int.reduceToNat, hr1, hr2, hr4, hr5, t0j1, t1j1, t5j1, t6j1, t7j1, t45j1, hr52, hr56]
    ·
      clear hh
      have hh := ho6
      try simp only [x_l50_TapeDraws, seval, -Int.reduceToNat, hr1, hr2, hr4, hr5]
      refine tstO_br' (fun hb62 => ?_) (fun hb62 => ?_)
      · replace hh := ite_t hb62 hh
        cases hh
        try simp only [x_l50_TapeDraws, seval, -Int.reduceToNat, hr1, hr2, hr4, hr5]
        rw [CK_normal]
        refine ⟨_, rfl, ?_⟩
        refine ⟨?_, ?_, ?_, ?_, ?_, ?_⟩
        all_goals (first | rfl | (simp only [x_l50_TapeDraws, seval, -Int.reduceToNat, hr1, hr2, hr4, hr5] <;> rfl))
      · replace hh := ite_f hb62 hh
        try simp only [x_l50_TapeDraws, seval, -Int.reduceToNat, hr1, hr2, hr4, hr5]
        refine tstO_br (fun hb63 => ?_) (fun hb63 => ?_)
        · replace hh := ite_t hb63 hh
          try simp only [x_l50_TapeDraws, seval, -Int.reduceToNat, hr1, hr2, hr4, hr5]
          refine tstO_br' (fun hb64 => ?_) (fun hb64 => ?_)
          · replace hh := ite_t hb64 hh
            cases hh
            try simp only [x_l50_TapeDraws, seval, -Int.reduceToNat, hr1, hr2, hr4, hr5]
            rw [CK_normal]
            refine ⟨_, rfl, ?_⟩
            refine ⟨?_, ?_, ?_, ?_, ?_, ?_⟩
            all_goals (first | rfl | (simp only [x_l50_TapeDraws, seval, -Int.reduceToNat, hr1, hr2, hr4, hr5] <;> rfl))
          · replace hh := ite_f hb64 hh
            cases hh
            try simp only [x_l50_TapeDraws, seval, -Int.reduceToNat, hr1, hr2, hr4, hr5]
            rw [CK_normal]
            refine ⟨_, rfl, ?_⟩
            refine ⟨?_, ?_, ?_, ?_, ?_, ?_⟩
            all_goals (first | rfl | (simp only [x_l50_TapeDraws, seval, -Int.reduceToNat, hr1, hr2, hr4, hr5] <;> rfl))
        · replace hh := ite_f hb63 hh
          cases hh
          try simp only [x_l50_TapeDraws, seval, -Int.reduceToNat, hr1, hr2, hr4, hr5]
          rw [CK_normal]
          refine ⟨_, rfl, ?_⟩
          refine ⟨?_, ?_, ?_, ?_, ?_, ?_⟩
          all_goals (first | rfl | (simp only [x_l50_TapeDraws, seval, -Int.reduceToNat, hr1, hr2, hr4, hr5] <;> rfl))

theorem ok_l50_TapeDraws : COk Tryd.prog 5 G_l50_TapeDraws := COk.of (mode := .clean) tok ge_l50_TapeDraws mixed Tryd.func5 (by kernel_rfl) ⟨by kernel_rfl, by kernel_rfl⟩ (fun _ => Nat.le_of_ble_eq_true (by kernel_rfl)) (fun x r h => m_l50_TapeDraws x.1 x.2 r h)

noncomputable def G_l50_TapeEqual := mkG (asC (aI .u8) (asC (aI .u8) (as1 (aI .u8)))) (fun x : Int × Int × Int => l50_TapeEqual x.1 x.2.1 x.2.2) (fun r : Bool => .clean (.bool r))

theorem q_l50_TapeEqual (p0 : Int) (p1 : Int) (p2 : Int) : G_l50_TapeEqual none [.int .u8 p0, .int .u8 p1, .int .u8 p2] = (l50_TapeEqual p0 p1 p2).map fun r : Bool => (.clean (.bool r), none) := mkG_eq _ _ _ (p0, p1, p2)

noncomputable def g_l50_TapeEqual : Env := (Am.keep 12 (Am.ext (Am.ext (Am.ext (Am.ext noEnv 9 false G_l50_sane) 22 false G_tape_Draw) 26 false G_l50_next) 27 false G_l50_set))

theorem ge_l50_TapeEqual : GOk Tryd.prog g_l50_TapeEqual := (GOk.keep ((((GOk.none.add ok_l50_sane false).add ok_tape_Draw false).add ok_l50_next false).add ok_l50_set false) 12)

theorem gg_l50_TapeEqual : g_l50_TapeEqual = (Am.keep 12 (Am.ext (Am.ext (Am.ext (Am.ext noEnv 9 false G_l50_sane) 22 false G_tape_Draw) 26 false G_l50_next) 27 false G_l50_set)) := Eq.trans rfl rfl

theorem x_l50_TapeEqual : type_of% (And.intro @w <| And.intro @q_l50_sane <| And.intro @q_tape_Draw <| And.intro @q_l50_next <| And.intro @q_l50_set <| @gg_l50_TapeEqual) := And.intro @w <| And.intro @q_l50_sane <| And.intro @q_tape_Draw <| And.intro @q_l50_next <| And.intro @q_l50_set <| @gg_l50_TapeEqual

theorem m_l50_TapeEqual (p0 : Int) (p1 : Int) (p2 : Int) (r : Bool) (hh : l50_TapeEqual p0 p1 p2 = some r) : vfunc .clean tab g_l50_TapeEqual FU Tryd.f6 none [.int .u8 p0, .int .u8 p1, .int .u8 p2] = some (.clean (.bool r), none) := by
  refine vfunc_of rfl Tryd.ntmps6 Tryd.results6 ?_
  unfold l50_TapeEqual at hh
  obtain ⟨r1, hr1, hh⟩ := bindS hh
  obtain ⟨x2, hx2, hh⟩ := bindS hh
  obtain ⟨q3a, q3b⟩ := modI_ok hx2
  obtain ⟨x4, hx4, hh⟩ := bindS hh
  obtain ⟨q5a, q5b⟩ := modI_ok hx4
  try simp only [x_l50_TapeEqual, seval, -Int.reduceToNat, hr1, q3a, q3b, q5a, q5b]
  obtain ⟨o7, ho7, hh⟩ := bindS hh
  refine runLoop_sim (fun s t H e => match s with | (s10a, s11a) => t 2 = .int .u8 p2 ∧ t 7 = .bool r1 ∧ t 8 = .int .i64 x2 ∧ t 9 = .int .i64 (if x4 < x2 then x4 else x2) ∧ t 10 = .int .i64 s10a ∧ t 11 = .int .i64 s11a) (fun o x t H e => match o with | s10ax => x = .exit 0 ∧ t 2 = .int .u8 p2 ∧ t 7 = .bool r1 ∧ t 8 = .int .i64 x2 ∧ t 9 = .int .i64 (if x4 < x2 then x4 else x2) ∧ t 10 = .int .i64 s10ax) ho7 ?_ ?_ ?_
  ·
    refine ⟨?_, ?_, ?_, ?_, ?_, ?_⟩
    all_goals (first | rfl | (simp only [x_l50_TapeEqual, seval, -Int.reduceToNat, hr1, q3a, q3b, q5a, q5b] <;> rfl))
  · rintro ⟨s10a, s11a⟩ t H e ⟨t2a, t7a, t8a, t9a, t10a, t11a⟩ c hh
    simp only [l50_TapeEqual_L1] at hh
    try simp only [x_l50_TapeEqual, seval, -Int.reduceToNat, hr1, q3a, q3b, q5a, q5b, t2a, t7a, t8a, t9a, t10a, t11a]
    refine tstC_br (fun hb8 => ?_) (fun hb8 => ?_)
    · replace hh := ite_t hb8 hh
      cases hh
      try simp only [x_l50_TapeEqual, seval, -Int.reduceToNat, hr1, q3a, q3b, q5a, q5b, t2a, t7a, t8a, t9a, t10a, t11a]
      rw [LK_normal]
      refine ⟨_, rfl, ?_⟩
      refine ⟨?_, ?_, ?_, ?_, ?_, ?_⟩
      all_goals (first | rfl | (simp only [x_l50_TapeEqual, seval, -Int.reduceToNat, hr1, q3a, q3b, q5a, q5b, t2a, t7a, t8a, t9a, t10a, t11a] <;> rfl))
    · replace hh := ite_f hb8 hh
      cases hh
      try simp only [x_l50_TapeEqual, seval, -Int.reduceToNat, hr1, q3a, q3b, q5a, q5b, t2a, t7a, t8a, t9a, t10a, t11a]
      rw [LK_exit]
      refine ⟨_, rfl, ?_⟩
      refine ⟨rfl, ⟨?_, ?_, ?_, ?_, ?_⟩⟩
      all_goals (first | rfl | (simp only [x_l50_TapeEqual, seval, -Int.reduceToNat, hr1, q3a, q3b, q5a, q5b, t2a, t7a, t8a, t9a, t10a, t11a] <;> rfl))
  · rintro x t H e hx
    obtain ⟨s10ax, rfl⟩ : ∃ z, z = o7 := ⟨_, rfl⟩
    dsimp only at hx hh
    obtain ⟨rfl, ⟨t2ax, t7ax, t8ax, t9ax, t10ax⟩⟩ := hx
    obtain ⟨x9, hx9, hh⟩ := bindS hh
    obtain ⟨q10a, q10b, q10c, q10d, q10e⟩ := mk_one (eI .i64) hx9
    simp only [vmz] at q10d
    obtain ⟨x11, hx11, hh⟩ := bindS hh
    obtain ⟨q12a, q12b, q12c, q12d, q12e⟩ := mk_one (eI .i64) hx11
    simp only [vmz] at q12d
    try simp only [x_l50_TapeEqual, seval, -Int.reduceToNat, hr1, q3a, q3b, q5a, q5b, t2ax, t7ax, t8ax, t9ax, t10ax, q10a, q10b, q10c, q10d, q10e, q12a, q12b, q12c, q12d, q12e]
    obtain ⟨o28, ho28, hh⟩ := bindS hh
    refine runLoop_sim (fun s t H e => match s with | (s12b, s15b, l13b, l14b) => ∃ v13b : Nat, ∃ v14b : Nat, t 2 = .int .u8 p2 ∧ t 7 = .bool r1 ∧ t 8 = .int .i64 x2 ∧ t 9 = .int .i64 (if x4 < x2 then x4 else x2) ∧ t 10 = .int .i64 s10ax ∧ t 12 = .sl false false s12b.length (encL (eI .i64) s12b) ∧ t 13 = .buf 13 v13b 1 0 (l13b).length ∧ t 14 = .buf 14 v14b 1 0 (l14b).length ∧ t 15 = .bool s15b ∧ H 13 = some ⟨v13b, 3, encL (eI .i64) l13b, false, true, false⟩ ∧ H 14 = some ⟨v14b, 3, encL (eI .i64) l14b, false, true, false⟩) (fun o x t H e => match o with | (.inl (l13bx, l14bx)) => x = .exit 2 ∧ ∃ v13bx : Nat, ∃ v14bx : Nat, t 2 = .int .u8 p2 ∧ t 7 = .bool r1 ∧ t 10 = .int .i64 s10ax ∧ t 13 = .buf 13 v13bx 1 0 (l13bx).length ∧ t 14 = .buf 14 v14bx 1 0 (l14bx).length ∧ H 13 = some ⟨v13bx, 3, encL (eI .i64) l13bx, false, true, false⟩ ∧ H 14 = some ⟨v14bx, 3, encL (eI .i64) l14bx, false, true, false⟩ | (.inr r) => x = .ret ∧ endM .clean tab none [.tmp 6] ⟨t, H, e⟩ = some (.clean (.bool r), none)) ho28 ?_ ?_ ?_
    ·
      refine ⟨e + 1, e + 1 + 1, ?_, ?_, ?_, ?_, ?_, ?_, ?_, ?_, ?_, ?_, ?_⟩
      all_goals (first | rfl | (simp only [x_l50_TapeEqual, seval, -Int.reduceToNat, hr1, q3a, q3b, q5a, q5b, t2ax, t7ax, t8ax, t9ax, t10ax, q10a, q10b, q10c, q10d, q10e, q12a, q12b, q12c, q12d, q12e] <;> rfl))
    · rintro ⟨s12b, s15b, l13b, l14b⟩ t H e ⟨v13b, v14b, t2b, t7b, t8b, t9b, t10b, t12b, t13b, t14b, t15b, H13b, H14b⟩ c hh
      simp only [l50_TapeEqual_L2] at hh
      try simp only [x_l50_TapeEqual, seval, -Int.reduceToNat, hr1, q3a, q3b, q5a, q5b, q10a, q10b, q10c, q10d, q10e, q12a, q12b, q12c, q12d, q12e, t2b, t7b, t8b, t9b, t10b, t12b, t13b, t14b, t15b, H13b, H14b]
      refine tstC_br (fun hb29 => ?_) (fun hb29 => ?_)
      · replace hh := ite_t hb29 hh
        obtain ⟨r30, hr30, hh⟩ := bindS hh
        try simp only [x_l50_TapeEqual, seval, -Int.reduceToNat, hr1, q3a, q3b, q5a, q5b, q10a, q10b, q10c, q10d, q10e, q12a, q12b, q12c, q12d, q12e, t2b, t7b, t8b, t9b, t10b, t12b, t13b, t14b, t15b, H13b, H14b, hr30]
        obtain ⟨o31, ho31, hh⟩ := bindS hh
        refine tstO_cut 0 (fun s t H e => match s with | s64j5 => ∃ v13j5 : Nat, ∃ v14j5 : Nat, t 2 = .int .u8 p2 ∧ t 7 = .bool r1 ∧ t 8 = .int .i64 x2 ∧ t 9 = .int .i64 (if x4 < x2 then x4 else x2) ∧ t 10 = .int .i64 s10ax ∧ t 12 = .sl false false s12b.length (encL (eI .i64) s12b) ∧ t 13 = .buf 13 v13j5 1 0 (l13b).length ∧ t 14 = .buf 14 v14j5 1 0 (l14b).length ∧ t 16 = .sl false false r30.1.length (encL (eI .i64) r30.1) ∧ t 64 = .bool s64j5 ∧ H 13 = some ⟨v13j5, 3, encL (eI .i64) l13b, false, true, false⟩ ∧ H 14 = some ⟨v14j5, 3, encL (eI .i64) l14b, false, true, false⟩) (fun s => s = o31) ?_ ?_
        · rintro s64j5 t H e ⟨v13j5, v14j5, t2j5, t7j5, t8j5, t9j5, t10j5, t12j5, t13j5, t14j5, t16j5, t64j5, H13j5, H14j5⟩ rfl
          try dsimp only at hh
          try simp only [x_l50_TapeEqual, seval, -Int.reduceToNat, hr1, q3a, q3b, q5a, q5b, q10a, q10b, q10c, q10d, q10e, q12a, q12b, q12c, q12d, q12e, hr30, t2j5, t7j5, t8j5, t9j5, t10j5, t12j5, t13j5, t14j5, t16j5, t64j5, H13j5, H14j5]
          refine tstC_br (fun hb32 => ?_) (fun hb32 => ?_)
          · replace hh := ite_t hb32 hh
            cases hh
            try simp only [x_l50_TapeEqual, seval, -Int.reduceToNat, hr1, q3a, q3b, q5a, q5b, q10a, q10b, q10c, q10d, q10e, q12a, q12b, q12c, q12d, q12e, hr30, t2j5, t7j5, t8j5, t9j5, t10j5, t12j5, t13j5, t14j5, t16j5, t64j5, H13j5, H14j5]
            rw [LK_ret]
            refine ⟨_, rfl, ?_⟩
            refine ⟨rfl, ?_⟩
            try simp only [x_l50_TapeEqual, seval, -Int.reduceToNat, hr1, q3a, q3b, q5a, q5b, q10a, q10b, q10c, q10d, q10e, q12a, q12b, q12c, q12d, q12e, hr30, t2j5, t7j5, t8j5, t9j5, t10j5, t12j5, t13j5, t14j5, t16j5, t64j5, H13j5, H14j5]
          · replace hh := ite_f hb32 hh
            obtain ⟨r33, hr33, hh⟩ := bindS hh
            obtain ⟨x34, hx34, hh⟩ := bindS hh
            have bx34 := idx_bd hx34
            have ax34 := idx_enc (eI .i64) hx34
            have fx34 := idx_fit (eI .i64) hx34
            simp only [vmz] at ax34 fx34
            skip
            try simp only [x_l50_TapeEqual, seval, -Int.reduceToNat, hr1, q3a, q3b, q5a, q5b, q10a, q10b, q10c, q10d, q10e, q12a, q12b, q12c, q12d, q12e, hr30, t2j5, t7j5, t8j5, t9j5, t10j5, t12j5, t13j5, t14j5, t16j5, t64j5, H13j5, H14j5, hr33, bx34, ax34, fx34]
            obtain ⟨o35, ho35, hh⟩ := bindS hh
            refine tstC_cut 0 (fun s t H e => match s with | l14j6 => ∃ v13j6 : Nat, ∃ v14j6 : Nat, t 2 = .int .u8 p2 ∧ t 7 = .bool r1 ∧ t 8 = .int .i64 x2 ∧ t 9 = .int .i64 (if x4 < x2 then x4 else x2) ∧ t 10 = .int .i64 s10ax ∧ t 12 = .sl false false s12b.length (encL (eI .i64) s12b) ∧ t 13 = .buf 13 v13j6 1 0 (l13b).length ∧ t 14 = .buf 14 v14j6 1 0 (l14j6).length ∧ t 16 = .sl false false r30.1.length (encL (eI .i64) r30.1) ∧ H 13 = some ⟨v13j6, 3, encL (eI .i64) l13b, false, true, false⟩ ∧ H 14 = some ⟨v14j6, 3, encL (eI .i64) l14j6, false, true, false⟩) (fun s => s = o35) ?_ ?_
            · rintro l14j6 t H e ⟨v13j6, v14j6, t2j6, t7j6, t8j6, t9j6, t10j6, t12j6, t13j6, t14j6, t16j6, H13j6, H14j6⟩ rfl
              try dsimp only at hh
              have bx34 := idx_bd hx34
              have ax34 := idx_enc (eI .i64) hx34
              have fx34 := idx_fit (eI .i64) hx34
              simp only [vmz] at ax34 fx34
              skip
              have bx34 := idx_bd hx34
              have ax34 := idx_enc (eI .i64) hx34
              have fx34 := idx_fit (eI .i64) hx34
              simp only [vmz] at ax34 fx34
              skip
              have p36 := put_enc (eI .i64) (x' := IntKind.i64.wrap (x34 + 1)) (fo := 0) (cs := [.int .i64 (IntKind.i64.wrap (x34 + 1))]) hx34 rfl (Nat.le_of_ble_eq_true rfl)
              simp only [vmz, Nat.add_zero] at p36
              have up36 := p36
              simp only [putCells, List.length_cons, List.length_nil, Nat.zero_add, Nat.reduceAdd] at up36
              obtain ⟨r37, hr37, hh⟩ := bindS hh
              cases hh
              try simp only [x_l50_TapeEqual, seval, -Int.reduceToNat, hr1, q3a, q3b, q5a, q5b, q10a, q10b, q10c, q10d, q10e, q12a, q12b, q12c, q12d, q12e, hr30, hr33, bx34, ax34, fx34, t2j6, t7j6, t8j6, t9j6, t10j6, t12j6, t13j6, t14j6, t16j6, H13j6, H14j6, bx34, ax34, fx34, bx34, ax34, fx34, p36, up36, hr37]
              rw [LK_normal]
              refine ⟨_, rfl, ?_⟩
              refine ⟨v13j6, v14j6, ?_, ?_, ?_, ?_, ?_, ?_, ?_, ?_, ?_, ?_, ?_⟩
              all_goals (first | rfl | (simp only [x_l50_TapeEqual, seval, -Int.reduceToNat, hr1, q3a, q3b, q5a, q5b, q10a, q10b, q10c, q10d, q10e, q12a, q12b, q12c, q12d, q12e, hr30, hr33, bx34, ax34, fx34, t2j6, t7j6, t8j6, t9j6, t10j6, t12j6, t13j6, t14j6, t16j6, H13j6, H14j6, bx34, ax34, fx34, bx34, ax34, fx34, p36, up36, hr37] <;> rfl))
            ·
              clear hh
              have hh := ho35
              try simp only [x_l50_TapeEqual, seval, -Int.reduceToNat, hr1, q3a, q3b, q5a, q5b, q10a, q10b, q10c, q10d, q10e, q12a, q12b, q12c, q12d, q12e, hr30, t2j5, t7j5, t8j5, t9j5, t10j5, t12j5, t13j5, t14j5, t16j5, t64j5, H13j5, H14j5, hr33, bx34, ax34, fx34]
              refine tstC_br (fun hb38 => ?_) (fun hb38 => ?_)
              · replace hh := ite_t hb38 hh
                obtain ⟨x39, hx39, hh⟩ := bindS hh
                obtain ⟨q40a, q40b, q40c, q40d⟩ := app_one (eI .i64) hx39
                simp only [vmz] at q40b
                cases hh
                try simp only [x_l50_TapeEqual, seval, -Int.reduceToNat, hr1, q3a, q3b, q5a, q5b, q10a, q10b, q10c, q10d, q10e, q12a, q12b, q12c, q12d, q12e, hr30, t2j5, t7j5, t8j5, t9j5, t10j5, t12j5, t13j5, t14j5, t16j5, t64j5, H13j5, H14j5, hr33, bx34, ax34, fx34, q40a, q40b, q40c, q40d]
                rw [CK_normal]
                refine ⟨_, rfl, ?_⟩
                refine ⟨v13j5, e + 1, ?_, ?_, ?_, ?_, ?_, ?_, ?_, ?_, ?_, ?_, ?_⟩
                all_goals (first | rfl | (simp only [x_l50_TapeEqual, seval, -Int.reduceToNat, hr1, q3a, q3b, q5a, q5b, q10a, q10b, q10c, q10d, q10e, q12a, q12b, q12c, q12d, q12e, hr30, t2j5, t7j5, t8j5, t9j5, t10j5, t12j5, t13j5, t14j5, t16j5, t64j5, H13j5, H14j5, hr33, bx34, ax34, fx34, q40a, q40b, q40c, q40d] <;> rfl))
              · replace hh := ite_f hb38 hh
                cases hh
                try simp only [x_l50_TapeEqual, seval, -Int.reduceToNat, hr1, q3a, q3b, q5a, q5b, q10a, q10b, q10c, q10d, q10e, q12a, q12b, q12c, q12d, q12e, hr30, t2j5, t7j5, t8j5, t9j5, t10j5, t12j5, t13j5, t14j5, t16j5, t64j5, H13j5, H14j5, hr33, bx34, ax34, fx34]
                rw [CK_normal]
                refine ⟨_, rfl, ?_⟩
                refine ⟨v13j5, v14j5, ?_, ?_, ?_, ?_, ?_, ?_, ?_, ?_, ?_, ?_, ?_⟩
                all_goals (first | rfl | (simp only [x_l50_TapeEqual, seval, -Int.reduceToNat, hr1, q3a, q3b, q5a, q5b, q10a, q10b, q10c, q10d, q10e, q12a, q12b, q12c, q12d, q12e, hr30, t2j5, t7j5, t8j5, t9j5, t10j5, t12j5, t13j5, t14j5, t16j5, t64j5, H13j5, H14j5, hr33, bx34, ax34, fx34] <;> rfl))
        ·
          clear hh
          have hh := ho31
          try simp only [x_l50_TapeEqual, seval, -Int.reduceToNat, hr1, q3a, q3b, q5a, q5b, q10a, q10b, q10c, q10d, q10e, q12a, q12b, q12c, q12d, q12e, t2b, t7b, t8b, t9b, t10b, t12b, t13b, t14b, t15b, H13b, H14b, hr30]
          refine tstO_br' (fun hb41 => ?_) (fun hb41 => ?_)
          · replace hh := ite_t hb41 hh
            cases hh
            try simp only [x_l50_TapeEqual, seval, -Int.reduceToNat, hr1, q3a, q3b, q5a, q5b, q10a, q10b, q10c, q10d, q10e, q12a, q12b, q12c, q12d, q12e, t2b, t7b, t8b, t9b, t10b, t12b, t13b, t14b, t15b, H13b, H14b, hr30]
            rw [CK_normal]
            refine ⟨_, rfl, ?_⟩
            refine ⟨v13b, v14b, ?_, ?_, ?_, ?_, ?_, ?_, ?_, ?_, ?_, ?_, ?_, ?_⟩
            all_goals (first | rfl | (simp only [x_l50_TapeEqual, seval, -Int.reduceToNat, hr1, q3a, q3b, q5a, q5b, q10a, q10b, q10c, q10d, q10e, q12a, q12b, q12c, q12d, q12e, t2b, t7b, t8b, t9b, t10b, t12b, t13b, t14b, t15b, H13b, H14b, hr30] <;> rfl))
          · replace hh := ite_f hb41 hh
            try simp only [x_l50_TapeEqual, seval, -Int.reduceToNat, hr1, q3a, q3b, q5a, q5b, q10a, q10b, q10c, q10d, q10e, q12a, q12b, q12c, q12d, q12e, t2b, t7b, t8b, t9b, t10b, t12b, t13b, t14b, t15b, H13b, H14b, hr30]
            refine tstO_br' (fun hb42 => ?_) (fun hb42 => ?_)
            · replace hh := ite_t hb42 hh
              cases hh
              try simp only [x_l50_TapeEqual, seval, -Int.reduceToNat, hr1, q3a, q3b, q5a, q5b, q10a, q10b, q10c, q10d, q10e, q12a, q12b, q12c, q12d, q12e, t2b, t7b, t8b, t9b, t10b, t12b, t13b, t14b, t15b, H13b, H14b, hr30]
              rw [CK_normal]
              refine ⟨_, rfl, ?_⟩
              refine ⟨v13b, v14b, ?_, ?_, ?_, ?_, ?_, ?_, ?_, ?_, ?_, ?_, ?_, ?_⟩
              all_goals (first | rfl | (simp only [x_l50_TapeEqual, seval, -Int.reduceToNat, hr1, q3a, q3b, q5a, q5b, q10a, q10b, q10c, q10d, q10e, q12a, q12b, q12c, q12d, q12e, t2b, t7b, t8b, t9b, t10b, t12b, t13b, t14b, t15b, H13b, H14b, hr30] <;> rfl))
            · replace hh := ite_f hb42 hh
              obtain ⟨r43, hr43, hh⟩ := bindS hh
              cases hh
              try simp only [x_l50_TapeEqual, seval, -Int.reduceToNat, hr1, q3a, q3b, q5a, q5b, q10a, q10b, q10c, q10d, q10e, q12a, q12b, q12c, q12d, q12e, t2b, t7b, t8b, t9b, t10b, t12b, t13b, t14b, t15b, H13b, H14b, hr30, hr43]
              rw [CK_normal]
              refine ⟨_, rfl, ?_⟩
              refine ⟨v13b, v14b, ?_, ?_, ?_, ?_, ?_, ?_, ?_, ?_, ?_, ?_, ?_, ?_⟩
              all_goals (first | rfl | (simp only [x_l50_TapeEqual, seval, -Int.reduceToNat, hr1, q3a, q3b, q5a, q5b, q10a, q10b, q10c, q10d, q10e, q12a, q12b, q12c, q12d, q12e, t2b, t7b, t8b, t9b, t10b, t12b, t13b, t14b, t15b, H13b, H14b, hr30, hr43] <;> rfl))
      · replace hh := ite_f hb29 hh
        cases hh
        try simp only [x_l50_TapeEqual, seval, -Int.reduceToNat, hr1, q3a, q3b, q5a, q5b, q10a, q10b, q10c, q10d, q10e, q12a, q12b, q12c, q12d, q12e, t2b, t7b, t8b, t9b, t10b, t12b, t13b, t14b, t15b, H13b, H14b]
        rw [LK_exit]
        refine ⟨_, rfl, ?_⟩
        refine ⟨rfl, ⟨v13b, v14b, ?_, ?_, ?_, ?_, ?_, ?_, ?_⟩⟩
        all_goals (first | rfl | (simp only [x_l50_TapeEqual, seval, -Int.reduceToNat, hr1, q3a, q3b, q5a, q5b, q10a, q10b, q10c, q10d, q10e, q12a, q12b, q12c, q12d, q12e, t2b, t7b, t8b, t9b, t10b, t12b, t13b, t14b, t15b, H13b, H14b] <;> rfl))
    · rintro x t H e hx
      rcases o28 with ⟨l13bx, l14bx⟩ | rb
      ·
        dsimp only at hx hh
        obtain ⟨rfl, ⟨v13bx, v14bx, t2bx, t7bx, t10bx, t13bx, t14bx, H13bx, H14bx⟩⟩ := hx
        try simp only [x_l50_TapeEqual, seval, -Int.reduceToNat, hr1, q3a, q3b, q5a, q5b, q10a, q10b, q10c, q10d, q10e, q12a, q12b, q12c, q12d, q12e, t2bx, t7bx, t10bx, t13bx, t14bx, H13bx, H14bx]
        refine tstO_br (fun hb44 => ?_) (fun hb44 => ?_)
        · replace hh := ite_t hb44 hh
          try simp only [x_l50_TapeEqual, seval, -Int.reduceToNat, hr1, q3a, q3b, q5a, q5b, q10a, q10b, q10c, q10d, q10e, q12a, q12b, q12c, q12d, q12e, t2bx, t7bx, t10bx, t13bx, t14bx, H13bx, H14bx]
          refine tstO_br (fun hb45 => ?_) (fun hb45 => ?_)
          · replace hh := ite_t hb45 hh
            obtain ⟨x46, hx46, hh⟩ := bindS hh
            obtain ⟨q47a, q47b⟩ := modI_ok hx46
            obtain ⟨x48, hx48, hh⟩ := bindS hh
            have bx48 := idx_bd hx48
            have ax48 := idx_enc (eI .i64) hx48
            have fx48 := idx_fit (eI .i64) hx48
            simp only [vmz] at ax48 fx48
            skip
            obtain ⟨x49, hx49, hh⟩ := bindS hh
            have bx49 := idx_bd hx49
            have ax49 := idx_enc (eI .i64) hx49
            have fx49 := idx_fit (eI .i64) hx49
            simp only [vmz] at ax49 fx49
            skip
            cases hh
            try simp only [x_l50_TapeEqual, seval, -Int.reduceToNat, hr1, q3a, q3b, q5a, q5b, q10a, q10b, q10c, q10d, q10e, q12a, q12b, q12c, q12d, q12e, t2bx, t7bx, t10bx, t13bx, t14bx, H13bx, H14bx, q47a, q47b, bx48, ax48, fx48, bx49, ax49, fx49]
          · replace hh := ite_f hb45 hh
            cases hh
            try simp only [x_l50_TapeEqual, seval, -Int.reduceToNat, hr1, q3a, q3b, q5a, q5b, q10a, q10b, q10c, q10d, q10e, q12a, q12b, q12c, q12d, q12e, t2bx, t7bx, t10bx, t13bx, t14bx, H13bx, H14bx]
        · replace hh := ite_f hb44 hh
          cases hh
          try simp only [x_l50_TapeEqual, seval, -Int.reduceToNat, hr1, q3a, q3b, q5a, q5b, q10a, q10b, q10c, q10d, q10e, q12a, q12b, q12c, q12d, q12e, t2bx, t7bx, t10bx, t13bx, t14bx, H13bx, H14bx]
      ·
        dsimp only at hx hh
        obtain ⟨rfl, hE⟩ := hx
        cases hh
        try simp only [runW_pass_ret, runW_pass_exit, runW_blk_ret, runW_nil, endW_ret]
        exact hE

theorem ok_l50_TapeEqual : COk Tryd.prog 6 G_l50_TapeEqual := COk.of (mode := .clean) tok ge_l50_TapeEqual mixed Tryd.func6 (by kernel_rfl) ⟨by kernel_rfl, by kernel_rfl⟩ (fun _ => Nat.le_of_ble_eq_true (by kernel_rfl)) (fun x r h => m_l50_TapeEqual x.1 x.2.1 x.2.2 r h)

noncomputable def G_l50_TapeOrder := mkG (asC (aSl (eSl (eI .i64))) (asC (aI .i64) (asC (aI .i64) (as1 (aI .u8))))) (fun x : (List (List Int)) × Int × Int × Int => l50_TapeOrder x.1 x.2.1 x.2.2.1 x.2.2.2) (fun r : Bool => .clean (.bool r))

theorem q_l50_TapeOrder (p0 : (List (List Int))) (p1 : Int) (p2 : Int) (p3 : Int) : G_l50_TapeOrder none [.sl false false p0.length (encL (eSl (eI .i64)) p0), .int .i64 p1, .int .i64 p2, .int .u8 p3] = (l50_TapeOrder p0 p1 p2 p3).map fun r : Bool => (.clean (.bool r), none) := mkG_eq _ _ _ (p0, p1, p2, p3)

noncomputable def g_l50_TapeOrder : Env := (Am.ext (Am.ext (Am.ext (Am.ext noEnv 9 false G_l50_sane) 10 false G_r50_Few) 13 false G_tape_Tape) 17 false G_r50_SameInts)

theorem ge_l50_TapeOrder : GOk Tryd.prog g_l50_TapeOrder := ((((GOk.none.add ok_l50_sane false).add ok_r50_Few false).add ok_tape_Tape false).add ok_r50_SameInts false)

theorem gg_l50_TapeOrder : g_l50_TapeOrder = (Am.ext (Am.ext (Am.ext (Am.ext noEnv 9 false G_l50_sane) 10 false G_r50_Few) 13 false G_tape_Tape) 17 false G_r50_SameInts) := Eq.trans rfl rfl

theorem x_l50_TapeOrder : type_of% (And.intro @w <| And.intro @q_l50_sane <| And.intro @q_r50_Few <| And.intro @q_tape_Tape <| And.intro @q_r50_SameInts <| @gg_l50_TapeOrder) := And.intro @w <| And.intro @q_l50_sane <| And.intro @q_r50_Few <| And.intro @q_tape_Tape <| And.intro @q_r50_SameInts <| @gg_l50_TapeOrder

theorem m_l50_TapeOrder (p0 : (List (List Int))) (p1 : Int) (p2 : Int) (p3 : Int) (r : Bool) (hh : l50_TapeOrder p0 p1 p2 p3 = some r) : vfunc .clean tab g_l50_TapeOrder FU Tryd.f7 none [.sl false false p0.length (encL (eSl (eI .i64)) p0), .int .i64 p1, .int .i64 p2, .int .u8 p3] = some (.clean (.bool r), none) := by
  refine vfunc_of rfl Tryd.ntmps7 Tryd.results7 ?_
  unfold l50_TapeOrder at hh
  obtain ⟨r1, hr1, hh⟩ := bindS hh
  obtain ⟨r2, hr2, hh⟩ := bindS hh
  try simp only [x_l50_TapeOrder, seval, -Int.reduceToNat, hr1, hr2]
  obtain ⟨o3, ho3, hh⟩ := bindS hh
  refine tstO_cut 0 (fun s t H e => match s with | s32j1 => t 0 = .sl false false p0.length (encL (eSl (eI .i64)) p0) ∧ t 1 = .int .i64 p1 ∧ t 2 = .int .i64 p2 ∧ t 3 = .int .u8 p3 ∧ t 9 = .bool r1 ∧ t 32 = .bool s32j1) (fun s => s = o3) ?_ ?_
  · rintro s32j1 t H e ⟨t0j1, t1j1, t2j1, t3j1, t9j1, t32j1⟩ rfl
    try dsimp only at hh
    try simp only [x_l50_TapeOrder, seval, -Int.reduceToNat, hr1, hr2, t0j1, t1j1, t2j1, t3j1, t9j1, t32j1]
    refine tstC_br (fun hb4 => ?_) (fun hb4 => ?_)
    · replace hh := ite_t hb4 hh
      cases hh
      try simp only [x_l50_TapeOrder, seval, -Int.reduceToNat, hr1, hr2, t0j1, t1j1, t2j1, t3j1, t9j1, t32j1]
    · replace hh := ite_f hb4 hh
      obtain ⟨x5, hx5, hh⟩ := bindS hh
      obtain ⟨q6a, q6b⟩ := modI_ok hx5
      obtain ⟨r7, hr7, hh⟩ := bindS hh
      obtain ⟨x8, hx8, hh⟩ := bindS hh
      obtain ⟨q9a, q9b, q9c, q9d, q9e⟩ := slc_ln (eSl (eI .i64)) hx8
      simp only [vmz] at q9e
      obtain ⟨x10, hx10, hh⟩ := bindS hh
      obtain ⟨q11a, q11b, q11c⟩ := app_nil hx10
      replace q11a := q11a.symm
      subst q11a
      obtain ⟨x12, hx12, hh⟩ := bindS hh
      obtain ⟨q13a, q13b, q13c, q13d, q13e⟩ := slc_nh (eSl (eI .i64)) hx12
      simp only [vmz] at q13e
      have q13i := q9d
      have q13j := q9e
      try simp only [q13d] at q13i q13j
      obtain ⟨x14, hx14, hh⟩ := bindS hh
      obtain ⟨q15a, q15b, q15c, q15d⟩ := app_two (eSl (eI .i64)) hx14
      obtain ⟨r16, hr16, hh⟩ := bindS hh
      try simp only [x_l50_TapeOrder, seval, -Int.reduceToNat, hr1, hr2, t0j1, t1j1, t2j1, t3j1, t9j1, t32j1, q6a, q6b, hr7, q9a, q9b, q9c, q9d, q9e, q11b, q11c, q13a, q13b, q13c, q13d, q13e, q13i, q13j, q15a, q15b, q15c, q15d, hr16]
      refine dyn_ok (by kernel_rfl) ?_
      try simp only [x_l50_TapeOrder, seval, -Int.reduceToNat, hr1, hr2, t0j1, t1j1, t2j1, t3j1, t9j1, t32j1, q6a, q6b, hr7, q9a, q9b, q9c, q9d, q9e, q11b, q11c, q13a, q13b, q13c, q13d, q13e, q13i, q13j, q15a, q15b, q15c, q15d, hr16]
      obtain ⟨o17, ho17, hh⟩ := bindS hh
      refine tstO_cut 0 (fun s t H e => match s with | s69j2 => t 0 = .sl false false p0.length (encL (eSl (eI .i64)) p0) ∧ t 1 = .int .i64 p1 ∧ t 2 = .int .i64 p2 ∧ t 9 = .bool r1 ∧ t 10 = .int .i64 x5 ∧ t 11 = .sl false false r7.1.length (encL (eI .i64) r7.1) ∧ t 12 = .int .i64 r7.2 ∧ t 69 = .bool s69j2) (fun s => s = o17) ?_ ?_
      · rintro s69j2 t H e ⟨t0j2, t1j2, t2j2, t9j2, t10j2, t11j2, t12j2, t69j2⟩ rfl
        try dsimp only at hh
        try simp only [x_l50_TapeOrder, seval, -Int.reduceToNat, hr1, hr2, q6a, q6b, hr7, q9a, q9b, q9c, q9d, q9e, q11b, q11c, q13a, q13b, q13c, q13d, q13e, q13i, q13j, q15a, q15b, q15c, q15d, hr16, t0j2, t1j2, t2j2, t9j2, t10j2, t11j2, t12j2, t69j2]
        refine tstC_br (fun hb18 => ?_) (fun hb18 => ?_)
        · replace hh := ite_t hb18 hh
          cases hh
          try simp only [x_l50_TapeOrder, seval, -Int.reduceToNat, hr1, hr2, q6a, q6b, hr7, q9a, q9b, q9c, q9d, q9e, q11b, q11c, q13a, q13b, q13c, q13d, q13e, q13i, q13j, q15a, q15b, q15c, q15d, hr16, t0j2, t1j2, t2j2, t9j2, t10j2, t11j2, t12j2, t69j2]
        · replace hh := ite_f hb18 hh
          try simp only [x_l50_TapeOrder, seval, -Int.reduceToNat, hr1, hr2, q6a, q6b, hr7, q9a, q9b, q9c, q9d, q9e, q11b, q11c, q13a, q13b, q13c, q13d, q13e, q13i, q13j, q15a, q15b, q15c, q15d, hr16, t0j2, t1j2, t2j2, t9j2, t10j2, t11j2, t12j2, t69j2]
          obtain ⟨o19, ho19, hh⟩ := bindS hh
          refine tstO_cut 0 (fun s t H e => match s with | s79j3 => t 0 = .sl false false p0.length (encL (eSl (eI .i64)) p0) ∧ t 1 = .int .i64 p1 ∧ t 2 = .int .i64 p2 ∧ t 9 = .bool r1 ∧ t 10 = .int .i64 x5 ∧ t 11 = .sl false false r7.1.length (encL (eI .i64) r7.1) ∧ t 12 = .int .i64 r7.2 ∧ t 79 = .bool s79j3) (fun s => s = o19) ?_ ?_
          · rintro s79j3 t H e ⟨t0j3, t1j3, t2j3, t9j3, t10j3, t11j3, t12j3, t79j3⟩ rfl
            try dsimp only at hh
            try simp only [x_l50_TapeOrder, seval, -Int.reduceToNat, hr1, hr2, q6a, q6b, hr7, q9a, q9b, q9c, q9d, q9e, q11b, q11c, q13a, q13b, q13c, q13d, q13e, q13i, q13j, q15a, q15b, q15c, q15d, hr16, t0j3, t1j3, t2j3, t9j3, t10j3, t11j3, t12j3, t79j3]
            refine tstC_br (fun hb20 => ?_) (fun hb20 => ?_)
            · replace hh := ite_t hb20 hh
              try simp only [x_l50_TapeOrder, seval, -Int.reduceToNat, hr1, hr2, q6a, q6b, hr7, q9a, q9b, q9c, q9d, q9e, q11b, q11c, q13a, q13b, q13c, q13d, q13e, q13i, q13j, q15a, q15b, q15c, q15d, hr16, t0j3, t1j3, t2j3, t9j3, t10j3, t11j3, t12j3, t79j3]
              obtain ⟨o21, ho21, hh⟩ := bindS hh
              refine tstO_cut 0 (fun s t H e => match s with | s8j4 => t 8 = .bool s8j4) (fun s => s = o21) ?_ ?_
              · rintro s8j4 t H e t8j4 rfl
                try dsimp only at hh
                cases hh
                try simp only [x_l50_TapeOrder, seval, -Int.reduceToNat, hr1, hr2, q6a, q6b, hr7, q9a, q9b, q9c, q9d, q9e, q11b, q11c, q13a, q13b, q13c, q13d, q13e, q13i, q13j, q15a, q15b, q15c, q15d, hr16, t8j4]
              ·
                clear hh
                have hh := ho21
                try simp only [x_l50_TapeOrder, seval, -Int.reduceToNat, hr1, hr2, q6a, q6b, hr7, q9a, q9b, q9c, q9d, q9e, q11b, q11c, q13a, q13b, q13c, q13d, q13e, q13i, q13j, q15a, q15b, q15c, q15d, hr16, t0j3, t1j3, t2j3, t9j3, t10j3, t11j3, t12j3, t79j3]
                refine tstO_br (fun hb22 => ?_) (fun hb22 => ?_)
                · replace hh := ite_t hb22 hh
                  cases hh
                  try simp only [x_l50_TapeOrder, seval, -Int.reduceToNat, hr1, hr2, q6a, q6b, hr7, q9a, q9b, q9c, q9d, q9e, q11b, q11c, q13a, q13b, q13c, q13d, q13e, q13i, q13j, q15a, q15b, q15c, q15d, hr16, t0j3, t1j3, t2j3, t9j3, t10j3, t11j3, t12j3, t79j3]
                  rw [CK_normal]
                  refine ⟨_, rfl, ?_⟩
                  refine ?_
                  all_goals (first | rfl | (simp only [x_l50_TapeOrder, seval, -Int.reduceToNat, hr1, hr2, q6a, q6b, hr7, q9a, q9b, q9c, q9d, q9e, q11b, q11c, q13a, q13b, q13c, q13d, q13e, q13i, q13j, q15a, q15b, q15c, q15d, hr16, t0j3, t1j3, t2j3, t9j3, t10j3, t11j3, t12j3, t79j3] <;> rfl))
                · replace hh := ite_f hb22 hh
                  cases hh
                  try simp only [x_l50_TapeOrder, seval, -Int.reduceToNat, hr1, hr2, q6a, q6b, hr7, q9a, q9b, q9c, q9d, q9e, q11b, q11c, q13a, q13b, q13c, q13d, q13e, q13i, q13j, q15a, q15b, q15c, q15d, hr16, t0j3, t1j3, t2j3, t9j3, t10j3, t11j3, t12j3, t79j3]
                  rw [CK_normal]
                  refine ⟨_, rfl, ?_⟩
                  refine ?_
                  all_goals (first | rfl | (simp only [x_l50_TapeOrder, seval, -Int.reduceToNat, hr1, hr2, q6a, q6b, hr7, q9a, q9b, q9c, q9d, q9e, q11b, q11c, q13a, q13b, q13c, q13d, q13e, q13i, q13j, q15a, q15b, q15c, q15d, hr16, t0j3, t1j3, t2j3, t9j3, t10j3, t11j3, t12j3, t79j3] <;> rfl))
            · replace hh := ite_f hb20 hh
              obtain ⟨x23, hx23, hh⟩ := bindS hh
              obtain ⟨q24a, q24b, q24c⟩ := app_nil hx23
              replace q24a := q24a.symm
              subst q24a
              obtain ⟨x25, hx25, hh⟩ := bindS hh
              obtain ⟨q26a, q26b, q26c, q26d, q26e⟩ := mk_one (eI .i64) hx25
              simp only [vmz] at q26d
              obtain ⟨x27, hx27, hh⟩ := bindS hh
              obtain ⟨q28a, q28b, q28c, q28d⟩ := app_one (eSl (eI .i64)) hx27
              simp only [vmz] at q28b
              obtain ⟨r29, hr29, hh⟩ := bindS hh
              try simp only [x_l50_TapeOrder, seval, -Int.reduceToNat, hr1, hr2, q6a, q6b, hr7, q9a, q9b, q9c, q9d, q9e, q11b, q11c, q13a, q13b, q13c, q13d, q13e, q13i, q13j, q15a, q15b, q15c, q15d, hr16, t0j3, t1j3, t2j3, t9j3, t10j3, t11j3, t12j3, t79j3, q24b, q24c, q26a, q26b, q26c, q26d, q26e, q28a, q28b, q28c, q28d, hr29]
              refine dyn_ok (by kernel_rfl) ?_
              obtain ⟨x30, hx30, hh⟩ := bindS hh
              obtain ⟨q31a, q31b, q31c, q31d, q31e⟩ := slc_lh (eSl (eI .i64)) hx30
              simp only [vmz] at q31e
              have q31i := q31d
              have q31j := q31e
              have q31k := q31c
              try simp only [q13d] at q31i q31j q31k
              obtain ⟨r32, hr32, hh⟩ := bindS hh
              try simp only [x_l50_TapeOrder, seval, -Int.reduceToNat, hr1, hr2, q6a, q6b, hr7, q9a, q9b, q9c, q9d, q9e, q11b, q11c, q13a, q13b, q13c, q13d, q13e, q13i, q13j, q15a, q15b, q15c, q15d, hr16, t0j3, t1j3, t2j3, t9j3, t10j3, t11j3, t12j3, t79j3, q24b, q24c, q26a, q26b, q26c, q26d, q26e, q28a, q28b, q28c, q28d, hr29, q31a, q31b, q31c, q31d, q31e, q31i, q31j, q31k, hr32]
              refine tstO_br (fun hb33 => ?_) (fun hb33 => ?_)
              · replace hh := ite_t hb33 hh
                try simp only [x_l50_TapeOrder, seval, -Int.reduceToNat, hr1, hr2, q6a, q6b, hr7, q9a, q9b, q9c, q9d, q9e, q11b, q11c, q13a, q13b, q13c, q13d, q13e, q13i, q13j, q15a, q15b, q15c, q15d, hr16, t0j3, t1j3, t2j3, t9j3, t10j3, t11j3, t12j3, t79j3, q24b, q24c, q26a, q26b, q26c, q26d, q26e, q28a, q28b, q28c, q28d, hr29, q31a, q31b, q31c, q31d, q31e, q31i, q31j, q31k, hr32]
                refine tstO_br (fun hb34 => ?_) (fun hb34 => ?_)
                · replace hh := ite_t hb34 hh
                  try simp only [x_l50_TapeOrder, seval, -Int.reduceToNat, hr1, hr2, q6a, q6b, hr7, q9a, q9b, q9c, q9d, q9e, q11b, q11c, q13a, q13b, q13c, q13d, q13e, q13i, q13j, q15a, q15b, q15c, q15d, hr16, t0j3, t1j3, t2j3, t9j3, t10j3, t11j3, t12j3, t79j3, q24b, q24c, q26a, q26b, q26c, q26d, q26e, q28a, q28b, q28c, q28d, hr29, q31a, q31b, q31c, q31d, q31e, q31i, q31j, q31k, hr32]
                  refine tstO_br (fun hb35 => ?_) (fun hb35 => ?_)
                  · replace hh := ite_t hb35 hh
                    obtain ⟨r36, hr36, hh⟩ := bindS hh
                    try simp only [x_l50_TapeOrder, seval, -Int.reduceToNat, hr1, hr2, q6a, q6b, hr7, q9a, q9b, q9c, q9d, q9e, q11b, q11c, q13a, q13b, q13c, q13d, q13e, q13i, q13j, q15a, q15b, q15c, q15d, hr16, t0j3, t1j3, t2j3, t9j3, t10j3, t11j3, t12j3, t79j3, q24b, q24c, q26a, q26b, q26c, q26d, q26e, q28a, q28b, q28c, q28d, hr29, q31a, q31b, q31c, q31d, q31e, q31i, q31j, q31k, hr32, hr36]
                    refine tstO_br (fun hb37 => ?_) (fun hb37 => ?_)
                    · replace hh := ite_t hb37 hh
                      obtain ⟨x38, hx38, hh⟩ := bindS hh
                      have bx38 := idx_bd hx38
                      have ax38 := idx_enc (eSl (eI .i64)) hx38
                      have fx38 := idx_fit (eSl (eI .i64)) hx38
                      simp only [vmz] at ax38 fx38
                      skip
                      obtain ⟨r39, hr39, hh⟩ := bindS hh
                      cases hh
                      try simp only [x_l50_TapeOrder, seval, -Int.reduceToNat, hr1, hr2, q6a, q6b, hr7, q9a, q9b, q9c, q9d, q9e, q11b, q11c, q13a, q13b, q13c, q13e, q13i, q13j, q15a, q15b, q15c, q15d, hr16, t0j3, t1j3, t2j3, t9j3, t10j3, t11j3, t12j3, t79j3, q24b, q24c, q26a, q26b, q26c, q26d, q26e, q28a, q28b, q28c, q28d, hr29, q31a, q31b, q31c, q31d, q31e, q31i, q31j, q31k, hr32, hr36, bx38, ax38, fx38, hr39]
                    · replace hh := ite_f hb37 hh
                      cases hh
                      try simp only [x_l50_TapeOrder, seval, -Int.reduceToNat, hr1, hr2, q6a, q6b, hr7, q9a, q9b, q9c, q9d, q9e, q11b, q11c, q13a, q13b, q13c, q13d, q13e, q13i, q13j, q15a, q15b, q15c, q15d, hr16, t0j3, t1j3, t2j3, t9j3, t10j3, t11j3, t12j3, t79j3, q24b, q24c, q26a, q26b, q26c, q26d, q26e, q28a, q28b, q28c, q28d, hr29, q31a, q31b, q31c, q31d, q31e, q31i, q31j, q31k, hr32, hr36]
                  · replace hh := ite_f hb35 hh
                    cases hh
                    try simp only [x_l50_TapeOrder, seval, -Int.reduceToNat, hr1, hr2, q6a, q6b, hr7, q9a, q9b, q9c, q9d, q9e, q11b, q11c, q13a, q13b, q13c, q13d, q13e, q13i, q13j, q15a, q15b, q15c, q15d, hr16, t0j3, t1j3, t2j3, t9j3, t10j3, t11j3, t12j3, t79j3, q24b, q24c, q26a, q26b, q26c, q26d, q26e, q28a, q28b, q28c, q28d, hr29, q31a, q31b, q31c, q31d, q31e, q31i, q31j, q31k, hr32]
                · replace hh := ite_f hb34 hh
                  cases hh
                  try simp only [x_l50_TapeOrder, seval, -Int.reduceToNat, hr1, hr2, q6a, q6b, hr7, q9a, q9b, q9c, q9d, q9e, q11b, q11c, q13a, q13b, q13c, q13d, q13e, q13i, q13j, q15a, q15b, q15c, q15d, hr16, t0j3, t1j3, t2j3, t9j3, t10j3, t11j3, t12j3, t79j3, q24b, q24c, q26a, q26b, q26c, q26d, q26e, q28a, q28b, q28c, q28d, hr29, q31a, q31b, q31c, q31d, q31e, q31i, q31j, q31k, hr32]
              · replace hh := ite_f hb33 hh
                cases hh
                try simp only [x_l50_TapeOrder, seval, -Int.reduceToNat, hr1, hr2, q6a, q6b, hr7, q9a, q9b, q9c, q9d, q9e, q11b, q11c, q13a, q13b, q13c, q13d, q13e, q13i, q13j, q15a, q15b, q15c, q15d, hr16, t0j3, t1j3, t2j3, t9j3, t10j3, t11j3, t12j3, t79j3, q24b, q24c, q26a, q26b, q26c, q26d, q26e, q28a, q28b, q28c, q28d, hr29, q31a, q31b, q31c, q31d, q31e, q31i, q31j, q31k, hr32]
          ·
            clear hh
            have hh := ho19
            try simp only [x_l50_TapeOrder, seval, -Int.reduceToNat, hr1, hr2, q6a, q6b, hr7, q9a, q9b, q9c, q9d, q9e, q11b, q11c, q13a, q13b, q13c, q13d, q13e, q13i, q13j, q15a, q15b, q15c, q15d, hr16, t0j2, t1j2, t2j2, t9j2, t10j2, t11j2, t12j2, t69j2]
            refine tstO_br' (fun hb40 => ?_) (fun hb40 => ?_)
            · replace hh := ite_t hb40 hh
              cases hh
              try simp only [x_l50_TapeOrder, seval, -Int.reduceToNat, hr1, hr2, q6a, q6b, hr7, q9a, q9b, q9c, q9d, q9e, q11b, q11c, q13a, q13b, q13c, q13d, q13e, q13i, q13j, q15a, q15b, q15c, q15d, hr16, t0j2, t1j2, t2j2, t9j2, t10j2, t11j2, t12j2, t69j2]
              rw [CK_normal]
              refine ⟨_, rfl, ?_⟩
              refine ⟨?_, ?_, ?_, ?_, ?_, ?_, ?_, ?_⟩
              all_goals (first | rfl | (simp only [x_l50_TapeOrder, seval, -Int.reduceToNat, hr1, hr2, q6a, q6b, hr7, q9a, q9b, q9c, q9d, q9e, q11b, q11c, q13a, q13b, q13c, q13d, q13e, q13i, q13j, q15a, q15b, q15c, q15d, hr16, t0j2, t1j2, t2j2, t9j2, t10j2, t11j2, t12j2, t69j2] <;> rfl))
            · replace hh := ite_f hb40 hh
              try simp only [x_l50_TapeOrder, seval, -Int.reduceToNat, hr1, hr2, q6a, q6b, hr7, q9a, q9b, q9c, q9d, q9e, q11b, q11c, q13a, q13b, q13c, q13d, q13e, q13i, q13j, q15a, q15b, q15c, q15d, hr16, t0j2, t1j2, t2j2, t9j2, t10j2, t11j2, t12j2, t69j2]
              refine tstO_br' (fun hb41 => ?_) (fun hb41 => ?_)
              · replace hh := ite_t hb41 hh
                cases hh
                try simp only [x_l50_TapeOrder, seval, -Int.reduceToNat, hr1, hr2, q6a, q6b, hr7, q9a, q9b, q9c, q9d, q9e, q11b, q11c, q13a, q13b, q13c, q13d, q13e, q13i, q13j, q15a, q15b, q15c, q15d, hr16, t0j2, t1j2, t2j2, t9j2, t10j2, t11j2, t12j2, t69j2]
                rw [CK_normal]
                refine ⟨_, rfl, ?_⟩
                refine ⟨?_, ?_, ?_, ?_, ?_, ?_, ?_, ?_⟩
                all_goals (first | rfl | (simp only [x_l50_TapeOrder, seval, -Int.reduceToNat, hr1, hr2, q6a, q6b, hr7, q9a, q9b, q9c, q9d, q9e, q11b, q11c, q13a, q13b, q13c, q13d, q13e, q13i, q13j, q15a, q15b, q15c, q15d, hr16, t0j2, t1j2, t2j2, t9j2, t10j2, t11j2, t12j2, t69j2] <;> rfl))
              · replace hh := ite_f hb41 hh
                cases hh
                try simp only [x_l50_TapeOrder, seval, -Int.reduceToNat, hr1, hr2, q6a, q6b, hr7, q9a, q9b, q9c, q9d, q9e, q11b, q11c, q13a, q13b, q13c, q13d, q13e, q13i, q13j, q15a, q15b, q15c, q15d, hr16, t0j2, t1j2, t2j2, t9j2, t10j2, t11j2, t12j2, t69j2]
                rw [CK_normal]
                refine ⟨_, rfl, ?_⟩
                refine ⟨?_, ?_, ?_, ?_, ?_, ?_, ?_, ?_⟩
                all_goals (first | rfl | (simp only [x_l50_TapeOrder, seval, -Int.reduceToNat, hr1, hr2, q6a, q6b, hr7, q9a, q9b, q9c, q9d, q9e, q11b, q11c, q13a, q13b, q13c, q13d, q13e, q13i, q13j, q15a, q15b, q15c, q15d, hr16, t0j2, t1j2, t2j2, t9j2, t10j2, t11j2, t12j2, t69j2] <;> rfl))
      ·
        clear hh
        have hh := ho17
        try simp only [x_l50_TapeOrder, seval, -Int.reduceToNat, hr1, hr2, t0j1, t1j1, t2j1, t3j1, t9j1, t32j1, q6a, q6b, hr7, q9a, q9b, q9c, q9d, q9e, q11b, q11c, q13a, q13b, q13c, q13d, q13e, q13i, q13j, q15a, q15b, q15c, q15d, hr16]
        refine tstO_br' (fun hb42 => ?_) (fun hb42 => ?_)
        · replace hh := ite_t hb42 hh
          cases hh
          try simp only [x_l50_TapeOrder, seval, -Int.reduceToNat, hr1, hr2, t0j1, t1j1, t2j1, t3j1, t9j1, t32j1, q6a, q6b, hr7, q9a, q9b, q9c, q9d, q9e, q11b, q11c, q13a, q13b, q13c, q13d, q13e, q13i, q13j, q15a, q15b, q15c, q15d, hr16]
          rw [CK_normal]
          refine ⟨_, rfl, ?_⟩
          refine ⟨?_, ?_, ?_, ?_, ?_, ?_, ?_, ?_⟩
          all_goals (first | rfl | (simp only [x_l50_TapeOrder, seval, -Int.reduceToNat, hr1, hr2, t0j1, t1j1, t2j1, t3j1, t9j1, t32j1, q6a, q6b, hr7, q9a, q9b, q9c, q9d, q9e, q11b, q11c, q13a, q13b, q13c, q13d, q13e, q13i, q13j, q15a, q15b, q15c, q15d, hr16] <;> rfl))
        · replace hh := ite_f hb42 hh
          obtain ⟨r43, hr43, hh⟩ := bindS hh
          cases hh
          try simp only [x_l50_TapeOrder, seval, -Int.reduceToNat, hr1, hr2, t0j1, t1j1, t2j1, t3j1, t9j1, t32j1, q6a, q6b, hr7, q9a, q9b, q9c, q9d, q9e, q11b, q11c, q13a, q13b, q13c, q13d, q13e, q13i, q13j, q15a, q15b, q15c, q15d, hr16, hr43]
          rw [CK_normal]
          refine ⟨_, rfl, ?_⟩
          refine ⟨?_, ?_, ?_, ?_, ?_, ?_, ?_, ?_⟩
          all_goals (first | rfl | (simp only [x_l50_TapeOrder, seval, -Int.reduceToNat, hr1, hr2, t0j1, t1j1, t2j1, t3j1, t9j1, t32j1, q6a, q6b, hr7, q9a, q9b, q9c, q9d, q9e, q11b, q11c, q13a, q13b, q13c, q13d, q13e, q13i, q13j, q15a, q15b, q15c, q15d, hr16, hr43] <;> rfl))
  ·
    clear hh
    have hh := ho3
    try simp only [x_l50_TapeOrder, seval, -Int.reduceToNat, hr1, hr2]
    refine tstO_br' (fun hb44 => ?_) (fun hb44 => ?_)
    · replace hh := ite_t hb44 hh
      cases hh
      try simp only [x_l50_TapeOrder, seval, -Int.reduceToNat, hr1, hr2]
      rw [CK_normal]
      refine ⟨_, rfl, ?_⟩
      refine ⟨?_, ?_, ?_, ?_, ?_, ?_⟩
      all_goals (first | rfl | (simp only [x_l50_TapeOrder, seval, -Int.reduceToNat, hr1, hr2] <;> rfl))
    · replace hh := ite_f hb44 hh
      try simp only [x_l50_TapeOrder, seval, -Int.reduceToNat, hr1, hr2]
      refine tstO_br' (fun hb45 => ?_) (fun hb45 => ?_)
      · replace hh := ite_t hb45 hh
        cases hh
        try simp only [x_l50_TapeOrder, seval, -Int.reduceToNat, hr1, hr2]
        rw [CK_normal]
        refine ⟨_, rfl, ?_⟩
        refine ⟨?_, ?_, ?_, ?_, ?_, ?_⟩
        all_goals (first | rfl | (simp only [x_l50_TapeOrder, seval, -Int.reduceToNat, hr1, hr2] <;> rfl))
      · replace hh := ite_f hb45 hh
        cases hh
        try simp only [x_l50_TapeOrder, seval, -Int.reduceToNat, hr1, hr2]
        rw [CK_normal]
        refine ⟨_, rfl, ?_⟩
        refine ⟨?_, ?_, ?_, ?_, ?_, ?_⟩
        all_goals (first | rfl | (simp only [x_l50_TapeOrder, seval, -Int.reduceToNat, hr1, hr2] <;> rfl))

theorem ok_l50_TapeOrder : COk Tryd.prog 7 G_l50_TapeOrder := COk.of (mode := .clean) tok ge_l50_TapeOrder mixed Tryd.func7 (by kernel_rfl) ⟨by kernel_rfl, by kernel_rfl⟩ (fun _ => Nat.le_of_ble_eq_true (by kernel_rfl)) (fun x r h => m_l50_TapeOrder x.1 x.2.1 x.2.2.1 x.2.2.2 r h)

noncomputable def G_l50_TapeSeals := mkG (asC (aSl (eSl (eI .i64))) (asC (aSl (eI .u16)) (asC (aI .i64) (asC (aI .i64) (asC (aI .u8) (asC (aSl (eI .i64)) (as1 (aI .i64)))))))) (fun x : (List (List Int)) × (List Int) × Int × Int × Int × (List Int) × Int => l50_TapeSeals x.1 x.2.1 x.2.2.1 x.2.2.2.1 x.2.2.2.2.1 x.2.2.2.2.2.1 x.2.2.2.2.2.2) (fun r : Bool => .clean (.bool r))

theorem q_l50_TapeSeals (p0 : (List (List Int))) (p1 : (List Int)) (p2 : Int) (p3 : Int) (p4 : Int) (p5 : (List Int)) (p6 : Int) : G_l50_TapeSeals none [.sl false false p0.length (encL (eSl (eI .i64)) p0), .sl false false p1.length (encL (eI .u16) p1), .int .i64 p2, .int .i64 p3, .int .u8 p4, .sl false false p5.length (encL (eI .i64) p5), .int .i64 p6] = (l50_TapeSeals p0 p1 p2 p3 p4 p5 p6).map fun r : Bool => (.clean (.bool r), none) := mkG_eq _ _ _ (p0, p1, p2, p3, p4, p5, p6)

noncomputable def g_l50_TapeSeals : Env := (Am.keep 61 (Am.ext (Am.ext (Am.ext (Am.ext (Am.ext (Am.ext (Am.ext (Am.ext noEnv 9 false G_l50_sane) 10 false G_r50_Few) 11 false G_r50_FewRow) 13 false G_tape_Tape) 15 false G_tape_Open) 17 false G_r50_SameInts) 20 false G_tape_Text) 28 false G_vault_Leaf))

theorem ge_l50_TapeSeals : GOk Tryd.prog g_l50_TapeSeals := (GOk.keep ((((((((GOk.none.add ok_l50_sane false).add ok_r50_Few false).add ok_r50_FewRow false).add ok_tape_Tape false).add ok_tape_Open false).add ok_r50_SameInts false).add ok_tape_Text false).add ok_vault_Leaf false) 61)

theorem gg_l50_TapeSeals : g_l50_TapeSeals = (Am.keep 61 (Am.ext (Am.ext (Am.ext (Am.ext (Am.ext (Am.ext (Am.ext (Am.ext noEnv 9 false G_l50_sane) 10 false G_r50_Few) 11 false G_r50_FewRow) 13 false G_tape_Tape) 15 false G_tape_Open) 17 false G_r50_SameInts) 20 false G_tape_Text) 28 false G_vault_Leaf)) := Eq.trans rfl rfl

theorem x_l50_TapeSeals : type_of% (And.intro @w <| And.intro @q_l50_sane <| And.intro @q_r50_Few <| And.intro @q_r50_FewRow <| And.intro @q_tape_Tape <| And.intro @q_tape_Open <| And.intro @q_r50_SameInts <| And.intro @q_tape_Text <| And.intro @q_vault_Leaf <| @gg_l50_TapeSeals) := And.intro @w <| And.intro @q_l50_sane <| And.intro @q_r50_Few <| And.intro @q_r50_FewRow <| And.intro @q_tape_Tape <| And.intro @q_tape_Open <| And.intro @q_r50_SameInts <| And.intro @q_tape_Text <| And.intro @q_vault_Leaf <| @gg_l50_TapeSeals

theorem m_l50_TapeSeals (p0 : (List (List Int))) (p1 : (List Int)) (p2 : Int) (p3 : Int) (p4 : Int) (p5 : (List Int)) (p6 : Int) (r : Bool) (hh : l50_TapeSeals p0 p1 p2 p3 p4 p5 p6 = some r) : vfunc .clean tab g_l50_TapeSeals FU Tryd.f8 none [.sl false false p0.length (encL (eSl (eI .i64)) p0), .sl false false p1.length (encL (eI .u16) p1), .int .i64 p2, .int .i64 p3, .int .u8 p4, .sl false false p5.length (encL (eI .i64) p5), .int .i64 p6] = some (.clean (.bool r), none) := by
  refine vfunc_of rfl Tryd.ntmps8 Tryd.results8 ?_
  unfold l50_TapeSeals at hh
  obtain ⟨r1, hr1, hh⟩ := bindS hh
  obtain ⟨r2, hr2, hh⟩ := bindS hh
  try simp only [x_l50_TapeSeals, seval, -Int.reduceToNat, hr1, hr2]
  obtain ⟨o3, ho3, hh⟩ := bindS hh
  refine tstO_cut 0 (fun s t H e => match s with | s59j1 => t 0 = .sl false false p0.length (encL (eSl (eI .i64)) p0) ∧ t 1 = .sl false false p1.length (encL (eI .u16) p1) ∧ t 2 = .int .i64 p2 ∧ t 3 = .int .i64 p3 ∧ t 4 = .int .u8 p4 ∧ t 5 = .sl false false p5.length (encL (eI .i64) p5) ∧ t 6 = .int .i64 p6 ∧ t 15 = .bool r1 ∧ t 59 = .bool s59j1) (fun s => s = o3) ?_ ?_
  · rintro s59j1 t H e ⟨t0j1, t1j1, t2j1, t3j1, t4j1, t5j1, t6j1, t15j1, t59j1⟩ rfl
    try dsimp only at hh
    try simp only [x_l50_TapeSeals, seval, -Int.reduceToNat, hr1, hr2, t0j1, t1j1, t2j1, t3j1, t4j1, t5j1, t6j1, t15j1, t59j1]
    refine tstC_br (fun hb4 => ?_) (fun hb4 => ?_)
    · replace hh := ite_t hb4 hh
      cases hh
      try simp only [x_l50_TapeSeals, seval, -Int.reduceToNat, hr1, hr2, t0j1, t1j1, t2j1, t3j1, t4j1, t5j1, t6j1, t15j1, t59j1]
    · replace hh := ite_f hb4 hh
      try simp only [x_l50_TapeSeals, seval, -Int.reduceToNat, hr1, hr2, t0j1, t1j1, t2j1, t3j1, t4j1, t5j1, t6j1, t15j1, t59j1]
      obtain ⟨o17, ho17, hh⟩ := bindS hh
      refine runLoop_sim (fun s t H e => match s with | (s19b, r16_0b, l17b, l18b) => ∃ v16b : Nat, ∃ v17b : Nat, ∃ v18b : Nat, t 0 = .sl false false p0.length (encL (eSl (eI .i64)) p0) ∧ t 1 = .sl false false p1.length (encL (eI .u16) p1) ∧ t 2 = .int .i64 p2 ∧ t 3 = .int .i64 p3 ∧ t 4 = .int .u8 p4 ∧ t 5 = .sl false false p5.length (encL (eI .i64) p5) ∧ t 6 = .int .i64 p6 ∧ t 15 = .bool r1 ∧ t 16 = .ptr 16 v16b 0 ∧ t 17 = .buf 17 v17b 1 0 (l17b).length ∧ t 18 = .buf 18 v18b 1 0 (l18b).length ∧ t 19 = .int .i64 s19b ∧ H 16 = some ⟨v16b, 26, [.sl false false r16_0b.length (encL eTThing r16_0b)], false, false, false⟩ ∧ H 17 = some ⟨v17b, 3, encL (eI .i64) l17b, false, true, false⟩ ∧ H 18 = some ⟨v18b, 3, encL (eI .i64) l18b, false, true, false⟩) (fun o x t H e => match o with | (.inl (r16_0bx, l17bx, l18bx)) => x = .exit 0 ∧ ∃ v16bx : Nat, ∃ v17bx : Nat, ∃ v18bx : Nat, t 0 = .sl false false p0.length (encL (eSl (eI .i64)) p0) ∧ t 2 = .int .i64 p2 ∧ t 3 = .int .i64 p3 ∧ t 4 = .int .u8 p4 ∧ t 5 = .sl false false p5.length (encL (eI .i64) p5) ∧ t 6 = .int .i64 p6 ∧ t 15 = .bool r1 ∧ t 16 = .ptr 16 v16bx 0 ∧ t 17 = .buf 17 v17bx 1 0 (l17bx).length ∧ t 18 = .buf 18 v18bx 1 0 (l18bx).length ∧ H 16 = some ⟨v16bx, 26, [.sl false false r16_0bx.length (encL eTThing r16_0bx)], false, false, false⟩ ∧ H 17 = some ⟨v17bx, 3, encL (eI .i64) l17bx, false, true, false⟩ ∧ H 18 = some ⟨v18bx, 3, encL (eI .i64) l18bx, false, true, false⟩ | (.inr r) => x = .ret ∧ endM .clean tab none [.tmp 14] ⟨t, H, e⟩ = some (.clean (.bool r), none)) ho17 ?_ ?_ ?_
      ·
        refine ⟨e, e + 1, e + 1 + 1, ?_, ?_, ?_, ?_, ?_, ?_, ?_, ?_, ?_, ?_, ?_, ?_, ?_, ?_, ?_⟩
        all_goals (first | rfl | (simp only [x_l50_TapeSeals, seval, -Int.reduceToNat, hr1, hr2, t0j1, t1j1, t2j1, t3j1, t4j1, t5j1, t6j1, t15j1, t59j1] <;> rfl))
      · rintro ⟨s19b, r16_0b, l17b, l18b⟩ t H e ⟨v16b, v17b, v18b, t0b, t1b, t2b, t3b, t4b, t5b, t6b, t15b, t16b, t17b, t18b, t19b, H16b, H17b, H18b⟩ c hh
        simp only [l50_TapeSeals_L2] at hh
        try simp only [x_l50_TapeSeals, seval, -Int.reduceToNat, hr1, hr2, t0b, t1b, t2b, t3b, t4b, t5b, t6b, t15b, t16b, t17b, t18b, t19b, H16b, H17b, H18b]
        refine tstC_br (fun hb18 => ?_) (fun hb18 => ?_)
        · replace hh := ite_t hb18 hh
          obtain ⟨x19, hx19, hh⟩ := bindS hh
          have bx19 := idx_bd hx19
          have ax19 := idx_enc (eSl (eI .i64)) hx19
          have fx19 := idx_fit (eSl (eI .i64)) hx19
          simp only [vmz] at ax19 fx19
          skip
          obtain ⟨r20, hr20, hh⟩ := bindS hh
          obtain ⟨x21, hx21, hh⟩ := bindS hh
          have bx21 := idx_bd hx21
          have ax21 := idx_enc (eI .u16) hx21
          have fx21 := idx_fit (eI .u16) hx21
          simp only [vmz] at ax21 fx21
          skip
          obtain ⟨r22, hr22, hh⟩ := bindS hh
          try simp only [x_l50_TapeSeals, seval, -Int.reduceToNat, hr1, hr2, t0b, t1b, t2b, t3b, t4b, t5b, t6b, t15b, t16b, t17b, t18b, t19b, H16b, H17b, H18b, bx19, ax19, fx19, hr20, bx21, ax21, fx21, hr22]
          refine dyn_ok (by kernel_rfl) ?_
          try simp only [x_l50_TapeSeals, seval, -Int.reduceToNat, hr1, hr2, t0b, t1b, t2b, t3b, t4b, t5b, t6b, t15b, t16b, t17b, t18b, t19b, H16b, H17b, H18b, bx19, ax19, fx19, hr20, bx21, ax21, fx21, hr22]
          refine tstC_br (fun hb23 => ?_) (fun hb23 => ?_)
          · replace hh := ite_t hb23 hh
            try simp only [x_l50_TapeSeals, seval, -Int.reduceToNat, hr1, hr2, t0b, t1b, t2b, t3b, t4b, t5b, t6b, t15b, t16b, t17b, t18b, t19b, H16b, H17b, H18b, bx19, ax19, fx19, hr20, bx21, ax21, fx21, hr22]
            obtain ⟨o24, ho24, hh⟩ := bindS hh
            refine tstO_cut 0 (fun s t H e => match s with | s14j4 => t 14 = .bool s14j4) (fun s => s = o24) ?_ ?_
            · rintro s14j4 t H e t14j4 rfl
              try dsimp only at hh
              cases hh
              try simp only [x_l50_TapeSeals, seval, -Int.reduceToNat, hr1, hr2, bx19, ax19, fx19, hr20, bx21, ax21, fx21, hr22, t14j4]
              rw [LK_ret]
              refine ⟨_, rfl, ?_⟩
              refine ⟨rfl, ?_⟩
              try simp only [x_l50_TapeSeals, seval, -Int.reduceToNat, hr1, hr2, bx19, ax19, fx19, hr20, bx21, ax21, fx21, hr22, t14j4]
            ·
              clear hh
              have hh := ho24
              try simp only [x_l50_TapeSeals, seval, -Int.reduceToNat, hr1, hr2, t0b, t1b, t2b, t3b, t4b, t5b, t6b, t15b, t16b, t17b, t18b, t19b, H16b, H17b, H18b, bx19, ax19, fx19, hr20, bx21, ax21, fx21, hr22]
              refine tstO_br (fun hb25 => ?_) (fun hb25 => ?_)
              · replace hh := ite_t hb25 hh
                cases hh
                try simp only [x_l50_TapeSeals, seval, -Int.reduceToNat, hr1, hr2, t0b, t1b, t2b, t3b, t4b, t5b, t6b, t15b, t16b, t17b, t18b, t19b, H16b, H17b, H18b, bx19, ax19, fx19, hr20, bx21, ax21, fx21, hr22]
                rw [CK_normal]
                refine ⟨_, rfl, ?_⟩
                refine ?_
                all_goals (first | rfl | (simp only [x_l50_TapeSeals, seval, -Int.reduceToNat, hr1, hr2, t0b, t1b, t2b, t3b, t4b, t5b, t6b, t15b, t16b, t17b, t18b, t19b, H16b, H17b, H18b, bx19, ax19, fx19, hr20, bx21, ax21, fx21, hr22] <;> rfl))
              · replace hh := ite_f hb25 hh
                cases hh
                try simp only [x_l50_TapeSeals, seval, -Int.reduceToNat, hr1, hr2, t0b, t1b, t2b, t3b, t4b, t5b, t6b, t15b, t16b, t17b, t18b, t19b, H16b, H17b, H18b, bx19, ax19, fx19, hr20, bx21, ax21, fx21, hr22]
                rw [CK_normal]
                refine ⟨_, rfl, ?_⟩
                refine ?_
                all_goals (first | rfl | (simp only [x_l50_TapeSeals, seval, -Int.reduceToNat, hr1, hr2, t0b, t1b, t2b, t3b, t4b, t5b, t6b, t15b, t16b, t17b, t18b, t19b, H16b, H17b, H18b, bx19, ax19, fx19, hr20, bx21, ax21, fx21, hr22] <;> rfl))
          · replace hh := ite_f hb23 hh
            obtain ⟨x26, hx26, hh⟩ := bindS hh
            obtain ⟨q27a, q27b, q27c, q27d⟩ := app_one (eI .i64) hx26
            simp only [vmz] at q27b
            have bx21 := idx_bd hx21
            have ax21 := idx_enc (eI .u16) hx21
            have fx21 := idx_fit (eI .u16) hx21
            simp only [vmz] at ax21 fx21
            skip
            obtain ⟨x28, hx28, hh⟩ := bindS hh
            obtain ⟨q29a, q29b, q29c, q29d⟩ := app_one (eI .i64) hx28
            simp only [vmz] at q29b
            cases hh
            try simp only [x_l50_TapeSeals, seval, -Int.reduceToNat, hr1, hr2, t0b, t1b, t2b, t3b, t4b, t5b, t6b, t15b, t16b, t17b, t18b, t19b, H16b, H17b, H18b, bx19, ax19, fx19, hr20, bx21, ax21, fx21, hr22, q27a, q27b, q27c, q27d, bx21, ax21, fx21, q29a, q29b, q29c, q29d]
            rw [LK_normal]
            refine ⟨_, rfl, ?_⟩
            refine ⟨v16b, e + 1 + 1 + 1 + 1, e + 1 + 1 + 1 + 1 + 1, ?_, ?_, ?_, ?_, ?_, ?_, ?_, ?_, ?_, ?_, ?_, ?_, ?_, ?_, ?_⟩
            all_goals (first | rfl | (simp only [x_l50_TapeSeals, seval, -Int.reduceToNat, hr1, hr2, t0b, t1b, t2b, t3b, t4b, t5b, t6b, t15b, t16b, t17b, t18b, t19b, H16b, H17b, H18b, bx19, ax19, fx19, hr20, bx21, ax21, fx21, hr22, q27a, q27b, q27c, q27d, bx21, ax21, fx21, q29a, q29b, q29c, q29d] <;> rfl))
        · replace hh := ite_f hb18 hh
          cases hh
          try simp only [x_l50_TapeSeals, seval, -Int.reduceToNat, hr1, hr2, t0b, t1b, t2b, t3b, t4b, t5b, t6b, t15b, t16b, t17b, t18b, t19b, H16b, H17b, H18b]
          rw [LK_exit]
          refine ⟨_, rfl, ?_⟩
          refine ⟨rfl, ⟨v16b, v17b, v18b, ?_, ?_, ?_, ?_, ?_, ?_, ?_, ?_, ?_, ?_, ?_, ?_, ?_⟩⟩
          all_goals (first | rfl | (simp only [x_l50_TapeSeals, seval, -Int.reduceToNat, hr1, hr2, t0b, t1b, t2b, t3b, t4b, t5b, t6b, t15b, t16b, t17b, t18b, t19b, H16b, H17b, H18b] <;> rfl))
      · rintro x t H e hx
        rcases o17 with ⟨r16_0bx, l17bx, l18bx⟩ | rb
        ·
          dsimp only at hx hh
          obtain ⟨rfl, ⟨v16bx, v17bx, v18bx, t0bx, t2bx, t3bx, t4bx, t5bx, t6bx, t15bx, t16bx, t17bx, t18bx, H16bx, H17bx, H18bx⟩⟩ := hx
          obtain ⟨r30, hr30, hh⟩ := bindS hh
          obtain ⟨r31, hr31, hh⟩ := bindS hh
          try simp only [x_l50_TapeSeals, seval, -Int.reduceToNat, hr1, hr2, t0bx, t2bx, t3bx, t4bx, t5bx, t6bx, t15bx, t16bx, t17bx, t18bx, H16bx, H17bx, H18bx, hr30, hr31]
          obtain ⟨o32, ho32, hh⟩ := bindS hh
          refine tstO_cut 0 (fun s t H e => match s with | s131j5 => ∃ v16j5 : Nat, ∃ v17j5 : Nat, ∃ v18j5 : Nat, t 0 = .sl false false p0.length (encL (eSl (eI .i64)) p0) ∧ t 2 = .int .i64 p2 ∧ t 3 = .int .i64 p3 ∧ t 4 = .int .u8 p4 ∧ t 5 = .sl false false p5.length (encL (eI .i64) p5) ∧ t 6 = .int .i64 p6 ∧ t 15 = .bool r1 ∧ t 16 = .ptr 16 v16j5 0 ∧ t 17 = .buf 17 v17j5 1 0 (l17bx).length ∧ t 18 = .buf 18 v18j5 1 0 (l18bx).length ∧ t 24 = .int .i64 r30.2 ∧ t 131 = .bool s131j5 ∧ H 16 = some ⟨v16j5, 26, [.sl false false r16_0bx.length (encL eTThing r16_0bx)], false, false, false⟩ ∧ H 17 = some ⟨v17j5, 3, encL (eI .i64) l17bx, true, true, false⟩ ∧ H 18 = some ⟨v18j5, 3, encL (eI .i64) l18bx, true, true, false⟩) (fun s => s = o32) ?_ ?_
          · rintro s131j5 t H e ⟨v16j5, v17j5, v18j5, t0j5, t2j5, t3j5, t4j5, t5j5, t6j5, t15j5, t16j5, t17j5, t18j5, t24j5, t131j5, H16j5, H17j5, H18j5⟩ rfl
            try dsimp only at hh
            try simp only [x_l50_TapeSeals, seval, -Int.reduceToNat, hr1, hr2, hr30, hr31, t0j5, t2j5, t3j5, t4j5, t5j5, t6j5, t15j5, t16j5, t17j5, t18j5, t24j5, t131j5, H16j5, H17j5, H18j5]
            refine tstC_br (fun hb33 => ?_) (fun hb33 => ?_)
            · replace hh := ite_t hb33 hh
              cases hh
              try simp only [x_l50_TapeSeals, seval, -Int.reduceToNat, hr1, hr2, hr30, hr31, t0j5, t2j5, t3j5, t4j5, t5j5, t6j5, t15j5, t16j5, t17j5, t18j5, t24j5, t131j5, H16j5, H17j5, H18j5]
            · replace hh := ite_f hb33 hh
              try simp only [x_l50_TapeSeals, seval, -Int.reduceToNat, hr1, hr2, hr30, hr31, t0j5, t2j5, t3j5, t4j5, t5j5, t6j5, t15j5, t16j5, t17j5, t18j5, t24j5, t131j5, H16j5, H17j5, H18j5]
              refine tstC_br (fun hb34 => ?_) (fun hb34 => ?_)
              · replace hh := ite_t hb34 hh
                cases hh
                try simp only [x_l50_TapeSeals, seval, -Int.reduceToNat, hr1, hr2, hr30, hr31, t0j5, t2j5, t3j5, t4j5, t5j5, t6j5, t15j5, t16j5, t17j5, t18j5, t24j5, t131j5, H16j5, H17j5, H18j5]
              · replace hh := ite_f hb34 hh
                obtain ⟨x35, hx35, hh⟩ := bindS hh
                obtain ⟨q36a, q36b⟩ := modI_ok hx35
                obtain ⟨x37, hx37, hh⟩ := bindS hh
                obtain ⟨q38a, q38b, q38c⟩ := app_nil hx37
                replace q38a := q38a.symm
                subst q38a
                obtain ⟨x39, hx39, hh⟩ := bindS hh
                have bx39 := idx_bd hx39
                have ax39 := idx_enc (eSl (eI .i64)) hx39
                have fx39 := idx_fit (eSl (eI .i64)) hx39
                simp only [vmz] at ax39 fx39
                skip
                have p40 := put_enc (eSl (eI .i64)) (x' := p5) (fo := 0) (cs := [.sl false false p5.length (encL (eI .i64) p5)]) hx39 rfl (Nat.le_of_ble_eq_true rfl)
                simp only [vmz, Nat.add_zero] at p40
                have up40 := p40
                simp only [putCells, List.length_cons, List.length_nil, Nat.zero_add, Nat.reduceAdd] at up40
                have i41 := q_tape_Open r16_0bx l17bx (p0.set (x35).toNat p5) l18bx p2 p3
                simp only [encL_cons, vmz, List.length_cons, List.length_nil, Nat.zero_add, Nat.reduceAdd, List.length_set] at i41
                obtain ⟨r42, hr42, hh⟩ := bindS hh
                have bx39 := idx_bd hx39
                have ax39 := idx_enc (eSl (eI .i64)) hx39
                have fx39 := idx_fit (eSl (eI .i64)) hx39
                simp only [vmz] at ax39 fx39
                skip
                obtain ⟨r43, hr43, hh⟩ := bindS hh
                try simp only [x_l50_TapeSeals, seval, -Int.reduceToNat, hr1, hr2, hr30, hr31, t0j5, t2j5, t3j5, t4j5, t5j5, t6j5, t15j5, t16j5, t17j5, t18j5, t24j5, t131j5, H16j5, H17j5, H18j5, q36a, q36b, q38b, q38c, bx39, ax39, fx39, p40, up40, i41, hr42, bx39, ax39, fx39, hr43]
                obtain ⟨o44, ho44, hh⟩ := bindS hh
                refine tstO_cut 0 (fun s t H e => match s with | s172j6 => ∃ v16j6 : Nat, ∃ v17j6 : Nat, ∃ v18j6 : Nat, t 0 = .sl false false p0.length (encL (eSl (eI .i64)) p0) ∧ t 2 = .int .i64 p2 ∧ t 3 = .int .i64 p3 ∧ t 6 = .int .i64 p6 ∧ t 15 = .bool r1 ∧ t 16 = .ptr 16 v16j6 0 ∧ t 17 = .buf 17 v17j6 1 0 (l17bx).length ∧ t 18 = .buf 18 v18j6 1 0 (l18bx).length ∧ t 27 = .int .i64 x35 ∧ t 172 = .bool s172j6 ∧ H 16 = some ⟨v16j6, 26, [.sl false false r16_0bx.length (encL eTThing r16_0bx)], false, false, false⟩ ∧ H 17 = some ⟨v17j6, 3, encL (eI .i64) l17bx, true, true, false⟩ ∧ H 18 = some ⟨v18j6, 3, encL (eI .i64) l18bx, true, true, false⟩) (fun s => s = o44) ?_ ?_
                · rintro s172j6 t H e ⟨v16j6, v17j6, v18j6, t0j6, t2j6, t3j6, t6j6, t15j6, t16j6, t17j6, t18j6, t27j6, t172j6, H16j6, H17j6, H18j6⟩ rfl
                  try dsimp only at hh
                  try simp only [x_l50_TapeSeals, seval, -Int.reduceToNat, hr1, hr2, hr30, hr31, q36a, q36b, q38b, q38c, bx39, ax39, fx39, p40, up40, i41, hr42, bx39, ax39, fx39, hr43, t0j6, t2j6, t3j6, t6j6, t15j6, t16j6, t17j6, t18j6, t27j6, t172j6, H16j6, H17j6, H18j6]
                  refine tstC_br (fun hb45 => ?_) (fun hb45 => ?_)
                  · replace hh := ite_t hb45 hh
                    cases hh
                    try simp only [x_l50_TapeSeals, seval, -Int.reduceToNat, hr1, hr2, hr30, hr31, q36a, q36b, q38b, q38c, bx39, ax39, fx39, p40, up40, i41, hr42, bx39, ax39, fx39, hr43, t0j6, t2j6, t3j6, t6j6, t15j6, t16j6, t17j6, t18j6, t27j6, t172j6, H16j6, H17j6, H18j6]
                  · replace hh := ite_f hb45 hh
                    obtain ⟨x46, hx46, hh⟩ := bindS hh
                    obtain ⟨q47a, q47b, q47c⟩ := app_nil hx46
                    replace q47a := q47a.symm
                    subst q47a
                    obtain ⟨x48, hx48, hh⟩ := bindS hh
                    have bx48 := idx_bd hx48
                    have ax48 := idx_enc (eI .i64) hx48
                    have fx48 := idx_fit (eI .i64) hx48
                    simp only [vmz] at ax48 fx48
                    skip
                    have p49 := put_enc (eI .i64) (x' := p6) (fo := 0) (cs := [.int .i64 p6]) hx48 rfl (Nat.le_of_ble_eq_true rfl)
                    simp only [vmz, Nat.add_zero] at p49
                    have up49 := p49
                    simp only [putCells, List.length_cons, List.length_nil, Nat.zero_add, Nat.reduceAdd] at up49
                    have i50 := q_tape_Open r16_0bx l17bx p0 (l18bx.set (x35).toNat p6) p2 p3
                    simp only [encL_cons, vmz, List.length_cons, List.length_nil, Nat.zero_add, Nat.reduceAdd, List.length_set] at i50
                    obtain ⟨r51, hr51, hh⟩ := bindS hh
                    try simp only [x_l50_TapeSeals, seval, -Int.reduceToNat, hr1, hr2, hr30, hr31, q36a, q36b, q38b, q38c, bx39, ax39, fx39, p40, up40, i41, hr42, bx39, ax39, fx39, hr43, t0j6, t2j6, t3j6, t6j6, t15j6, t16j6, t17j6, t18j6, t27j6, t172j6, H16j6, H17j6, H18j6, q47b, q47c, bx48, ax48, fx48, p49, up49, i50, hr51]
                    refine tstO_br (fun hb52 => ?_) (fun hb52 => ?_)
                    · replace hh := ite_t hb52 hh
                      have bx48 := idx_bd hx48
                      have ax48 := idx_enc (eI .i64) hx48
                      have fx48 := idx_fit (eI .i64) hx48
                      simp only [vmz] at ax48 fx48
                      skip
                      cases hh
                      try simp only [x_l50_TapeSeals, seval, -Int.reduceToNat, hr1, hr2, hr30, hr31, q36a, q36b, q38b, q38c, bx39, ax39, fx39, p40, up40, i41, hr42, bx39, ax39, fx39, hr43, t0j6, t2j6, t3j6, t6j6, t15j6, t16j6, t17j6, t18j6, t27j6, t172j6, H16j6, H17j6, H18j6, q47b, q47c, bx48, ax48, fx48, p49, up49, i50, hr51, bx48, ax48, fx48]
                    · replace hh := ite_f hb52 hh
                      cases hh
                      try simp only [x_l50_TapeSeals, seval, -Int.reduceToNat, hr1, hr2, hr30, hr31, q36a, q36b, q38b, q38c, bx39, ax39, fx39, p40, up40, i41, hr42, bx39, ax39, fx39, hr43, t0j6, t2j6, t3j6, t6j6, t15j6, t16j6, t17j6, t18j6, t27j6, t172j6, H16j6, H17j6, H18j6, q47b, q47c, bx48, ax48, fx48, p49, up49, i50, hr51]
                ·
                  clear hh
                  have hh := ho44
                  try simp only [x_l50_TapeSeals, seval, -Int.reduceToNat, hr1, hr2, hr30, hr31, t0j5, t2j5, t3j5, t4j5, t5j5, t6j5, t15j5, t16j5, t17j5, t18j5, t24j5, t131j5, H16j5, H17j5, H18j5, q36a, q36b, q38b, q38c, bx39, ax39, fx39, p40, up40, i41, hr42, bx39, ax39, fx39, hr43]
                  refine tstO_br (fun hb53 => ?_) (fun hb53 => ?_)
                  · replace hh := ite_t hb53 hh
                    try simp only [x_l50_TapeSeals, seval, -Int.reduceToNat, hr1, hr2, hr30, hr31, t0j5, t2j5, t3j5, t4j5, t5j5, t6j5, t15j5, t16j5, t17j5, t18j5, t24j5, t131j5, H16j5, H17j5, H18j5, q36a, q36b, q38b, q38c, bx39, ax39, fx39, p40, up40, i41, hr42, bx39, ax39, fx39, hr43]
                    refine tstO_br' (fun hb54 => ?_) (fun hb54 => ?_)
                    · replace hh := ite_t hb54 hh
                      cases hh
                      try simp only [x_l50_TapeSeals, seval, -Int.reduceToNat, hr1, hr2, hr30, hr31, t0j5, t2j5, t3j5, t4j5, t5j5, t6j5, t15j5, t16j5, t17j5, t18j5, t24j5, t131j5, H16j5, H17j5, H18j5, q36a, q36b, q38b, q38c, bx39, ax39, fx39, p40, up40, i41, hr42, bx39, ax39, fx39, hr43]
                      rw [CK_normal]
                      refine ⟨_, rfl, ?_⟩
                      refine ⟨v16j5, v17j5, v18j5, ?_, ?_, ?_, ?_, ?_, ?_, ?_, ?_, ?_, ?_, ?_, ?_, ?_⟩
                      all_goals (first | rfl | (simp only [x_l50_TapeSeals, seval, -Int.reduceToNat, hr1, hr2, hr30, hr31, t0j5, t2j5, t3j5, t4j5, t5j5, t6j5, t15j5, t16j5, t17j5, t18j5, t24j5, t131j5, H16j5, H17j5, H18j5, q36a, q36b, q38b, q38c, bx39, ax39, fx39, p40, up40, i41, hr42, bx39, ax39, fx39, hr43] <;> rfl))
                    · replace hh := ite_f hb54 hh
                      cases hh
                      try simp only [x_l50_TapeSeals, seval, -Int.reduceToNat, hr1, hr2, hr30, hr31, t0j5, t2j5, t3j5, t4j5, t5j5, t6j5, t15j5, t16j5, t17j5, t18j5, t24j5, t131j5, H16j5, H17j5, H18j5, q36a, q36b, q38b, q38c, bx39, ax39, fx39, p40, up40, i41, hr42, bx39, ax39, fx39, hr43]
                      rw [CK_normal]
                      refine ⟨_, rfl, ?_⟩
                      refine ⟨v16j5, v17j5, v18j5, ?_, ?_, ?_, ?_, ?_, ?_, ?_, ?_, ?_, ?_, ?_, ?_, ?_⟩
                      all_goals (first | rfl | (simp only [x_l50_TapeSeals, seval, -Int.reduceToNat, hr1, hr2, hr30, hr31, t0j5, t2j5, t3j5, t4j5, t5j5, t6j5, t15j5, t16j5, t17j5, t18j5, t24j5, t131j5, H16j5, H17j5, H18j5, q36a, q36b, q38b, q38c, bx39, ax39, fx39, p40, up40, i41, hr42, bx39, ax39, fx39, hr43] <;> rfl))
                  · replace hh := ite_f hb53 hh
                    cases hh
                    try simp only [x_l50_TapeSeals, seval, -Int.reduceToNat, hr1, hr2, hr30, hr31, t0j5, t2j5, t3j5, t4j5, t5j5, t6j5, t15j5, t16j5, t17j5, t18j5, t24j5, t131j5, H16j5, H17j5, H18j5, q36a, q36b, q38b, q38c, bx39, ax39, fx39, p40, up40, i41, hr42, bx39, ax39, fx39, hr43]
                    rw [CK_normal]
                    refine ⟨_, rfl, ?_⟩
                    refine ⟨v16j5, v17j5, v18j5, ?_, ?_, ?_, ?_, ?_, ?_, ?_, ?_, ?_, ?_, ?_, ?_, ?_⟩
                    all_goals (first | rfl | (simp only [x_l50_TapeSeals, seval, -Int.reduceToNat, hr1, hr2, hr30, hr31, t0j5, t2j5, t3j5, t4j5, t5j5, t6j5, t15j5, t16j5, t17j5, t18j5, t24j5, t131j5, H16j5, H17j5, H18j5, q36a, q36b, q38b, q38c, bx39, ax39, fx39, p40, up40, i41, hr42, bx39, ax39, fx39, hr43] <;> rfl))
          ·
            clear hh
            have hh := ho32
            try simp only [x_l50_TapeSeals, seval, -Int.reduceToNat, hr1, hr2, t0bx, t2bx, t3bx, t4bx, t5bx, t6bx, t15bx, t16bx, t17bx, t18bx, H16bx, H17bx, H18bx, hr30, hr31]
            refine tstO_br' (fun hb55 => ?_) (fun hb55 => ?_)
            · replace hh := ite_t hb55 hh
              cases hh
              try simp only [x_l50_TapeSeals, seval, -Int.reduceToNat, hr1, hr2, t0bx, t2bx, t3bx, t4bx, t5bx, t6bx, t15bx, t16bx, t17bx, t18bx, H16bx, H17bx, H18bx, hr30, hr31]
              rw [CK_normal]
              refine ⟨_, rfl, ?_⟩
              refine ⟨v16bx, v17bx, v18bx, ?_, ?_, ?_, ?_, ?_, ?_, ?_, ?_, ?_, ?_, ?_, ?_, ?_, ?_, ?_⟩
              all_goals (first | rfl | (simp only [x_l50_TapeSeals, seval, -Int.reduceToNat, hr1, hr2, t0bx, t2bx, t3bx, t4bx, t5bx, t6bx, t15bx, t16bx, t17bx, t18bx, H16bx, H17bx, H18bx, hr30, hr31] <;> rfl))
            · replace hh := ite_f hb55 hh
              obtain ⟨r56, hr56, hh⟩ := bindS hh
              cases hh
              try simp only [x_l50_TapeSeals, seval, -Int.reduceToNat, hr1, hr2, t0bx, t2bx, t3bx, t4bx, t5bx, t6bx, t15bx, t16bx, t17bx, t18bx, H16bx, H17bx, H18bx, hr30, hr31, hr56]
              rw [CK_normal]
              refine ⟨_, rfl, ?_⟩
              refine ⟨v16bx, v17bx, v18bx, ?_, ?_, ?_, ?_, ?_, ?_, ?_, ?_, ?_, ?_, ?_, ?_, ?_, ?_, ?_⟩
              all_goals (first | rfl | (simp only [x_l50_TapeSeals, seval, -Int.reduceToNat, hr1, hr2, t0bx, t2bx, t3bx, t4bx, t5bx, t6bx, t15bx, t16bx, t17bx, t18bx, H16bx, H17bx, H18bx, hr30, hr31, hr56] <;> rfl))
        ·
          dsimp only at hx hh
          obtain ⟨rfl, hE⟩ := hx
          cases hh
          try simp only [runW_pass_ret, runW_pass_exit, runW_blk_ret, runW_nil, endW_ret]
          exact hE
  ·
    clear hh
    have hh := ho3
    try simp only [x_l50_TapeSeals, seval, -Int.reduceToNat, hr1, hr2]
    refine tstO_br' (fun hb57 => ?_) (fun hb57 => ?_)
    · replace hh := ite_t hb57 hh
      cases hh
      try simp only [x_l50_TapeSeals, seval, -Int.reduceToNat, hr1, hr2]
      rw [CK_normal]
      refine ⟨_, rfl, ?_⟩
      refine ⟨?_, ?_, ?_, ?_, ?_, ?_, ?_, ?_, ?_⟩
      all_goals (first | rfl | (simp only [x_l50_TapeSeals, seval, -Int.reduceToNat, hr1, hr2] <;> rfl))
    · replace hh := ite_f hb57 hh
      obtain ⟨r58, hr58, hh⟩ := bindS hh
      try simp only [x_l50_TapeSeals, seval, -Int.reduceToNat, hr1, hr2, hr58]
      refine tstO_br' (fun hb59 => ?_) (fun hb59 => ?_)
      · replace hh := ite_t hb59 hh
        cases hh
        try simp only [x_l50_TapeSeals, seval, -Int.reduceToNat, hr1, hr2, hr58]
        rw [CK_normal]
        refine ⟨_, rfl, ?_⟩
        refine ⟨?_, ?_, ?_, ?_, ?_, ?_, ?_, ?_, ?_⟩
        all_goals (first | rfl | (simp only [x_l50_TapeSeals, seval, -Int.reduceToNat, hr1, hr2, hr58] <;> rfl))
      · replace hh := ite_f hb59 hh
        try simp only [x_l50_TapeSeals, seval, -Int.reduceToNat, hr1, hr2, hr58]
        refine tstO_br' (fun hb60 => ?_) (fun hb60 => ?_)
        · replace hh := ite_t hb60 hh
          cases hh
          try simp only [x_l50_TapeSeals, seval, -Int.reduceToNat, hr1, hr2, hr58]
          rw [CK_normal]
          refine ⟨_, rfl, ?_⟩
          refine ⟨?_, ?_, ?_, ?_, ?_, ?_, ?_, ?_, ?_⟩
          all_goals (first | rfl | (simp only [x_l50_TapeSeals, seval, -Int.reduceToNat, hr1, hr2, hr58] <;> rfl))
        · replace hh := ite_f hb60 hh
          try simp only [x_l50_TapeSeals, seval, -Int.reduceToNat, hr1, hr2, hr58]
          refine tstO_br' (fun hb61 => ?_) (fun hb61 => ?_)
          · replace hh := ite_t hb61 hh
            cases hh
            try simp only [x_l50_TapeSeals, seval, -Int.reduceToNat, hr1, hr2, hr58]
            rw [CK_normal]
            refine ⟨_, rfl, ?_⟩
            refine ⟨?_, ?_, ?_, ?_, ?_, ?_, ?_, ?_, ?_⟩
            all_goals (first | rfl | (simp only [x_l50_TapeSeals, seval, -Int.reduceToNat, hr1, hr2, hr58] <;> rfl))
          · replace hh := ite_f hb61 hh
            cases hh
            try simp only [x_l50_TapeSeals, seval, -Int.reduceToNat, hr1, hr2, hr58]
            rw [CK_normal]
            refine ⟨_, rfl, ?_⟩
            refine ⟨?_, ?_, ?_, ?_, ?_, ?_, ?_, ?_, ?_⟩
            all_goals (first | rfl | (simp only [x_l50_TapeSeals, seval, -Int.reduceToNat, hr1, hr2, hr58] <;> rfl))

theorem ok_l50_TapeSeals : COk Tryd.prog 8 G_l50_TapeSeals := COk.of (mode := .clean) tok ge_l50_TapeSeals mixed Tryd.func8 (by kernel_rfl) ⟨by kernel_rfl, by kernel_rfl⟩ (fun _ => Nat.le_of_ble_eq_true (by kernel_rfl)) (fun x r h => m_l50_TapeSeals x.1 x.2.1 x.2.2.1 x.2.2.2.1 x.2.2.2.2.1 x.2.2.2.2.2.1 x.2.2.2.2.2.2 r h)
end Go.Proofs.YtdecgihkgpgejaaDoor.Am
