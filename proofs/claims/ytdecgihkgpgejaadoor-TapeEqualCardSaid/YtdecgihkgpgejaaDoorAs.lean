/- The memory-free machine, part 7: each operation does what its effect says: building, arithmetic, comparison, calls, append. -/
import Derived.Test.YtdecgihkgpgejaaDoorAr
namespace Go.Proofs.YtdecgihkgpgejaaDoor.Am
open Go.RowKit
set_option linter.unusedSimpArgs false
set_option linter.unusedVariables false

section
variable {P : Program} {T : Nat → Option Ty} {N : Nat} {M : Nat → Prop} {L : Lent} {w0 : World} {blk : Nat → Option (Nat × Nat)} {V : Nat → Nat → Prop} {t : Nat → D} {h : Nat → Option Row} {a : Act} {w : World} {e : Nat} {o : Oper} {Γ : Env}

theorem splice_fold (cur us : Array Value) (off : Nat) (hle : off + us.size ≤ cur.size) :
    us.zipIdx.foldl (fun cs (p : Value × Nat) => cs.setIfInBounds (off + p.2) p.1) cur = (cur.toList.take off ++ us.toList ++ cur.toList.drop (off + us.toList.length)).toArray := by
  have key : ∀ (l : List Value) (k : Nat) (c : Array Value), off + k + l.length ≤ c.size →
      (l.zipIdx k).foldl (fun cs (p : Value × Nat) => cs.setIfInBounds (off + p.2) p.1) c = (c.toList.take (off + k) ++ l ++ c.toList.drop (off + k + l.length)).toArray := by
    intro l
    induction l with
    | nil => intro k c _; simp
    | cons v l ih =>
      intro k c hc
      simp only [List.zipIdx_cons, List.foldl_cons]
      simp only [List.length_cons] at hc
      rw [ih (k + 1) _ (by simp; omega)]
      have := list_seg_step c.toList (off + k) v l (by simp; omega)
      simp only [Array.toList_setIfInBounds]
      congr 1
  have := key us.toList 0 cur (by simp; omega)
  rw [Nat.add_zero] at this
  rw [← this, ← Array.foldl_toList, Array.toList_zipIdx]

theorem spliced0 {w : World} {M : Nat → Prop} {cells cs : List D} {cur : Array Value} {us : List Value} {c : Nat} (hle : c + cs.length ≤ cells.length) (hus : us.length = cs.length) (hcur : cells.length ≤ cur.size)
    (h5 : ∀ j d, cells[j]? = some d → plainC d = true ∧ RP w M d (cur.getD j undef)) (u2 : ∀ j d, cs[j]? = some d → plainC d = true ∧ RP w M d (us.getD j undef)) (j : Nat) (d : D) (hj : (putCells cells c cs)[j]? = some d) :
    plainC d = true ∧ RP w M d ((cur.toList.take c ++ us ++ cur.toList.drop (c + us.length)).toArray.getD j undef) := by
  have := spliced (cur := cur) (b := 0) hle hus (by omega) (fun j d hj => by rw [Nat.zero_add]; exact h5 j d hj) u2 j d hj
  simp only [Nat.zero_add] at this
  exact this

theorem canon_ok {w : World} {M : Nat → Prop} {cs : List D} {f : Nat → Value} (u2 : ∀ (j : Nat) d, cs[j]? = some d → plainC d = true ∧ RP w M d (f j)) (j : Nat) (d : D) (hj : (cs.map canon)[j]? = some d) : plainC d = true ∧ RP w M d (f j) := by
  rw [List.getElem?_map, Option.map_eq_some_iff] at hj
  obtain ⟨x, hx, rfl⟩ := hj
  obtain ⟨k1, k2⟩ := u2 j x hx
  exact ⟨by rw [plainC_canon]; exact k1, k2.canon⟩

/-- Parts put into cells. -/
theorem Inv.fillD (hI : Inv N M L w0 blk V t h a w) {place : Nat → Option (Nat × Nat)} {M' : Nat → Prop} : ∀ {parts : List (Nat × Operand)} {cells out : List D} {fr : List Nat} {cur : Array Value},
    fillD h place cells (parts.map fun p => (p.1, Am.ev t p.2)) = some (out, fr) → Less M h blk fr M' → cells.length = cur.size → (∀ j d, cells[j]? = some d → plainC d = true ∧ RP w M' d (cur.getD j undef)) →
    ∃ cur', Instr.fill place cur (parts.map fun p => (p.1, a.eval p.2)) = some cur' ∧ out.length = cur'.size ∧ out.length = cells.length ∧ ∀ j d, out[j]? = some d → plainC d = true ∧ RP w M' d (cur'.getD j undef)
  | [], cells, out, fr, cur, hf, hl, hsz, hc => by
    simp only [List.map_nil, Am.fillD, Option.some.injEq, Prod.mk.injEq] at hf
    obtain ⟨rfl, rfl⟩ := hf
    exact ⟨cur, rfl, hsz, rfl, hc⟩
  | (i, x) :: parts, cells, out, fr, cur, hf, hl, hsz, hc => by
    simp only [List.map_cons, Am.fillD] at hf
    split at hf
    · rename_i off size cs fr1 h1 h2
      split at hf
      · rename_i hle
        split at hf
        · rename_i out' fr2 h3
          simp only [Option.some.injEq, Prod.mk.injEq] at hf
          obtain ⟨rfl, rfl⟩ := hf
          obtain ⟨u1, u2⟩ := hI.cellsV h2 hl.left (hI.ev x)
          have hul : (a.eval x).cells.toList.length = cs.length := by simp only [Array.length_toList]; exact u1
          have hle' : off + cs.length ≤ cells.length := by omega
          obtain ⟨cur', i1, i2, i3, i4⟩ := hI.fillD (cur := (cur.toList.take off ++ (a.eval x).cells.toList ++ cur.toList.drop (off + (a.eval x).cells.toList.length)).toArray) h3 hl.right
            (by rw [length_putCells hle']; simp; omega)
            (fun j d hj => spliced0 hle' hul (by omega) hc (fun j d hj => by simpa [List.getD] using u2 j d hj) j d hj)
          refine ⟨cur', ?_, i2, by rw [i3, length_putCells hle'], i4⟩
          rw [← i1]
          simp only [List.map_cons, Instr.fill, h1]
          have hcond : (decide ((a.eval x).cells.size ≠ size) || decide (off + (a.eval x).cells.size > cur.size)) = false := by simp; omega
          rw [if_neg (by simpa using hcond)]
          congr 1
          exact splice_fold cur (a.eval x).cells off (by omega)
        · cases hf
      · cases hf
    · cases hf

theorem run_mapM_sizes (hT : TOk P T) : ∀ (F : List Field), (∀ f ∈ F, (T f.type).isSome = true) → (F.mapM fun f => (do pure (f.offset, ← Go.sizeOf f.type) : Sem (Nat × Nat))).run P w = .ok (F.map fun f => (f.offset, ((T f.type).map (·.size)).getD 0)) w
  | [], _ => by simp
  | f :: F, hF => by
    have h1 := hF f (by simp)
    cases hφ : T f.type with
    | none => simp [hφ] at h1
    | some φ =>
      have ih := run_mapM_sizes hT F (fun g hg => hF g (by simp [hg]))
      simp only [List.mapM_cons, Sem.run_bind, run_sizeOf (hT _ _ hφ), Result.andThen_ok, Sem.run_pure, List.map_cons, hφ, Option.map_some, Option.getD_some]
      rw [ih]
      rfl

theorem does_build (hT : TOk P T) (hI : Inv N M L w0 blk V t h a w) {ty : Nat} {parts : Array (Nat × Operand)} {τ : Ty} {E : Eff} (ho : o.op = .build ty parts) (hτ : T ty = some τ) (hE : effBuild T τ h (parts.toList.map fun p => (p.1, ev t p.2)) = some E) :
    Does P o a w (After N M L w0 V t h a e o.dst E) := by
  obtain ⟨dd, hdd, hc⟩ := under hT hτ
  unfold effBuild at hE
  split at hE
  · rename_i fs hds
    rw [hds] at hc
    obtain ⟨F, rfl, hF⟩ := conv_struct hc
    split at hE
    · rename_i hcond
      simp only [Bool.and_eq_true] at hcond
      split at hE
      · rename_i cs fr hf
        simp only [Option.some.injEq] at hE
        subst hE
        obtain ⟨z, hz1, hz2⟩ := run_zeroValue (hT ty τ hτ) w
        obtain ⟨cur', i1, i2, i3, i4⟩ := hI.fillD hf (hI.less_freeze fr) (cur := τ.zero.toArray) (by simp) (fun j d hj => zeros_ok τ.zero hcond.2 j d hj)
        have hsome : ∀ f ∈ F.toList, (T f.type).isSome = true := by
          intro f hf'
          have := hcond.1
          rw [List.all_eq_true] at this
          exact this (f.type, f.offset) (by rw [← hF]; exact List.mem_map.2 ⟨f, hf', rfl⟩)
        have hpl : (fun i => (F.map fun f => (f.offset, ((T f.type).map (·.size)).getD 0))[i]?) = fieldAt T fs := by
          funext i
          simp only [fieldAt, ← hF, List.getElem?_map, Array.getElem?_map]
          rw [Array.getElem?_toList]
          cases hfi : F[i]? with
          | none => rfl
          | some f =>
            have := hsome f (by simpa using Array.mem_of_getElem? hfi)
            cases hφ : T f.type with
            | none => simp [hφ] at this
            | some φ => simp [hφ]
        refine does_value (v := .agg cur') (w' := w) ?_ ?_
        · have hm := run_mapM_sizes (P := P) (w := w) hT F.toList hsome
          have hm' : (F.mapM fun f => (do pure (f.offset, ← Go.sizeOf f.type) : Sem (Nat × Nat))).run P w = .ok (F.map fun f => (f.offset, ((T f.type).map (·.size)).getD 0)) w := by
            rw [Array.mapM_eq_mapM_toList, Sem.run_map, hm]
            simp only [Result.andThen_ok]
            congr 1
            apply Array.ext'
            simp
          rw [← hpl] at i1
          simp only [execOp, ho, Instr.build, Sem.run_bind, hz1, Result.andThen_ok, run_underlying hdd, hm', hz2, Array.toList_map]
          rw [i1]
          rfl
        · have : (⟨.agg cs, frz h fr⟩ : Eff) = ⟨.agg cs, frz h fr⟩ := rfl
          have hag : cur' = cur'.toList.toArray := by simp
          rw [hag]
          refine After.freeze_ hI fr (.agg cs _ (by simp; omega) (fun j d hj => ?_) (fun d hd => ?_))
          · have := (i4 j d hj).2
            simpa [List.getD] using this
          · obtain ⟨j, hj⟩ := List.getElem?_of_mem hd
            exact (i4 j d hj).1
      · cases hE
    · cases hE
  · cases hE

theorem does_bld (hT : TOk P T) (hI : Inv N M L w0 blk V t h a w) {q : Nat → Bool} {ty : Nat} {parts : Array (Nat × Operand)} {τ : Ty} {E : Eff} (ho : o.op = .build ty parts) (hτ : T ty = some τ) (hE : effBld q T τ h o.dst (parts.toList.map fun p => (p.1, ev t p.2)) = some E) :
    Does P o a w (After N M L w0 V t h a e o.dst E) := by
  unfold effBld at hE
  split at hE
  · split at hE
    · exact does_build hT hI ho hτ hE
    · split at hE
      · rename_i fs x v s o' n hds hps
        split at hE
        · rename_i hcond
          obtain ⟨k1, k2, k3, k4⟩ := hcond
          simp only [Option.some.injEq] at hE
          subst hE
          obtain ⟨dd, hdd, hc⟩ := under hT hτ
          rw [hds] at hc
          obtain ⟨F, rfl, hF⟩ := conv_struct hc
          obtain ⟨p0, hp0, hpe⟩ : ∃ p0, parts.toList = [p0] ∧ (p0.1, ev t p0.2) = (0, D.buf x v s o' n) := by
            cases hpl : parts.toList with
            | nil => rw [hpl] at hps; cases hps
            | cons p0 l =>
              rw [hpl] at hps
              simp only [List.map_cons, List.cons.injEq, List.map_eq_nil_iff] at hps
              exact ⟨p0, by rw [hps.2], hps.1⟩
          simp only [Prod.mk.injEq] at hpe
          have hr := hI.ev p0.2
          rw [hpe.2] at hr
          have hlv : ∃ r, live h x v = some r := by
            simp only [alive] at k1
            exact Option.isSome_iff_exists.1 k1
          obtain ⟨r, hlv⟩ := hlv
          obtain ⟨hx, hv⟩ := live_some hlv
          obtain ⟨A, c, hu⟩ : ∃ A c, a.eval p0.2 = .slice A n c := by
            rcases hr.2 r hx hv with ⟨g, o'', c, N', t', g0, g1, _⟩ | ⟨_, g1, A, g2⟩
            · exact ⟨_, _, g1⟩
            · subst g1; exact ⟨_, _, g2⟩
          obtain ⟨z, hz1, hz2⟩ := run_zeroValue (hT ty τ hτ) w
          have hsome : ∀ f ∈ F.toList, (T f.type).isSome = true := by
            intro f hf'
            rw [List.all_eq_true] at k2
            exact k2 (f.type, f.offset) (by rw [← hF]; exact List.mem_map.2 ⟨f, hf', rfl⟩)
          have hpl : (fun i => (F.map fun f => (f.offset, ((T f.type).map (·.size)).getD 0))[i]?) = fieldAt T fs := by
            funext i
            simp only [fieldAt, ← hF, List.getElem?_map, Array.getElem?_map]
            rw [Array.getElem?_toList]
            cases hfi : F[i]? with
            | none => rfl
            | some f =>
              have := hsome f (by simpa using Array.mem_of_getElem? hfi)
              cases hφ : T f.type with
              | none => simp [hφ] at this
              | some φ => simp [hφ]
          have i1 : Instr.fill (fieldAt T fs) τ.zero.toArray (parts.toList.map fun p => (p.1, a.eval p.2)) = some #[a.eval p0.2] := by
            rw [hp0]
            simp only [List.map_cons, List.map_nil, Instr.fill, hpe.1, k3, hu]
            obtain ⟨z0, hz0⟩ : ∃ z0, τ.zero = [z0] := by
              match hzz : τ.zero, k4 with
              | [z0], _ => exact ⟨z0, rfl⟩
            rw [hz0]
            rfl
          refine does_value (v := .agg #[a.eval p0.2]) (w' := w) ?_ (After.pure_ hI ⟨_, rfl, by rw [hu]; rfl, hr⟩)
          have hm := run_mapM_sizes (P := P) (w := w) hT F.toList hsome
          have hm' : (F.mapM fun f => (do pure (f.offset, ← Go.sizeOf f.type) : Sem (Nat × Nat))).run P w = .ok (F.map fun f => (f.offset, ((T f.type).map (·.size)).getD 0)) w := by
            rw [Array.mapM_eq_mapM_toList, Sem.run_map, hm]
            simp only [Result.andThen_ok]
            congr 1
            apply Array.ext'
            simp
          rw [← hpl] at i1
          simp only [execOp, ho, Instr.build, Sem.run_bind, hz1, Result.andThen_ok, run_underlying hdd, hm', hz2, Array.toList_map]
          rw [i1]
          rfl
        · cases hE
      · unfold cE at hE
        split at hE
        · rename_i cs hw hb
          simp only [Option.some.injEq] at hE
          subst hE
          refine (does_build (e := e) hT hI ho hτ hb).mono fun v w' hA => ?_
          obtain ⟨blk', h1, h2⟩ := hA
          exact ⟨blk', h1, RT_of_RP (RP.canonA (d := .agg cs) h2)⟩
        · cases hE
  · exact does_build hT hI ho hτ hE

theorem zeros_range (zs : List Value) (n : Nat) (j : Nat) (hj : j < n * zs.length) : (((Array.range (n * zs.length)).map fun i => zs.toArray[i % zs.toArray.size]!).getD j undef) = zs.getD (j % zs.length) undef := by
  have hz : 0 < zs.length := by
    rcases Nat.eq_zero_or_pos zs.length with h0 | h0
    · rw [h0] at hj; omega
    · exact h0
  have hm : j % zs.length < zs.length := Nat.mod_lt _ hz
  simp [hj, hm, List.getD]

theorem repD_at (zs : List D) : ∀ (n j : Nat) (d : D), (repD n zs)[j]? = some d → j < n * zs.length ∧ zs[j % zs.length]? = some d
  | 0, j, d, h => by simp [repD] at h
  | n + 1, j, d, h => by
    have e : repD (n + 1) zs = zs ++ repD n zs := by simp [repD, List.replicate_succ]
    rw [e] at h
    by_cases hj : j < zs.length
    · rw [List.getElem?_append_left hj] at h
      refine ⟨?_, by rw [Nat.mod_eq_of_lt hj]; exact h⟩
      rw [Nat.succ_mul]
      omega
    · rw [List.getElem?_append_right (by omega)] at h
      obtain ⟨h1, h2⟩ := repD_at zs n (j - zs.length) d h
      refine ⟨by rw [Nat.succ_mul]; omega, ?_⟩
      rw [Nat.mod_eq_sub_mod (by omega)]
      exact h2

theorem length_repD (n : Nat) (zs : List D) : (repD n zs).length = n * zs.length := by
  simp [repD]

theorem RT_buf_new {d e s n c : Nat} {g : Nat × Nat} {ty : Nat} {cs : Array Value} {V' : Nat → Nat → Prop} {h' : Nat → Option Row} {blk' : Nat → Option (Nat × Nat)} (hV : V' d e) (hb : blk' d = some g) (hg : w.heap[g.1]? = some (.cells cs ty (0, 0))) (hn : n ≤ c) (hc : c ≤ maxLen) (hs : c * s + g.2 = cs.size) :
    RT w M h' blk' V' (.buf d e s 0 n) (.slice (some ⟨g.1, g.2, none⟩) n c) :=
  ⟨hV, fun _ _ _ => .inl ⟨g, g.2, c, cs.size, ty, hb, rfl, fun _ => ⟨rfl, hs⟩, hn, hc, by simp [World.shape?, hg]⟩⟩

theorem repD_canon (n : Nat) (zs : List D) : repD n (zs.map canon) = (repD n zs).map canon := by simp [repD, List.map_flatten]

theorem does_buildSlice (hT : TOk P T) (hI : Inv N M L w0 blk V t h a w) {ty len d : Nat} {parts : Array (Nat × Operand)} {τ : Ty} {E : Eff} (ho : o.op = .buildSlice ty len parts) (hd : o.dst = some d) (hV : ¬ V d e) (hτ : T ty = some τ)
    (hE : effBuildSlice T τ h e d len (parts.toList.map fun p => (p.1, ev t p.2)) = some E) : Does P o a w (After N M L w0 V t h a e o.dst E) := by
  obtain ⟨dd, hdd, hc⟩ := under hT hτ
  unfold effBuildSlice at hE
  split at hE
  · rename_i el hds
    rw [hds] at hc
    have := conv_slice hc
    subst this
    split at hE
    · rename_i φ hφ
      split at hE
      · rename_i hcond
        obtain ⟨c1, c2, c3, c4⟩ := hcond
        split at hE
        · rename_i cs fr hf
          split at hE
          · rename_i hfr
            simp only [Option.some.injEq] at hE
            subst hE
            obtain ⟨z, hz1, hz2⟩ := run_zeroValue (hT el φ hφ) w
            have hcur : (len * φ.size = 0 → ((Array.range (len * φ.size)).map fun i => φ.zero.toArray[i % φ.zero.toArray.size]!) = #[]) := by intro h0; simp [h0]
            obtain ⟨cur', i1, i2, i3, i4⟩ := hI.fillD hf (hI.less_freeze fr) (cur := (Array.range (len * φ.size)).map fun i => φ.zero.toArray[i % φ.zero.toArray.size]!)
              (by rw [length_repD]; simp [c4]) (fun j x hj => by
                obtain ⟨r1, r2⟩ := repD_at _ _ _ _ hj
                simp only [List.length_map] at r1 r2
                rw [← c4, zeros_range φ.zero len j r1]
                have := zeros_ok (w := w) (M := Own M (applyH h (frz h fr)) blk) φ.zero c3 _ x r2
                simpa [List.getD] using this)
            have hI' := (hI.freeze fr).alloc (d := d) (e := e) (ty := el) (lst := true) (cs := cs.map canon) (vs := cur') hV (by rw [List.length_map]; omega) (fun j x hj => canon_ok (f := fun j => cur'.getD j undef) i4 j x hj)
            refine does_value (v := .slice (some ⟨w.heap.size, 0, none⟩) len len) (w' := w.alloc (.cells cur' el)) ?_ ⟨upd blk d (some (w.heap.size, 0)), ?_, ?_⟩
            · have hnot : ¬ len * φ.size > 2 ^ 24 := by omega
              simp only [execOp, ho, Instr.buildSlice, Sem.run_bind, run_underlying hdd, Result.andThen_ok, run_sizeOf (hT _ _ hφ), if_neg hnot]
              by_cases h0 : len * φ.size = 0
              · have hcur0 := hcur h0
                rw [hcur0] at i1
                have hc0 : ((Array.range (len * φ.size)).map fun i => (#[] : Array Value)[i % (#[] : Array Value).size]!) = #[] := by simp [h0]
                simp only [if_pos h0, Sem.run_bind, Sem.run_pure, Result.andThen_ok, Array.toList_map]
                rw [hc0, i1]
                simp [newRow]
              · simp only [if_neg h0, Sem.run_bind, hz1, Result.andThen_ok, Sem.run_pure, hz2, Array.toList_map]
                rw [i1]
                simp [newRow]
            · show Inv _ _ _ _ _ _ _ (applyH h (frz h fr ++ [(d, some ⟨e, el, cs.map canon, false, true, false⟩)])) _ _
              rw [applyH_one]
              refine hI'.weaken fun x v hx => ?_
              rcases hx with hx | ⟨rfl, rfl⟩
              · exact .inl hx
              · exact .inr ⟨hd, rfl⟩
            · have hlen : cur'.size = len * φ.size := by
                rw [← i2, i3, length_repD]; simp [c4]
              refine RT_buf_new (g := (w.heap.size, 0)) (.inr ⟨hd, rfl⟩) (upd_same _ _ _) (heap_alloc_new w _) (Nat.le_refl _) ?_ (by rw [hlen]; simp)
              have : len ≤ len * φ.size := Nat.le_mul_of_pos_right _ c2
              simp only [maxLen]
              omega
          · cases hE
        · cases hE
      · cases hE
    · cases hE
  · cases hE

theorem natOf_val {M' : Nat → Prop} {d : D} {n : Nat} {u : Value} (hn : natOf d = some n) (hr : RT w M' h blk V d u) : ∃ k, u = .int k n := by
  obtain ⟨k, rfl⟩ := natOf_some hn
  exact ⟨k, RT_int hr⟩

theorem does_make (hT : TOk P T) (hI : Inv N M L w0 blk V t h a w) {ty d : Nat} {l c : Operand} {τ : Ty} {E : Eff} (ho : o.op = .makeSlice ty l c) (hd : o.dst = some d) (hV : ¬ V d e) (hτ : T ty = some τ)
    (hE : effMake T τ e d (ev t l) (ev t c) = some E) : Does P o a w (After N M L w0 V t h a e o.dst E) := by
  have hpl := hI.ev l
  have hpc := hI.ev c
  obtain ⟨dd, hdd, hc⟩ := under hT hτ
  unfold effMake at hE
  split at hE
  · rename_i el hds
    rw [hds] at hc
    have := conv_slice hc
    subst this
    split at hE
    · rename_i φ n k hφ hn hk
      split at hE
      · rename_i hcond
        obtain ⟨c1, c2, c3, c4, c5, c6⟩ := hcond
        simp only [Option.some.injEq] at hE
        subst hE
        obtain ⟨q1, hl⟩ := natOf_val hn hpl
        obtain ⟨q2, hcv⟩ := natOf_val hk hpc
        obtain ⟨d', i, z, g1, g2, g3, g4, g5, g6, g7⟩ := (hT el φ hφ).get
        have hb : (i.bytes : Int) * (k : Int) ≤ 281474976710656 := by
          have : ((i.bytes * k : Nat) : Int) ≤ 281474976710656 := by
            rw [g5, Nat.mul_comm]; omega
          rwa [Int.natCast_mul] at this
        have hk63 : (k : Int) ≤ 9223372036854775807 := by
          simp only [maxLen] at c2
          omega
        have hrun := run_make (P := P) w ty el i z hdd g3 g6 q1 q2 n k (by omega) (by omega) hb hk63
        simp only [Int.toNat_natCast] at hrun
        have hcells : ∀ j x, (repD n (φ.zero.map ofV))[j]? = some x → plainC x = true ∧ RP w (Own M h blk) x ((madeCells z.cells (k * i.size)).getD j undef) := by
          intro j x hj
          obtain ⟨r1, r2⟩ := repD_at _ _ _ _ hj
          simp only [List.length_map] at r1 r2
          have hjk : j < k * φ.zero.length := Nat.lt_of_lt_of_le r1 (Nat.mul_le_mul_right _ c1)
          have := zeros_ok (w := w) (M := Own M h blk) φ.zero c5 _ x r2
          refine ⟨this.1, ?_⟩
          have he : (madeCells z.cells (k * i.size)).getD j undef = φ.zero.toArray.getD (j % φ.zero.length) undef := by
            rw [g7, g4, ← c6]
            have := zeros_range φ.zero k j hjk
            simpa [madeCells, List.getD] using this
          rw [he]; exact this.2
        have hsz : (madeCells z.cells (k * i.size)).size = k * φ.size := by simp [madeCells, g4]
        have hI' := hI.alloc (d := d) (e := e) (ty := el) (lst := true) (cs := repD n ((φ.zero.map ofV).map canon)) (vs := madeCells z.cells (k * i.size)) hV (by rw [length_repD, hsz]; simp only [List.length_map, c6]; exact Nat.mul_le_mul_right _ c1) (fun j x hj => canon_ok (f := fun j => (madeCells z.cells (k * i.size)).getD j undef) hcells j x (by rw [← repD_canon]; exact hj))
        refine does_value (v := .slice (some ⟨w.heap.size, 0, none⟩) n k) (w' := w.alloc (.cells (madeCells z.cells (k * i.size)) el)) ?_ ⟨upd blk d (some (w.heap.size, 0)), ?_, ?_⟩
        · simp [execOp, ho, hl, hcv, hrun]
        · refine hI'.weaken fun x v hx => ?_
          rcases hx with hx | ⟨rfl, rfl⟩
          · exact .inl hx
          · exact .inr ⟨hd, rfl⟩
        · exact RT_buf_new (g := (w.heap.size, 0)) (.inr ⟨hd, rfl⟩) (upd_same _ _ _) (heap_alloc_new w _) c1 c2 (by rw [hsz]; simp)
      · cases hE
    · cases hE
  · cases hE

/-! Arithmetic and comparison. -/

theorem run_intD {op : BinOp} {ty : Nat} {k : IntKind} {x y : Int} {d : D} (hs : isShift op = false) (h : intD op k x y = some d) : ∃ v, (binOp op ty (.int k x) (.int k y)).run P w = .ok v w ∧ RP w M d v := by
  cases op with
  | shl => simp [isShift] at hs
  | shr => simp [isShift] at hs
  | quo =>
    simp only [intD] at h
    split at h
    · cases h
    · rename_i hy
      simp only [Option.some.injEq] at h
      subst h
      exact ⟨_, by simp [binOp, Op.intDiv, hy], .int _ _⟩
  | rem =>
    simp only [intD] at h
    split at h
    · cases h
    · rename_i hy
      simp only [Option.some.injEq] at h
      subst h
      exact ⟨_, by simp [binOp, Op.intDiv, hy], .int _ _⟩
  | add => simp only [intD, Option.some.injEq] at h; subst h; exact ⟨_, by simp [binOp, Op.intArith], .int _ _⟩
  | sub => simp only [intD, Option.some.injEq] at h; subst h; exact ⟨_, by simp [binOp, Op.intArith], .int _ _⟩
  | mul => simp only [intD, Option.some.injEq] at h; subst h; exact ⟨_, by simp [binOp, Op.intArith], .int _ _⟩
  | and => simp only [intD, Option.some.injEq] at h; subst h; exact ⟨_, by simp [binOp, Op.intBits, bitD], .int _ _⟩
  | or => simp only [intD, Option.some.injEq] at h; subst h; exact ⟨_, by simp [binOp, Op.intBits, bitD], .int _ _⟩
  | xor => simp only [intD, Option.some.injEq] at h; subst h; exact ⟨_, by simp [binOp, Op.intBits, bitD], .int _ _⟩
  | andNot => simp only [intD, Option.some.injEq] at h; subst h; exact ⟨_, by simp [binOp, Op.intBits, bitD], .int _ _⟩
  | eql => simp only [intD, Option.some.injEq] at h; subst h; exact ⟨_, by simp [binOp, Op.intCmp], .bool _⟩
  | neq => simp only [intD, Option.some.injEq] at h; subst h; exact ⟨_, by simp [binOp, Op.intCmp], .bool _⟩
  | lss => simp only [intD, Option.some.injEq] at h; subst h; exact ⟨_, by simp [binOp, Op.intCmp], .bool _⟩
  | leq => simp only [intD, Option.some.injEq] at h; subst h; exact ⟨_, by simp [binOp, Op.intCmp], .bool _⟩
  | gtr => simp only [intD, Option.some.injEq] at h; subst h; exact ⟨_, by simp [binOp, Op.intCmp], .bool _⟩
  | geq => simp only [intD, Option.some.injEq] at h; subst h; exact ⟨_, by simp [binOp, Op.intCmp], .bool _⟩

theorem run_shiftD {op : BinOp} {ty : Nat} {k k' : IntKind} {x y : Int} {d : D} (hs : isShift op = true) (h : shiftD op k x y = some d) : ∃ v, (binOp op ty (.int k x) (.int k' y)).run P w = .ok v w ∧ RP w M d v := by
  unfold shiftD at h
  split at h
  · cases h
  · rename_i hy
    cases op <;> simp only [isShift, Bool.false_eq_true] at hs <;> simp only [Option.some.injEq] at h <;> subst h <;> exact ⟨_, by simp [binOp, Op.shift, hy], .int _ _⟩

theorem run_strD {op : BinOp} {ty : Nat} {x y : ByteArray} {d : D} (h : strD op x y = some d) : ∃ v, (binOp op ty (.string x) (.string y)).run P w = .ok v w ∧ RP w M d v := by
  cases op with
  | add =>
    simp only [strD] at h
    split at h
    · cases h
    · rename_i hy
      simp only [Option.some.injEq] at h
      subst h
      refine ⟨_, ?_, .str _⟩
      simp only [binOp, Op.stringOp]
      rw [if_neg hy]
      rfl
  | eql => simp only [strD, Option.some.injEq] at h; subst h; exact ⟨_, by simp [binOp, Op.stringOp], .bool _⟩
  | neq => simp only [strD, Option.some.injEq] at h; subst h; exact ⟨_, by simp [binOp, Op.stringOp], .bool _⟩
  | lss => simp only [strD, Option.some.injEq] at h; subst h; exact ⟨_, by simp [binOp, Op.stringOp], .bool _⟩
  | leq => simp only [strD, Option.some.injEq] at h; subst h; exact ⟨_, by simp [binOp, Op.stringOp], .bool _⟩
  | gtr => simp only [strD, Option.some.injEq] at h; subst h; exact ⟨_, by simp [binOp, Op.stringOp], .bool _⟩
  | geq => simp only [strD, Option.some.injEq] at h; subst h; exact ⟨_, by simp [binOp, Op.stringOp], .bool _⟩
  | _ => simp [strD] at h
end
end Go.Proofs.YtdecgihkgpgejaaDoor.Am
