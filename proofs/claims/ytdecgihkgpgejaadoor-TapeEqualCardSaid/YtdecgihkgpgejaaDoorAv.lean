/- The memory-free machine, part 9: append; equality of structs; every operation. -/
import Derived.Test.YtdecgihkgpgejaaDoorAu
import Derived.ArgAppend
namespace Go.Proofs.YtdecgihkgpgejaaDoor.Am
open Go.RowKit
set_option linter.unusedSimpArgs false
set_option linter.unusedVariables false

section
variable {P : Program} {T : Nat → Option Ty} {N : Nat} {M : Nat → Prop} {L : Lent} {w0 : World} {blk : Nat → Option (Nat × Nat)} {V : Nat → Nat → Prop} {t : Nat → D} {h : Nat → Option Row} {a : Act} {w : World} {e : Nat} {o : Oper} {Γ : Env}

/-- What a source of append holds. -/
theorem Inv.content (hI : Inv N M L w0 blk V t h a w) {d : D} {m s : Nat} {news : List D} {u : Value} (hs : 0 < s) (hc : content h d = some (m, news)) (hl : news.length = m * s) (hr : RT w (Own M h blk) h blk V d u) :
    ∃ (A : Option Addr) (c : Nat) (us : List Value), u = .slice A m c ∧ m ≤ c ∧ us.length = news.length ∧ (∀ j x, news[j]? = some x → plainC x = true ∧ RP w (Own M h blk) x (us.getD j undef)) ∧
      (∀ ad, A = some ad → ∀ j v, us[j]? = some v → w.cell? (ad.add j) = some v) ∧ (A = none → m = 0 ∧ c = 0) := by
  cases d with
  | sl nl tight n xs =>
    simp only [Am.content, Option.some.injEq, Prod.mk.injEq] at hc
    obtain ⟨rfl, rfl⟩ := hc
    have hr' : RP w (Own M h blk) (.sl nl tight n xs) u := hr
    cases hr' with
    | sl A c nl tight n xs us h1 h2 h3 h4 h5 h6 h7 h8 =>
      refine ⟨A, c, (List.range xs.length).map us, rfl, h1, by simp, fun j x hj => ⟨h8 x (List.mem_of_getElem? hj), ?_⟩, fun ad hA j v hj => ?_, h4⟩
      · have hlt := (List.getElem?_eq_some_iff.1 hj).1
        have : ((List.range xs.length).map us).getD j undef = us j := by simp [List.getD, hlt]
        rw [this]; exact h7 j x hj
      · obtain ⟨hlt, he⟩ := List.getElem?_eq_some_iff.1 hj
        simp only [List.length_map, List.length_range] at hlt
        simp only [List.getElem_map, List.getElem_range] at he
        have hne : xs ≠ [] := by rintro rfl; simp at hlt
        obtain ⟨b, o, hA', _, _, g3⟩ := h6 hne
        rw [hA] at hA'
        simp only [Option.some.injEq] at hA'
        subst hA'
        rw [add_mk, ← he]
        exact g3 j hlt
  | buf x v z q n =>
    simp only [Am.content] at hc
    split at hc
    · rename_i r hlv
      split at hc
      · rename_i hle
        simp only [Option.some.injEq, Prod.mk.injEq] at hc
        obtain ⟨rfl, rfl⟩ := hc
        rcases hI.bufCells hlv hr with ⟨g, o', c, cs, g0, g1, g2, g3, g4, g5, g7, g8⟩ | ⟨g0, rfl, g2, A, g3⟩
        · have hlen : ((r.cells.drop q).take (n * z)).length = n * z := by simp; omega
          rw [hlen] at hl
          refine ⟨_, c, (List.range (n * z)).map (fun j => cs.getD (g.2 + (q + j)) undef), g1, g2, by simp; omega, fun j x hj => ?_, fun ad hA j v hj => ?_, fun hA => by cases hA⟩
          · rw [getElem?_drop_take] at hj
            split at hj
            · rename_i hjl
              have : ((List.range (n * z)).map (fun j => cs.getD (g.2 + (q + j)) undef)).getD j undef = cs.getD (g.2 + (q + j)) undef := by simp [List.getD, hjl]
              rw [this]
              exact g8 _ _ hj
            · cases hj
          · obtain ⟨hlt, he⟩ := List.getElem?_eq_some_iff.1 hj
            simp only [List.length_map, List.length_range] at hlt
            simp only [List.getElem_map, List.getElem_range] at he
            simp only [Option.some.injEq] at hA
            subst hA
            have hn : 0 < n := by
              rcases Nat.eq_zero_or_pos n with h0 | h0
              · subst h0; simp at hlt
              · exact h0
            have := (g5 (.inl (by omega))).1
            subst this
            rw [add_mk, ← he, Nat.add_assoc]
            exact cell_of_cells g4 (by omega)
        · refine ⟨A, 0, [], g3, Nat.le_refl _, by simp, fun j x hj => by simp at hj, fun ad hA j v hj => by simp at hj, fun _ => ⟨rfl, rfl⟩⟩
      · cases hc
    · cases hc
  | _ => simp [Am.content] at hc

theorem appended {M' : Nat → Prop} {olds news : List D} {xs us : List Value} {cur : Array Value} {b : Nat} (hxl : xs.length = olds.length) (hul : us.length = news.length) (hcur : (cur.toList.drop b).take (olds.length + news.length) = xs ++ us)
    (h1 : ∀ j x, olds[j]? = some x → plainC x = true ∧ RP w M' x (xs.getD j undef)) (h2 : ∀ j x, news[j]? = some x → plainC x = true ∧ RP w M' x (us.getD j undef)) (j : Nat) (x : D) (hj : (olds ++ news)[j]? = some x) :
    plainC x = true ∧ RP w M' x (cur.getD (b + j) undef) := by
  have hlt : j < olds.length + news.length := by
    have := (List.getElem?_eq_some_iff.1 hj).1
    simpa using this
  have hg : cur.getD (b + j) undef = (xs ++ us).getD j undef := by
    rw [← hcur]
    simp only [List.getD_eq_getElem?_getD, List.getElem?_take, if_pos hlt, List.getElem?_drop]
    simp
  rw [hg]
  by_cases hjo : j < olds.length
  · rw [List.getElem?_append_left hjo] at hj
    have : (xs ++ us).getD j undef = xs.getD j undef := by
      simp only [List.getD_eq_getElem?_getD]
      rw [List.getElem?_append_left (by omega)]
    rw [this]; exact h1 j x hj
  · rw [List.getElem?_append_right (by omega)] at hj
    have : (xs ++ us).getD j undef = us.getD (j - olds.length) undef := by
      simp only [List.getD_eq_getElem?_getD]
      rw [List.getElem?_append_right (by omega), hxl]
    rw [this]; exact h2 _ x hj

theorem oneCells {M' : Nat → Prop} {news : List D} {us : List Value} (hul : us.length = news.length) (h2 : ∀ j x, news[j]? = some x → plainC x = true ∧ RP w M' x (us.getD j undef)) : ∀ u ∈ us, u.oneCell' = true := by
  intro u hu
  obtain ⟨j, hj⟩ := List.getElem?_of_mem hu
  have hlt := (List.getElem?_eq_some_iff.1 hj).1
  obtain ⟨p1, p2⟩ := h2 j _ (List.getElem?_eq_getElem (by omega))
  have : us.getD j undef = u := by simp [List.getD, hj]
  rw [this] at p2
  exact p2.oneCell p1

/-- append of nothing to what has its place. -/
theorem run_append_zero (t ty el : Nat) {τ : Ty} (hd : P.underlying t = some (.slice el)) {φ : Ty} (hφ : TyOk P el φ) (A B : Option Addr) (n c k : Nat) (hn : n ≤ c) : (Builtin.append_ #[t, t] ty #[.slice A n c, .slice B 0 k]).run P w = .ok (.slice A n c) w := by
  have hfc : (Builtin.firstCells φ.size 0 (.slice B 0 k)).run P w = .ok #[] w := by
    cases B with
    | none => simp [Builtin.firstCells]
    | some b => simp [Builtin.firstCells, loadCells, loadCellsFrom]
  cases A with
  | none => simp [Builtin.append_, run_underlying hd, run_sizeOf hφ, Builtin.lenOf, hn, hfc]
  | some b => simp [Builtin.append_, run_underlying hd, run_sizeOf hφ, Builtin.lenOf, hn, hfc, storeCells]

/-- append that has to make a new array. -/
theorem run_append_new (t ty el : Nat) {φ : Ty} (hd : P.underlying t = some (.slice el)) (hφ : TyOk P el φ) (hpos : 0 < φ.size) (hz0 : φ.zero.length = φ.size) (A : Option Addr) (n cap : Nat) (xs : List Value) (hxl : xs.length = n * φ.size)
    (hxs : ∀ ad, A = some ad → ∀ j u, xs[j]? = some u → w.cell? (ad.add j) = some u) (hA : A = none → n = 0 ∧ cap = 0) (b : Addr) (m c : Nat) (us : List Value) (hul : us.length = m * φ.size)
    (hus : ∀ j u, us[j]? = some u → w.cell? (b.add j) = some u) (hg : cap < n + m) (h63 : n + m ≤ maxLen) (hb : (n + m) * φ.bytes ≤ 140737488355328) :
    ∃ k vs, (Builtin.append_ #[t, t] ty #[.slice A n cap, .slice (some b) m c]).run P w = .ok (.slice (some ⟨w.heap.size, 0, none⟩) (n + m) k) (w.drew.alloc (.cells vs el)) ∧ n + m ≤ k ∧ k ≤ maxLen ∧ k * φ.size = vs.size ∧ vs.toList.take ((n + m) * φ.size) = xs ++ us := by
  obtain ⟨d', i, z, i1, i2, i3, i4, i5, i6, i7⟩ := hφ.get
  have hzs : z.cells.size = φ.size := by rw [i7]; simpa using hz0
  have h63' : ((n + m : Nat) : Int) ≤ 9223372036854775807 := by simp only [maxLen] at h63; omega
  have hlen : (xs ++ us).length = (n + m) * φ.size := by rw [List.length_append, hxl, hul, Nat.add_mul]
  have hge := grownCap_ge w (n + m) cap el
  have hcm : grownCap w (n + m) cap el ≤ maxLen := grownCap_le_maxLen w (n + m) cap el h63
  have fin : ∀ vs : Array Value, vs = xs.toArray ++ us.toArray ++ Builtin.zeroCells z.cells (grownCap w (n + m) cap el - (n + m)) → grownCap w (n + m) cap el * φ.size = vs.size ∧ vs.toList.take ((n + m) * φ.size) = xs ++ us := by
    intro vs hvs
    subst hvs
    refine ⟨?_, ?_⟩
    · simp only [Array.size_append, List.size_toArray, size_zeroCells, hzs, hxl, hul, ← Nat.add_mul]
      congr 1
      omega
    · simp only [Array.toList_append, List.append_assoc]
      rw [← List.append_assoc, ← hlen]
      exact List.take_left
  cases A with
  | some ad =>
    have hr := run_append_grow (P := P) w t ty el i z hd i3 i6 ad n cap xs (by rw [i4]; exact hxl) (hxs ad rfl) b m c us (by rw [i4]; exact hul) hus hg h63' (growslice_fits hg (by rw [i5]; exact hb))
    obtain ⟨f1, f2⟩ := fin _ rfl
    exact ⟨_, _, hr, hge, hcm, f1, f2⟩
  | none =>
    obtain ⟨rfl, rfl⟩ := hA rfl
    have hx0 : xs = [] := List.eq_nil_of_length_eq_zero (by omega)
    subst hx0
    have hr := run_append_nil (P := P) w t ty el i z hd i3 i6 b m c us (by rw [i4]; exact hul) hus (by omega) (by simpa using h63') (by rw [i5]; simp only [Nat.zero_add] at hb; omega)
    simp only [Nat.zero_add] at hge hcm fin ⊢
    obtain ⟨f1, f2⟩ := fin _ rfl
    refine ⟨_, _, hr, hge, hcm, ?_, ?_⟩
    · simpa using f1
    · simpa using f2

/-- append into the room that is there. -/
theorem run_append_in (t ty el : Nat) {φ : Ty} (hd : P.underlying t = some (.slice el)) (hφ : TyOk P el φ) (g q n cap : Nat) (cur : Array Value) (hg : w.heap[g]? = some (.cells cur el (0, 0))) (b : Addr) (m c : Nat) (us : List Value) (hul : us.length = m * φ.size)
    (hus : ∀ j u, us[j]? = some u → w.cell? (b.add j) = some u) (h1 : ∀ u ∈ us, u.oneCell' = true) (hroom : n + m ≤ cap) (hfit : q + n * φ.size + us.length ≤ cur.size) :
    (Builtin.append_ #[t, t] ty #[.slice (some ⟨g, q, none⟩) n cap, .slice (some b) m c]).run P w =
      .ok (.slice (some ⟨g, q, none⟩) (n + m) cap) (w.setRow g (cur.toList.take (q + n * φ.size) ++ us ++ cur.toList.drop (q + n * φ.size + us.length)).toArray) := by
  obtain ⟨d', i, z, i1, i2, i3, i4, i5, i6, i7⟩ := hφ.get
  have hf := run_firstCells_some (P := P) w i.size m b m c us (by rw [i4]; exact hul) hus
  have hst := run_storeCells_at P g (q + n * i.size) el us 0 cur w hg (by rw [i4]; simpa using hfit) h1
  simp only [Nat.add_zero] at hst
  rw [← i4]
  simp [Builtin.append_, run_underlying hd, sizeOf, typeInfo, i3, Builtin.lenOf, hroom, hf, add_mk, hst]

theorem drop_take_splice {α : Type} (l us rest : List α) (b k : Nat) (h : b + k ≤ l.length) : ((l.take (b + k) ++ us ++ rest).drop b).take (k + us.length) = (l.drop b).take k ++ us := by
  have h1 : ((l.drop b).take k).length = k := by simp; omega
  rw [List.append_assoc, List.drop_append_of_le_length (by simp; omega), List.drop_take, Nat.add_sub_cancel_left, List.take_append, h1, Nat.add_sub_cancel_left, List.take_append_of_le_length (Nat.le_refl _), List.take_of_length_le (l := us) (Nat.le_refl _), List.take_of_length_le (by rw [h1]; omega)]

theorem does_append (hT : TOk P T) (hI : Inv N M L w0 blk V t h a w) {c : Call} {s x : Operand} {ty d : Nat} {τ : Ty} {E : Eff} (ho : o.op = .call c) (hc : c.callee = .builtin .append) (hargs : c.args = #[s, x]) (htys : c.argTypes = #[ty, ty]) (hd : o.dst = some d)
    (hV : ¬ V d e) (hτ : T ty = some τ) (hE : effAppend T τ h e d (ev t s) (ev t x) = some E) : Does P o a w (After N M L w0 V t h a e o.dst E) := by
  have hps := hI.ev s
  have hpx := hI.ev x
  generalize ev t s = qs at *
  generalize ev t x = qx at *
  obtain ⟨dd, hdd, hcv⟩ := under hT hτ
  have hexec : ∀ v w', (Builtin.append_ #[ty, ty] o.type #[a.eval s, a.eval x]).run P w = .ok v w' → (execOp a.eval o).run P w = .ok (.value v) w' := by
    intro v w' hr
    simp [execOp, ho, resolve, hc, hargs, htys, invoke, builtin, hr]
  unfold effAppend at hE
  split at hE
  · rename_i el hds
    rw [hds] at hcv
    have := conv_slice hcv
    subst this
    split at hE
    · rename_i φ m news hφ hcont
      split at hE
      · rename_i hpos
        -- a new array
        have grow : ∀ (old : Option Nat) (A : Option Addr) (n cap : Nat) (xs : List Value) (olds : List D), (∀ y, old = some y → ∃ r, h y = some r ∧ r.fz = false) → a.eval s = .slice A n cap → n ≤ cap → (A = none → n = 0 ∧ cap = 0) → xs.length = n * φ.size → olds.length = xs.length →
            (∀ ad, A = some ad → ∀ j u, xs[j]? = some u → w.cell? (ad.add j) = some u) → (∀ (j : Nat) x, olds[j]? = some x → plainC x = true ∧ RP w (Own M h blk) x (xs.getD j undef)) → cap < n + m → n + m ≤ maxLen → (n + m) * φ.bytes ≤ 140737488355328 → news.length = m * φ.size →
            E = ⟨.buf d e φ.size 0 (n + m), (match old with | some y => [(y, none)] | none => []) ++ [(d, some ⟨e, el, olds ++ news, false, true, false⟩)]⟩ → Does P o a w (After N M L w0 V t h a e o.dst E) := by
          intro old A n cap xs olds hold hs hnc hA hxl hol hxs holds hgt h63 hby hnl hEq
          obtain ⟨B, cb, us, hx1, hxle, hx2, hx3, hx4, hx5⟩ := hI.content hpos.1 hcont hnl hpx
          cases B with
          | none =>
            have := (hx5 rfl).1
            subst this
            omega
          | some b =>
            obtain ⟨k, vs, hrun, g1, g2, g3, g4⟩ := run_append_new (P := P) (w := w) ty o.type el hdd (hT el φ hφ) hpos.1 hpos.2 A n cap xs hxl hxs hA b m cb us (by omega) (hx4 b rfl) hgt h63 hby
            have hb : Below w.heap.size w (w.drew.alloc (.cells vs el)) := ((Below.refl _ _).drew).alloc (by simp) _
            refine does_value (hexec _ _ (by rw [hs, hx1]; exact hrun)) ?_
            have := hI.fresh (old := old) (dst := o.dst) (e := e) (d := d) (ty := el) (s := φ.size) (n := n + m) (cells := olds ++ news) (w' := w.drew.alloc (.cells vs el)) (v := .slice (some ⟨w.heap.size, 0, none⟩) (n + m) k) hd hV (Beyond.of_below hb) hold
              (.inl ⟨(w.heap.size, 0), k, vs, rfl, .inl (Nat.le_refl _), by simpa using heap_alloc_new w.drew (.cells vs el), g1, g2, by simpa using g3, ?_, fun j y hj => ?_⟩)
            · subst hEq
              unfold After
              cases old with
              | none => exact this
              | some y => exact this
            · simp only [Nat.zero_add, List.length_append, hol, hxl, hnl, ← Nat.add_mul]
              rw [← g3]
              exact Nat.mul_le_mul_right _ g1
            · have hA' := appended (b := 0) (M' := Own M h blk) (w := w) (olds := olds) (news := news) (xs := xs) (us := us) (cur := vs) hol.symm hx2 (by rw [List.drop_zero, hol, hxl, hnl, ← Nat.add_mul]; exact g4) holds hx3 j y hj
              simp only [Nat.zero_add] at hA' ⊢
              refine ⟨hA'.1, hA'.2.keep fun b k1 k2 => ⟨Nat.lt_of_lt_of_le k1 hb.size, fun hb' => ?_, hb.block b k1⟩⟩
              rcases hb' with hb' | rfl
              · exact k2 (own_forget hb')
              · omega
        split at hE
        · rename_i nl tight n xs
          split at hE
          · rename_i hcond
            obtain ⟨k1, k2, k3, k4, k5⟩ := hcond
            split at hE
            · rename_i hm
              subst hm
              simp only [Option.some.injEq] at hE
              subst hE
              obtain ⟨A, cx, us, hx1, hxle, hx2, hx3, hx4, hx5⟩ := hI.content hpos.1 hcont k5 hpx
              obtain ⟨B, cb, xs', hs1, hsle, _⟩ := hI.content (d := .sl nl tight n xs) hpos.1 rfl k4 hps
              refine does_value (hexec _ _ (by rw [hs1, hx1]; exact run_append_zero (τ := τ) ty o.type el hdd (hT el φ hφ) B A n cb cx hsle)) (After.pure_ hI ?_)
              rw [← hs1]; exact hps
            · rename_i hm
              simp only [Option.some.injEq] at hE
              obtain ⟨B, cb, xs', hs1, hsle, hs2, hs3, hs4, hs5⟩ := hI.content (d := .sl nl tight n xs) hpos.1 rfl k4 hps
              have hcap : cb = n := by
                have hps' : RP w (Own M h blk) (.sl nl tight n xs) (a.eval s) := hps
                generalize a.eval s = u at *
                cases hps' with
                | sl A' c' nl tight n xs us' h1 h2 h3 h4 h5 h6 h7 h8 =>
                  simp only [Value.slice.injEq] at hs1
                  obtain ⟨_, _, rfl⟩ := hs1
                  exact h5 k1
              subst hcap
              exact grow none B cb cb xs' xs (fun y hy => by cases hy) hs1 hsle (fun h => (hs5 h)) (by omega) (by omega) hs4 hs3 (by omega) k2 k3 k5 hE.symm
          · cases hE
        · rename_i y v zz q n
          split at hE
          · rename_i r hlv
            split at hE
            · rename_i hcond
              obtain ⟨k1, k2, k3, k4, k5, k6, k7⟩ := hcond
              subst k1
              simp only [Option.some.injEq] at hE
              obtain ⟨hyy, hyv⟩ := live_some hlv
              have hcont' : Am.content h (.buf y v φ.size q n) = some (n, (r.cells.drop q).take (n * φ.size)) := by simp only [Am.content, hlv, if_pos k4]
              have hol : ((r.cells.drop q).take (n * φ.size)).length = n * φ.size := by simp; omega
              obtain ⟨B, cb, xs', hs1, hsle, hs2, hs3, hs4, hs5⟩ := hI.content hpos.1 hcont' hol hps
              by_cases hroom : n + m ≤ cb
              · obtain ⟨A, cx, us, hx1, hxle, hx2, hx3, hx4, hx5⟩ := hI.content hpos.1 hcont k7 hpx
                have empty : cb = 0 → Does P o a w (After N M L w0 V t h a e o.dst E) := by
                  intro h0
                  have hn0 : n = 0 := by omega
                  have hm0 : m = 0 := by omega
                  subst hn0 hm0 h0
                  have hnews : news = [] := List.eq_nil_of_length_eq_zero (by omega)
                  subst hE hnews
                  refine does_value (hexec _ _ (by rw [hs1, hx1]; exact run_append_zero (τ := τ) ty o.type el hdd (hT el φ hφ) B A 0 0 cx (Nat.le_refl _))) ?_
                  have := hI.fresh (old := some y) (dst := o.dst) (e := e) (d := d) (ty := el) (s := φ.size) (n := 0) (cells := []) (w' := w) (v := .slice B 0 0) hd hV (Beyond.refl _ _) (fun y' hy' => by cases hy'; exact ⟨r, hyy, k3⟩) (.inr ⟨rfl, rfl, B, rfl⟩)
                  unfold After
                  have e0 : (r.cells.drop q).take (0 * φ.size) ++ [] = [] := by simp
                  rw [e0]
                  exact this
                rcases hI.bufCells hlv hps with ⟨g, o', cb', cs, g0, g1, g2, g3, g4, g5, g7, g8⟩ | ⟨g0, g1, g2, A', g3⟩
                · have hcb : cb' = cb := by rw [g1] at hs1; simp at hs1; exact hs1.2
                  subst hcb
                  by_cases hcq : 0 < cb' ∨ q = 0
                  · obtain ⟨ho', hcs⟩ := g5 hcq
                    subst ho'
                    have hfit0 : (n + m) * φ.size ≤ cb' * φ.size := Nat.mul_le_mul_right _ hroom
                    rw [Nat.add_mul] at hfit0
                    have hfit : g.2 + q + n * φ.size + us.length ≤ cs.size := by omega
                    have hxl2 : ((cs.toList.drop (g.2 + q)).take (n * φ.size)).length = n * φ.size := by simp; omega
                    have hrun : ∃ cur, (Builtin.append_ #[ty, ty] o.type #[a.eval s, a.eval x]).run P w = .ok (.slice (some ⟨g.1, g.2 + q, none⟩) (n + m) cb') (w.setRow g.1 cur) ∧ cur.size = cs.size ∧ (cur.toList.drop (g.2 + q)).take (n * φ.size + m * φ.size) = (cs.toList.drop (g.2 + q)).take (n * φ.size) ++ us := by
                      rw [hx1, g1]
                      cases A with
                      | some ad =>
                        refine ⟨_, run_append_in (P := P) ty o.type el hdd (hT el φ hφ) g.1 (g.2 + q) n cb' cs (by rw [← k2]; exact g4) ad m cx us (by omega) (hx4 ad rfl) (oneCells hx2 hx3) hroom hfit, by simp; omega, ?_⟩
                        have := drop_take_splice cs.toList us (cs.toList.drop (g.2 + q + n * φ.size + us.length)) (g.2 + q) (n * φ.size) (by simp; omega)
                        have hul : us.length = m * φ.size := by omega
                        rw [hul] at this
                        rw [hul]
                        exact this
                      | none =>
                        obtain ⟨rfl, rfl⟩ := hx5 rfl
                        have hu0 : us = [] := List.eq_nil_of_length_eq_zero (by omega)
                        subst hu0
                        refine ⟨cs, ?_, rfl, by simp⟩
                        rw [setRow_self w g.1 cs r.ty (0, 0) g4]
                        exact run_append_zero (τ := τ) ty o.type el hdd (hT el φ hφ) _ _ n cb' 0 g2
                    obtain ⟨cur, hrun, hcur, htake⟩ := hrun
                    subst hE
                    have hown : Own M h blk g.1 := .inr ⟨y, r, g, hyy, k3, g0, rfl⟩
                    have hheap : ∀ b, b ≠ g.1 → (w.setRow g.1 cur).heap[b]? = w.heap[b]? := by
                      intro b hb
                      simp only [World.setRow, Array.getElem?_modify]
                      rw [if_neg (Ne.symm hb)]
                    have hsize : (w.setRow g.1 cur).heap.size = w.heap.size := by simp [World.setRow]
                    refine does_value (hexec _ _ hrun) ?_
                    have := hI.fresh (old := some y) (dst := o.dst) (e := e) (d := d) (ty := el) (s := φ.size) (n := n + m) (cells := (r.cells.drop q).take (n * φ.size) ++ news) (w' := w.setRow g.1 cur) (v := .slice (some ⟨g.1, g.2 + q, none⟩) (n + m) cb') hd hV
                      ⟨rfl, rfl, rfl, by rw [hsize]; exact Nat.le_refl _, fun b _ hb => hheap b (fun he => hb ⟨y, g, rfl, g0, he⟩)⟩ (fun y' hy' => by cases hy'; exact ⟨r, hyy, k3⟩)
                      (.inl ⟨(g.1, g.2 + q), cb', cur, rfl, .inr ⟨y, g, rfl, g0, rfl⟩, by rw [← k2]; exact setRow_heap w g.1 cs cur r.ty (0, 0) g4, hroom, g3, by rw [hcur]; exact hcs, by simp only [List.length_append, hol]; omega, fun j z hj => ?_⟩)
                    · unfold After
                      exact this
                    · have hA' := appended (b := g.2 + q) (M' := Own M h blk) (w := w) (olds := (r.cells.drop q).take (n * φ.size)) (news := news) (xs := (cs.toList.drop (g.2 + q)).take (n * φ.size)) (us := us) (cur := cur) (by rw [hol, hxl2]) hx2 (by rw [hol, k7]; exact htake)
                        (fun j z hj => by
                          rw [getElem?_drop_take] at hj
                          split at hj
                          · rename_i hjl
                            have := g8 _ _ hj
                            have he : ((cs.toList.drop (g.2 + q)).take (n * φ.size)).getD j undef = cs.getD (g.2 + (q + j)) undef := by
                              simp only [List.getD_eq_getElem?_getD, getElem?_drop_take, if_pos hjl, Nat.add_assoc]
                              simp
                            rw [he]; exact this
                          · cases hj) hx3 j z hj
                      refine ⟨hA'.1, hA'.2.keep fun b q1 q2 => ⟨by rw [hsize]; exact q1, ?_, hheap b (fun he => q2 (he ▸ hown))⟩⟩
                      rintro (hb | rfl)
                      · exact q2 (own_forget hb)
                      · exact q2 hown
                  · exact empty (by omega)
                · rw [g3] at hs1
                  simp only [Value.slice.injEq] at hs1
                  exact empty (by omega)
              · exact grow (some y) B n cb xs' _ (fun y' hy' => by cases hy'; exact ⟨r, hyy, k3⟩) hs1 hsle (fun h => (hs5 h)) (by omega) (by omega) hs4 hs3 (by omega) k5 k6 k7 hE.symm
            · cases hE
          · cases hE
        · cases hE
      · cases hE
    · cases hE
  · cases hE
end
end Go.Proofs.YtdecgihkgpgejaaDoor.Am
