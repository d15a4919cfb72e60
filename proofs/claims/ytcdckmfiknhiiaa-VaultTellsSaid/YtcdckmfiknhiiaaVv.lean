/- The memory-free machine, part 9: append; equality of structs; every operation. -/
import Derived.Test.YtcdckmfiknhiiaaVu
import Derived.ArgAppend
namespace Go.Proofs.Ytcdckmfiknhiiaa.Vm
open Go.RowKit

section
variable {P : Program} {T : Nat → Option Ty} {N : Nat} {M : Nat → Prop} {w0 : World} {blk : Nat → Nat} {V : Nat → Nat → Prop} {t : Nat → D} {h : Nat → Option Row} {a : Act} {w : World} {e : Nat} {o : Oper} {Γ : Nat → List D → Option D}

def forget (h : Nat → Option Row) : Option Nat → Nat → Option Row
  | some y => upd h y none
  | none => h

/-- A new row, whose block another call has laid, or that takes the place of an own row. -/
theorem Inv.adopt (hI : Inv N M w0 blk V t h a w) {w' : World} {h1 : Nat → Option Row} {old : Option Nat} {d e ty g : Nat} {cs : List D} {vs : Array Value}
    (hos : w'.os = w.os) (htape : w'.tape = w.tape) (hout : w'.output = w.output) (hsize : w.heap.size ≤ w'.heap.size)
    (hblock : ∀ k, k < w.heap.size → (∀ y, old = some y → k ≠ blk y) → w'.heap[k]? = w.heap[k]?)
    (hold : ∀ y, old = some y → ∃ r, h y = some r ∧ r.fz = false) (hh1 : h1 = forget h old)
    (hg : w.heap.size ≤ g ∨ ∃ y, old = some y ∧ g = blk y) (hV : ¬ V d e) (hlies : w'.heap[g]? = some (.cells vs ty (0, 0))) (hl : cs.length ≤ vs.size)
    (hc : ∀ j x, cs[j]? = some x → plainC x = true ∧ RP w (Own M h blk) x (vs.getD j undef)) :
    Inv N M w0 (upd blk d g) (fun x v => V x v ∨ (x = d ∧ v = e)) t (upd h1 d (some ⟨e, ty, cs, false⟩)) a w' := by
  have hf : ∀ x r, h1 x = some r → h x = some r ∧ ∀ y, old = some y → x ≠ y := by
    intro x r hx
    cases old with
    | none => subst hh1; exact ⟨hx, fun y hy => by cases hy⟩
    | some y =>
      subst hh1
      simp only [forget] at hx
      by_cases hxy : x = y
      · subst hxy; simp [upd] at hx
      · rw [upd_ne _ _ hxy] at hx
        exact ⟨hx, fun z hz => by cases hz; exact hxy⟩
  have hne : ∀ x r, h1 x = some r → ∀ y, old = some y → blk x ≠ blk y := by
    intro x r hx y hy he
    obtain ⟨s, hs, _⟩ := hold y hy
    exact (hf x r hx).2 y hy (hI.inj x y r s (hf x r hx).1 hs he)
  have hgn : ∀ x r, h1 x = some r → blk x ≠ g := by
    intro x r hx he
    rcases hg with hg | ⟨y, hy, hgy⟩
    · have := hI.lt (hf x r hx).1; omega
    · exact hne x r hx y hy (he.trans hgy)
  have hkeep : ∀ b, b < w.heap.size → ¬ Own M h blk b → w'.heap[b]? = w.heap[b]? := by
    intro b hb hn
    refine hblock b hb fun y hy he => ?_
    obtain ⟨s, hs, hz⟩ := hold y hy
    exact hn (.inr ⟨y, s, hs, hz, he.symm⟩)
  have hown : ∀ b, b < w.heap.size → ¬ Own M h blk b → ¬ Own M (upd h1 d (some ⟨e, ty, cs, false⟩)) (upd blk d g) b := by
    intro b hb hn hb'
    rcases hb' with hb' | ⟨x, r, hx, hz, he⟩
    · exact hn (.inl hb')
    · by_cases hxd : x = d
      · subst hxd
        rw [upd_same] at he
        rcases hg with hg | ⟨y, hy, hgy⟩
        · omega
        · obtain ⟨s, hs, hz'⟩ := hold y hy
          exact hn (.inr ⟨y, s, hs, hz', by rw [← hgy, he]⟩)
      · rw [upd_ne _ _ hxd] at hx he
        exact hn (.inr ⟨x, r, (hf x r hx).1, hz, he⟩)
  have hk : ∀ b, b < w.heap.size → ¬ Own M h blk b → b < w'.heap.size ∧ ¬ Own M (upd h1 d (some ⟨e, ty, cs, false⟩)) (upd blk d g) b ∧ w'.heap[b]? = w.heap[b]? :=
    fun b h1 h2 => ⟨by omega, hown b h1 h2, hkeep b h1 h2⟩
  have hbase : w0.heap.size ≤ g := by
    rcases hg with hg | ⟨y, hy, hgy⟩
    · exact Nat.le_trans hI.below.size hg
    · obtain ⟨s, hs, _⟩ := hold y hy
      rw [hgy]; exact (hI.rows y s hs).2.base
  have hrowsame : ∀ x r, h1 x = some r → w'.heap[blk x]? = w.heap[blk x]? := fun x r hx => hblock _ (hI.lt (hf x r hx).1) (fun y hy => hne x r hx y hy)
  exact {
    below := hI.below.trans ⟨hos, htape, hout, hsize, fun k hk' => hblock k (Nat.lt_of_lt_of_le hk' hI.below.size) (fun y hy he => by
      obtain ⟨s, hs, _⟩ := hold y hy
      have := (hI.rows y s hs).2.base
      omega)⟩
    mlt := hI.mlt
    defers := hI.defers
    tsz := hI.tsz
    slots := fun i => (hI.slots i).mono hk (fun _ _ h => .inl h) (fun x v hv r' g1 g2 => by
      by_cases hxd : x = d
      · subst hxd
        rw [upd_same] at g1
        simp only [Option.some.injEq] at g1
        subst g1
        simp only at g2
        subst g2
        exact absurd hv hV
      · rw [upd_ne _ _ hxd] at g1
        exact ⟨⟨r', (hf x r' g1).1, g2⟩, upd_ne _ _ hxd, shape_of_heap (hrowsame x r' g1)⟩)
    rows := fun x r hx => by
      by_cases hxd : x = d
      · subst hxd
        rw [upd_same] at hx
        simp only [Option.some.injEq] at hx
        subst hx
        rw [upd_same]
        exact ⟨.inr ⟨rfl, rfl⟩, hbase, vs, hlies, hl, fun j x hj => ⟨(hc j x hj).1, (hc j x hj).2.keep hk⟩⟩
      · rw [upd_ne _ _ hxd] at hx
        rw [upd_ne _ _ hxd]
        obtain ⟨g1, g2, cs', g3, g4, g5⟩ := hI.rows x r (hf x r hx).1
        exact ⟨.inl g1, g2, cs', (hrowsame x r hx).trans g3, g4, fun j x hj => ⟨(g5 j x hj).1, (g5 j x hj).2.keep hk⟩⟩
    inj := fun x y r s hx hy he => by
      by_cases hxd : x = d
      · by_cases hyd : y = d
        · rw [hxd, hyd]
        · subst hxd
          rw [upd_ne _ _ hyd] at hy he
          rw [upd_same] at he
          exact absurd he.symm (hgn y s hy)
      · by_cases hyd : y = d
        · subst hyd
          rw [upd_ne _ _ hxd] at hx he
          rw [upd_same] at he
          exact absurd he (hgn x r hx)
        · rw [upd_ne _ _ hxd] at hx he
          rw [upd_ne _ _ hyd] at hy he
          exact hI.inj x y r s (hf x r hx).1 (hf y s hy).1 he }

/-- What a source of append holds. -/
theorem Inv.content (hI : Inv N M w0 blk V t h a w) {d : D} {m s : Nat} {news : List D} {u : Value} (hs : 0 < s) (hc : content h d = some (m, news)) (hl : news.length = m * s) (hr : RT w (Own M h blk) h blk V d u) :
    ∃ (A : Option Addr) (c : Nat) (us : List Value), u = .slice A m c ∧ m ≤ c ∧ us.length = news.length ∧ (∀ j x, news[j]? = some x → plainC x = true ∧ RP w (Own M h blk) x (us.getD j undef)) ∧
      (∀ ad, A = some ad → ∀ j v, us[j]? = some v → w.cell? (ad.add j) = some v) ∧ (A = none → m = 0) := by
  cases d with
  | sl nl tight n xs =>
    simp only [Vm.content, Option.some.injEq, Prod.mk.injEq] at hc
    obtain ⟨rfl, rfl⟩ := hc
    have hr' : RP w (Own M h blk) (.sl nl tight n xs) u := hr
    cases hr' with
    | sl A c nl tight n xs us h1 h2 h3 h4 h5 h6 h7 h8 =>
      refine ⟨A, c, (List.range xs.length).map us, rfl, h1, by simp, fun j x hj => ⟨h8 x (List.mem_of_getElem? hj), ?_⟩, fun ad hA j v hj => ?_, fun hA => ?_⟩
      · have hlt := (List.getElem?_eq_some_iff.1 hj).1
        have : ((List.range xs.length).map us).getD j undef = us j := by simp [List.getD, hlt]
        rw [this]; exact h7 j x hj
      · obtain ⟨hlt, he⟩ := List.getElem?_eq_some_iff.1 hj
        simp only [List.length_map, List.length_range] at hlt
        simp only [List.getElem_map, List.getElem_range] at he
        have hne : xs ≠ [] := by rintro rfl; simp at hlt
        obtain ⟨b, o, hA', _, _, g3⟩ := h6 hne
        rw [hA] at hA'
        simp only [Option.some.injEq] at hA'
        subst hA'
        rw [add_mk, ← he]
        exact g3 j hlt
      · cases nl with
        | true => have := (h3 rfl).2; omega
        | false => exact absurd hA (h4 rfl)
  | buf x v z q n =>
    simp only [Vm.content] at hc
    split at hc
    · rename_i r hlv
      split at hc
      · rename_i hle
        simp only [Option.some.injEq, Prod.mk.injEq] at hc
        obtain ⟨rfl, rfl⟩ := hc
        obtain ⟨o', c, cs, g1, g2, g3, g4, g5, g6, g7, g8⟩ := hI.bufCells hlv hle hr
        have hlen : ((r.cells.drop q).take (n * z)).length = n * z := by simp; omega
        rw [hlen] at hl
        refine ⟨_, c, (List.range (n * z)).map (fun j => cs.getD (q + j) undef), g1, g2, by simp; omega, fun j x hj => ?_, fun ad hA j v hj => ?_, fun hA => by cases hA⟩
        · rw [getElem?_drop_take] at hj
          split at hj
          · rename_i hjl
            have : ((List.range (n * z)).map (fun j => cs.getD (q + j) undef)).getD j undef = cs.getD (q + j) undef := by simp [List.getD, hjl]
            rw [this]
            exact g8 _ _ hj
          · cases hj
        · obtain ⟨hlt, he⟩ := List.getElem?_eq_some_iff.1 hj
          simp only [List.length_map, List.length_range] at hlt
          simp only [List.getElem_map, List.getElem_range] at he
          simp only [Option.some.injEq] at hA
          subst hA
          have hn : 0 < n := by
            rcases Nat.eq_zero_or_pos n with h0 | h0
            · subst h0; simp at hlt
            · exact h0
          have := g5 (.inl hn)
          subst this
          rw [add_mk, ← he]
          exact cell_of_cells g4 (by omega)
      · cases hc
    · cases hc
  | _ => simp [Vm.content] at hc

theorem ownsRow_nonnil {base ty size n : Nat} {v : Value} {xs : List Value} (h : w.ownsRow base ty size v n xs) (hne : v ≠ .slice none 0 0) :
    ∃ g cap cur, v = .slice (some ⟨g, 0, none⟩) n cap ∧ base ≤ g ∧ w.heap[g]? = some (.cells cur ty (0, 0)) ∧ n ≤ cap ∧ cap ≤ maxLen ∧ cur.size = cap * size ∧ cur.toList.take (n * size) = xs := by
  rcases h.2 with ⟨h1, _⟩ | h1
  · exact absurd h1 hne
  · exact h1

theorem appended {M' : Nat → Prop} {olds news : List D} {xs us : List Value} {cur : Array Value} (hxl : xs.length = olds.length) (hul : us.length = news.length) (hcur : cur.toList.take (olds.length + news.length) = xs ++ us)
    (h1 : ∀ j x, olds[j]? = some x → plainC x = true ∧ RP w M' x (xs.getD j undef)) (h2 : ∀ j x, news[j]? = some x → plainC x = true ∧ RP w M' x (us.getD j undef)) (j : Nat) (x : D) (hj : (olds ++ news)[j]? = some x) :
    plainC x = true ∧ RP w M' x (cur.getD j undef) := by
  have hlt : j < olds.length + news.length := by
    have := (List.getElem?_eq_some_iff.1 hj).1
    simpa using this
  have hg : cur.getD j undef = (xs ++ us).getD j undef := by
    rw [← hcur]
    simp only [List.getD_eq_getElem?_getD, List.getElem?_take, if_pos hlt]
    simp
  rw [hg]
  by_cases hjo : j < olds.length
  · rw [List.getElem?_append_left hjo] at hj
    have : (xs ++ us).getD j undef = xs.getD j undef := by
      simp only [List.getD_eq_getElem?_getD]
      rw [List.getElem?_append_left (by omega)]
    rw [this]; exact h1 j x hj
  · rw [List.getElem?_append_right (by omega)] at hj
    have : (xs ++ us).getD j undef = us.getD (j - olds.length) undef := by
      simp only [List.getD_eq_getElem?_getD]
      rw [List.getElem?_append_right (by omega), hxl]
    rw [this]; exact h2 _ x hj

theorem oneCells {M' : Nat → Prop} {news : List D} {us : List Value} (hul : us.length = news.length) (h2 : ∀ j x, news[j]? = some x → plainC x = true ∧ RP w M' x (us.getD j undef)) : ∀ u ∈ us, u.oneCell' = true := by
  intro u hu
  obtain ⟨j, hj⟩ := List.getElem?_of_mem hu
  have hlt := (List.getElem?_eq_some_iff.1 hj).1
  obtain ⟨p1, p2⟩ := h2 j _ (List.getElem?_eq_getElem (by omega))
  have : us.getD j undef = u := by simp [List.getD, hj]
  rw [this] at p2
  exact p2.oneCell p1

/-- append of nothing to what has its place. -/
theorem run_append_zero (t ty el : Nat) {τ : Ty} (hd : P.underlying t = some (.slice el)) {φ : Ty} (hφ : TyOk P el φ) (A B : Option Addr) (n c k : Nat) (hn : n ≤ c) : (Builtin.append_ #[t, t] ty #[.slice A n c, .slice B 0 k]).run P w = .ok (.slice A n c) w := by
  have hfc : (Builtin.firstCells φ.size 0 (.slice B 0 k)).run P w = .ok #[] w := by
    cases B with
    | none => simp [Builtin.firstCells]
    | some b => simp [Builtin.firstCells, loadCells, loadCellsFrom]
  cases A with
  | none => simp [Builtin.append_, run_underlying hd, run_sizeOf hφ, Builtin.lenOf, hn, hfc]
  | some b => simp [Builtin.append_, run_underlying hd, run_sizeOf hφ, Builtin.lenOf, hn, hfc, storeCells]

theorem does_append (hT : TOk P T) (hI : Inv N M w0 blk V t h a w) {c : Call} {s x : Operand} {ty d : Nat} {τ : Ty} {E : Eff} (ho : o.op = .call c) (hc : c.callee = .builtin .append) (hargs : c.args = #[s, x]) (htys : c.argTypes = #[ty, ty]) (hd : o.dst = some d)
    (hV : ¬ V d e) (hτ : T ty = some τ) (hE : effAppend T τ h e d (ev t s) (ev t x) = some E) : Does P o a w (After N M w0 V t h a e o.dst E) := by
  have hps := hI.ev s
  have hpx := hI.ev x
  generalize ev t s = qs at *
  generalize ev t x = qx at *
  obtain ⟨dd, hdd, hcv⟩ := under hT hτ
  have hexec : ∀ v w', (Builtin.append_ #[ty, ty] o.type #[a.eval s, a.eval x]).run P w = .ok v w' → (execOp a.eval o).run P w = .ok (.value v) w' := by
    intro v w' hr
    simp [execOp, ho, resolve, hc, hargs, htys, invoke, builtin, hr]
  unfold effAppend at hE
  split at hE
  · rename_i el hds
    rw [hds] at hcv
    have := conv_slice hcv
    subst this
    split at hE
    · rename_i φ m news hφ hcont
      split at hE
      · rename_i hpos
        obtain ⟨d', i, z, i1, i2, i3, i4, i5, i6, i7⟩ := (hT el φ hφ).get
        have hzs : z.cells.size = φ.size := by rw [i7]; simpa using hpos.2
        split at hE
        · rename_i nl tight n xs
          split at hE
          · rename_i hcond
            obtain ⟨k1, k2, k3, k4, k5⟩ := hcond
            obtain ⟨A, cx, us, hx1, hxle, hx2, hx3, hx4, hx5⟩ := hI.content hpos.1 hcont k5 hpx
            have hps' : RP w (Own M h blk) (.sl nl tight n xs) (a.eval s) := hps
            split at hE
            · rename_i hm
              subst hm
              simp only [Option.some.injEq] at hE
              subst hE
              have hex : ∃ A c, a.eval s = .slice A n c ∧ n ≤ c := by
                generalize a.eval s = u at *
                cases hps' with
                | sl A c nl tight n xs us h1 h2 h3 h4 h5 h6 h7 h8 => exact ⟨A, c, rfl, h1⟩
              obtain ⟨B, cb, hb1, hb2⟩ := hex
              refine does_value (hexec _ _ (by rw [hb1, hx1]; exact run_append_zero (τ := τ) ty o.type el hdd (hT el φ hφ) B A n cb cx hb2)) (After.pure_ hI ?_)
              rw [← hb1]; exact hps
            · rename_i hm
              simp only [Option.some.injEq] at hE
              subst hE
              obtain ⟨ad, hA⟩ : ∃ ad, A = some ad := by
                cases A with
                | none => exact absurd (hx5 rfl) hm
                | some ad => exact ⟨ad, rfl⟩
              subst hA
              have hxl : us.length = m * φ.size := by omega
              obtain ⟨B, cb, xs', hs1, hsle, hs2, hs3, hs4, hs5⟩ := hI.content (d := .sl nl tight n xs) hpos.1 rfl k4 hps
              have hcap : cb = n := by
                generalize a.eval s = u at *
                cases hps' with
                | sl A' c' nl tight n xs us' h1 h2 h3 h4 h5 h6 h7 h8 =>
                  simp only [Value.slice.injEq] at hs1
                  obtain ⟨_, _, rfl⟩ := hs1
                  rcases Bool.or_eq_true _ _ ▸ k1 with hn | hn
                  · have := (h3 hn).2; omega
                  · exact h5 hn
              subst hcap
              have hgrow : ∃ v' w', (Builtin.append_ #[ty, ty] o.type #[a.eval s, a.eval x]).run P w = .ok v' w' ∧ w'.ownsRow w.heap.size el φ.size v' (cb + m) (xs' ++ us) ∧ w.grownBy w' none := by
                rw [hs1, hx1]
                cases B with
                | some b =>
                  exact run_append_arg_grows (P := P) w ty o.type el i z φ.size φ.bytes hdd i3 i6 i4 i5 hzs hpos.1 b cb cb xs' (by rw [hs2]; exact k4) (hs4 b rfl) ad m cx us hxl (hx4 ad rfl) (by omega) k2 k3
                | none =>
                  have h0 := hs5 rfl
                  subst h0
                  have hx0 : xs' = [] := List.eq_nil_of_length_eq_zero (by rw [hs2, k4]; omega)
                  subst hx0
                  obtain ⟨v', w', r0, r1, r2, _⟩ := run_append_own (P := P) w w.heap.size ty o.type el i z φ.size φ.bytes hdd i3 i6 i4 i5 hzs hpos.1 (.slice none 0 0) 0 [] (World.ownsRow_nil w _ el φ.size) ad m cx us hxl (hx4 ad rfl) (oneCells hx2 hx3) (by omega) (by omega) (Nat.le_refl _)
                  exact ⟨v', w', r0, by simpa using r1, by simpa [Value.ownBlock] using r2⟩
              obtain ⟨v', w', hrun, hown, hgr⟩ := hgrow
              have hvne : v' ≠ .slice none 0 0 := by
                rintro rfl
                rcases hown.2 with ⟨_, h0⟩ | ⟨g, cap, cur, hv, _⟩
                · omega
                · cases hv
              obtain ⟨g, cap, cur, hv, hgb, hgh, hgc, hgm, hgs, hgt⟩ := ownsRow_nonnil hown hvne
              have hI' := hI.adopt (w' := w') (old := none) (d := d) (e := e) (ty := el) (g := g) (cs := xs ++ news) (vs := cur) hgr.os hgr.tape hgr.output hgr.size (fun k hk _ => hgr.block k hk (by simp)) (fun y hy => by cases hy) rfl (.inl hgb) hV hgh
                (by simp only [List.length_append]; rw [hgs, k4, k5, ← Nat.add_mul]; exact Nat.mul_le_mul_right _ hgc)
                (fun j y hj => appended hs2 hx2 (by rw [k4, k5, ← Nat.add_mul]; exact hgt) hs3 hx3 j y hj)
              subst hv
              refine does_value (hexec _ _ hrun) ⟨upd blk d g, ?_, ?_⟩
              · refine hI'.weaken fun x v hx => ?_
                rcases hx with hx | ⟨rfl, rfl⟩
                · exact .inl hx
                · exact .inr ⟨hd, rfl⟩
              · exact RT_buf_new (.inr ⟨hd, rfl⟩) (upd_same _ _ _) hgh hgc hgm hgs.symm
          · cases hE
        · rename_i y v zz q n
          split at hE
          · rename_i r hlv
            split at hE
            · rename_i hcond
              obtain ⟨k0, k1, k2, k3, k4, k5, k6, k7⟩ := hcond
              subst k0 k1
              simp only [Option.some.injEq] at hE
              subst hE
              obtain ⟨A, cx, us, hx1, hxle, hx2, hx3, hx4, hx5⟩ := hI.content hpos.1 hcont k7 hpx
              obtain ⟨o', cb, cs, g1, g2, g3, g4, g5, g6, g7, g8⟩ := hI.bufCells hlv (by omega) hps
              obtain ⟨hyy, hyv⟩ := live_some hlv
              have ho' := g5 (.inr rfl)
              subst ho'
              have hcs := g6 rfl
              have hown : w.ownsRow w0.heap.size el φ.size (a.eval s) n (cs.toList.take (n * φ.size)) := by
                refine ⟨by simp; omega, .inr ⟨blk y, cb, cs, g1, (hI.rows y r hyy).2.base, by rw [← k2]; exact g4, g2, g3, hcs.symm, rfl⟩⟩
              have hxl : us.length = m * φ.size := by omega
              have hrun : ∃ v' w', (Builtin.append_ #[ty, ty] o.type #[a.eval s, a.eval x]).run P w = .ok v' w' ∧ w'.ownsRow w0.heap.size el φ.size v' (n + m) (cs.toList.take (n * φ.size) ++ us) ∧ w.grownBy w' (some (blk y)) ∧
                  v' ≠ .slice none 0 0 ∧ (v'.ownBlock = some (blk y) ∨ v'.ownBlock = some w.heap.size) := by
                rw [hx1]
                cases A with
                | some ad =>
                  obtain ⟨v', w', r0, r1, r2, r3, r4⟩ := run_append_own_at (P := P) w w0.heap.size ty o.type el i z φ.size φ.bytes hdd i3 i6 i4 i5 hzs hpos.1 (a.eval s) n _ hown ad m cx us hxl (hx4 ad rfl) (oneCells hx2 hx3) k5 k6 hI.below.size
                  have hob : (a.eval s).ownBlock = some (blk y) := by rw [g1]; rfl
                  rw [hob] at r2 r4
                  refine ⟨v', w', r0, r1, r2, fun hv => ?_, r4⟩
                  have := (r3.1 hv).1
                  rw [g1] at this
                  cases this
                | none =>
                  have h0 := hx5 rfl
                  subst h0
                  have hu0 : us = [] := List.eq_nil_of_length_eq_zero (by omega)
                  subst hu0
                  refine ⟨a.eval s, w, ?_, by simpa using hown, World.grownBy.refl w _, by rw [g1]; simp, .inl (by rw [g1]; rfl)⟩
                  rw [g1]
                  exact run_append_zero (τ := τ) ty o.type el hdd (hT el φ hφ) _ _ n cb cx g2
              obtain ⟨v', w', hrun, hown', hgr, hvne, hob⟩ := hrun
              obtain ⟨g, cap, cur, hv, hgb, hgh, hgc, hgm, hgs, hgt⟩ := ownsRow_nonnil hown' hvne
              have hgg : w.heap.size ≤ g ∨ ∃ y', some y = some y' ∧ g = blk y' := by
                rw [hv] at hob
                simp only [Value.ownBlock, Option.some.injEq] at hob
                rcases hob with hob | hob
                · exact .inr ⟨y, rfl, hob⟩
                · exact .inl (by omega)
              have hI' := hI.adopt (w' := w') (old := some y) (d := d) (e := e) (ty := el) (g := g) (cs := r.cells ++ news) (vs := cur) hgr.os hgr.tape hgr.output hgr.size (fun k hk hky => hgr.block k hk (fun he => hky y rfl (by injection he)))
                (fun y' hy' => by cases hy'; exact ⟨r, hyy, k3⟩) rfl hgg hV hgh
                (by simp only [List.length_append]; rw [hgs, k4, k7, ← Nat.add_mul]; exact Nat.mul_le_mul_right _ hgc)
                (fun j z hj => appended (xs := cs.toList.take (n * φ.size)) (us := us) (by simp; omega) hx2 (by rw [k4, k7, ← Nat.add_mul]; exact hgt) (fun j z hj => by
                  have := g8 j z hj
                  have hjl := (List.getElem?_eq_some_iff.1 hj).1
                  have he : (cs.toList.take (n * φ.size)).getD j undef = cs.getD j undef := by
                    simp only [List.getD_eq_getElem?_getD, List.getElem?_take]
                    rw [if_pos (by omega)]
                    simp
                  rw [he]; exact this) hx3 j z hj)
              subst hv
              refine does_value (hexec _ _ hrun) ⟨upd blk d g, ?_, ?_⟩
              · refine hI'.weaken fun x v hx => ?_
                rcases hx with hx | ⟨rfl, rfl⟩
                · exact .inl hx
                · exact .inr ⟨hd, rfl⟩
              · exact RT_buf_new (.inr ⟨hd, rfl⟩) (upd_same _ _ _) hgh hgc hgm hgs.symm
            · cases hE
          · cases hE
        · cases hE
      · cases hE
    · cases hE
  · cases hE
end
end Go.Proofs.Ytcdckmfiknhiiaa.Vm
