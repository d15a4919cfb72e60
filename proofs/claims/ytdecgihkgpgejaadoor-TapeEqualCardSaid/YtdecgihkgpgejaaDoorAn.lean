/- The memory-free machine, part 2: what becomes of the relation when slots, rows and the world change. -/
import Derived.Test.YtdecgihkgpgejaaDoorAm
namespace Go.Proofs.YtdecgihkgpgejaaDoor.Am
open Go.RowKit
set_option linter.unusedSimpArgs false
set_option linter.unusedVariables false

theorem upd_same {α : Type} (f : Nat → α) (i : Nat) (v : α) : upd f i v i = v := by simp [upd]
theorem upd_ne {α : Type} (f : Nat → α) {i j : Nat} (v : α) (h : j ≠ i) : upd f i v j = f j := by simp [upd, h]
theorem upd_comm {α : Type} (f : Nat → α) {i j : Nat} (v u : α) (h : i ≠ j) : upd (upd f i v) j u = upd (upd f j u) i v := by
  funext k
  unfold upd
  split <;> split <;> simp_all
theorem upd_upd {α : Type} (f : Nat → α) (i : Nat) (v u : α) : upd (upd f i v) i u = upd f i u := by
  funext k
  unfold upd
  split <;> simp_all

theorem RP.oneCell {w : World} {M : Nat → Prop} {d : D} {u : Value} (h : RP w M d u) (hp : plainC d = true) : u.oneCell' = true := by
  cases h <;> simp_all [plainC, Value.oneCell']
theorem RP.cells {w : World} {M : Nat → Prop} {d : D} {u : Value} (h : RP w M d u) (hp : plainC d = true) : u.cells = #[u] := by
  cases h with
  | ali x v s o n u h1 => cases u <;> simp_all [Value.oneCell', Value.cells]
  | alm x v u h1 => cases u <;> simp_all [Value.oneCell', Value.cells]
  | _ => simp_all [plainC, Value.cells]

theorem RT_of_RP {w : World} {M : Nat → Prop} {h : Nat → Option Row} {blk : Nat → Option (Nat × Nat)} {V : Nat → Nat → Prop} {d : D} {u : Value} (hr : RP w M d u) : RT w M h blk V d u := by
  cases hr with
  | int k n => exact .int k n
  | bool b => exact .bool b
  | str s => exact .str s
  | sl A c nl tight n xs us h1 h2 h3 h4 h5 h6 h7 h8 => exact .sl A c nl tight n xs us h1 h2 h3 h4 h5 h6 h7 h8
  | ip xs ad us h6 h7 h8 => exact .ip xs ad us h6 h7 h8
  | agg xs us h1 h2 h3 => exact .agg xs us h1 h2 h3
  | tup xs us h1 h2 => exact .tup xs us h1 h2
  | fn f => exact .fn f
  | ali x v s o n u h1 => exact .ali x v s o n u h1
  | mpc ks vs mb us h1 h2 h3 h4 => exact .mpc ks vs mb us h1 h2 h3 h4
  | alm x v u h1 => exact .alm x v u h1
  | clo f kk xs us h1 h2 =>
    refine ⟨us, rfl, h1, fun j x hj => ?_⟩
    have := h2 j x hj
    cases x with
    | ptr x v o => cases this
    | mp x v => cases this
    | pm x v y => cases this
    | _ => exact this

theorem RT_ofV (w : World) (M : Nat → Prop) (h : Nat → Option Row) (blk : Nat → Option (Nat × Nat)) (V : Nat → Nat → Prop) (v : Value) : RT w M h blk V (ofV v) v := by
  unfold ofV
  split
  · exact .int _ _
  · exact .bool _
  · exact .str _
  · exact .sl none 0 true true 0 [] (fun _ => undef) (Nat.le_refl _) (Nat.zero_le _) (fun _ => ⟨fun _ => ⟨rfl, rfl⟩, fun h => by cases h⟩) (fun _ => ⟨rfl, rfl⟩) (fun _ => rfl) (fun h => absurd rfl h) (fun j x hx => by simp at hx) (fun x hx => by simp at hx)
  · exact .mpc [] [] none (fun _ => undef) rfl (fun _ => rfl) (fun b hb => by cases hb) (fun j x hj => by simp at hj)
  · trivial

/-- What is kept of the blocks, the versions and the rows, for the relation of slots to be handed on. -/
structure Keeps (w w' : World) (M M' : Nat → Prop) (h h' : Nat → Option Row) (blk blk' : Nat → Option (Nat × Nat)) (V V' : Nat → Nat → Prop) : Prop where
  hk : ∀ b, b < w.heap.size → ¬ M b → b < w'.heap.size ∧ ¬ M' b ∧ w'.heap[b]? = w.heap[b]?
  hV : ∀ x v, V x v → V' x v
  hrow : ∀ x v, V x v → ∀ r', h' x = some r' → r'.v = v → (∃ r, h x = some r ∧ r.v = v) ∧ blk' x = blk x ∧ ∀ g, blk x = some g → w'.shape? g.1 = w.shape? g.1

/-- A relation of slots is handed on to a later world. -/
theorem RC.mono {w w' : World} {M M' : Nat → Prop} {h h' : Nat → Option Row} {blk blk' : Nat → Option (Nat × Nat)} {V V' : Nat → Nat → Prop} (k : Keeps w w' M M' h h' blk blk' V V') {d : D} {u : Value}
    (hr : RC w M h blk V d u) : RC w' M' h' blk' V' d u := by
  cases d with
  | ptr x v o =>
    refine ⟨k.hV _ _ hr.1, fun r' h1 h2 => ?_⟩
    obtain ⟨⟨r, h3, h4⟩, h5, _⟩ := k.hrow x v hr.1 r' h1 h2
    rw [h5]
    exact hr.2 r h3 h4
  | mp x v =>
    refine ⟨k.hV _ _ hr.1, fun r' h1 h2 => ?_⟩
    obtain ⟨⟨r, h3, h4⟩, h5, _⟩ := k.hrow x v hr.1 r' h1 h2
    rw [h5]
    exact hr.2 r h3 h4
  | pm x v y =>
    refine ⟨k.hV _ _ hr.1, fun r' h1 h2 => ?_⟩
    obtain ⟨⟨r, h3, h4⟩, h5, _⟩ := k.hrow x v hr.1 r' h1 h2
    rw [h5]
    exact hr.2 r h3 h4
  | _ => exact RP.keep k.hk hr

theorem RT.mono {w w' : World} {M M' : Nat → Prop} {h h' : Nat → Option Row} {blk blk' : Nat → Option (Nat × Nat)} {V V' : Nat → Nat → Prop} (k : Keeps w w' M M' h h' blk blk' V V') {d : D} {u : Value}
    (hr : RT w M h blk V d u) : RT w' M' h' blk' V' d u := by
  cases d with
  | ptr x v o => exact RC.mono (d := .ptr x v o) k hr
  | mp x v => exact RC.mono (d := .mp x v) k hr
  | pm x v y => exact RC.mono (d := .pm x v y) k hr
  | buf x v s o n =>
    refine ⟨k.hV _ _ hr.1, fun r' h1 h2 => ?_⟩
    obtain ⟨⟨r, h3, h4⟩, h5, h6⟩ := k.hrow x v hr.1 r' h1 h2
    rw [h5]
    rcases hr.2 r h3 h4 with ⟨g, o', c, N, t, g0, g1, g2, g3, g4, g5⟩ | hv
    · exact .inl ⟨g, o', c, N, t, g0, g1, g2, g3, g4, (h6 g g0).trans g5⟩
    · exact .inr hv
  | clo f kk xs =>
    obtain ⟨us, h1, h2, h3⟩ := hr
    exact ⟨us, h1, h2, fun j x hj => (h3 j x hj).mono k⟩
  | box1 x v s o n =>
    obtain ⟨u', hu, ho, hr⟩ := hr
    refine ⟨u', hu, ho, k.hV _ _ hr.1, fun r' h1 h2 => ?_⟩
    obtain ⟨⟨r, h3, h4⟩, h5, h6⟩ := k.hrow x v hr.1 r' h1 h2
    rw [h5]
    rcases hr.2 r h3 h4 with ⟨g, o', c, N, t, g0, g1, g2, g3, g4, g5⟩ | hv
    · exact .inl ⟨g, o', c, N, t, g0, g1, g2, g3, g4, (h6 g g0).trans g5⟩
    · exact .inr hv
  | und => trivial
  | skp => exact hr
  | _ => exact RP.keep k.hk hr

theorem shape_of_heap {w w' : World} {b : Nat} (h : w'.heap[b]? = w.heap[b]?) : w'.shape? b = w.shape? b := by simp [World.shape?, h]

theorem Beyond.refl (L : Nat → Prop) (w : World) : Beyond L w w := ⟨rfl, rfl, rfl, Nat.le_refl _, fun _ _ _ => rfl⟩
theorem Beyond.trans {L L' : Nat → Prop} {a b c : World} (h : Beyond L a b) (k : Beyond L' b c) (hl : ∀ x, L' x → x < a.heap.size → L x) : Beyond L a c :=
  ⟨k.os.trans h.os, k.tape.trans h.tape, k.output.trans h.output, Nat.le_trans h.size k.size, fun i hi hn => (k.block i (Nat.lt_of_lt_of_le hi h.size) (fun hx => hn (hl i hx hi))).trans (h.block i hi hn)⟩
theorem Beyond.of_below {L : Nat → Prop} {w w' : World} (h : Below w.heap.size w w') : Beyond L w w' := ⟨h.os, h.tape, h.output, h.size, fun k hk _ => h.block k hk⟩
theorem Beyond.below {L : Nat → Prop} {w w' : World} (h : Beyond L w w') (hl : ∀ b, ¬ L b) : Below w.heap.size w w' := ⟨h.os, h.tape, h.output, h.size, fun k hk => h.block k hk (hl k)⟩

theorem Lies.keep {w w' : World} {M M' : Nat → Prop} {g : Nat × Nat} {r : Row} (h : Lies w M g r) (hb : w'.heap[g.1]? = w.heap[g.1]?) (hk : ∀ b, b < w.heap.size → ¬ M b → b < w'.heap.size ∧ ¬ M' b ∧ w'.heap[b]? = w.heap[b]?) : Lies w' M' g r := by
  obtain ⟨cs, h1, h2, h3⟩ := h
  exact ⟨cs, hb.trans h1, h2, fun j d hj => ⟨(h3 j d hj).1, (h3 j d hj).2.keep hk⟩⟩

theorem MapLies.keep {w w' : World} {M M' : Nat → Prop} {g : Nat × Nat} {r r' : Row} (h : MapLies w M g r) (hc : r'.cells = r.cells) (hb : w'.heap[g.1]? = w.heap[g.1]?) (hk : ∀ b, b < w.heap.size → ¬ M b → b < w'.heap.size ∧ ¬ M' b ∧ w'.heap[b]? = w.heap[b]?) : MapLies w' M' g r' := by
  obtain ⟨ks, vs, h1, h2, ents, clock, h3, h4, us, h5, h6⟩ := h
  exact ⟨ks, vs, hc.trans h1, h2, ents, clock, hb.trans h3, h4, us, h5, fun j x hj => (h6 j x hj).keep hk⟩
theorem RowIs.keep {w w' : World} {M M' : Nat → Prop} {g : Nat × Nat} {r r' : Row} (h : RowIs w M g r) (hc : r'.cells = r.cells) (ht : r'.ty = r.ty) (hm : r'.mp = r.mp) (hb : w'.heap[g.1]? = w.heap[g.1]?) (hk : ∀ b, b < w.heap.size → ¬ M b → b < w'.heap.size ∧ ¬ M' b ∧ w'.heap[b]? = w.heap[b]?) : RowIs w' M' g r' := by
  unfold RowIs at h ⊢
  rw [hm]
  cases hmp : r.mp with
  | true => rw [hmp] at h; exact MapLies.keep h hc hb hk
  | false =>
    rw [hmp] at h
    obtain ⟨cs, h1, h2, h3⟩ := h
    refine ⟨cs, by rw [ht]; exact hb.trans h1, by rw [hc]; exact h2, fun j d hj => ?_⟩
    rw [hc] at hj
    exact ⟨(h3 j d hj).1, (h3 j d hj).2.keep hk⟩
theorem RowIs.heap {w : World} {M : Nat → Prop} {g : Nat × Nat} {r : Row} (h : RowIs w M g r) : g.1 < w.heap.size := by
  unfold RowIs at h
  cases hmp : r.mp with
  | true => rw [hmp] at h; obtain ⟨ks, vs, _, _, ents, clock, h3, _⟩ := h; exact (Array.getElem?_eq_some_iff.1 h3).1
  | false => rw [hmp] at h; obtain ⟨cs, h3, _⟩ := h; exact (Array.getElem?_eq_some_iff.1 h3).1
theorem RowOk.keep {L : Nat → Prop} {w0 w w' : World} {M M' : Nat → Prop} {g : Option (Nat × Nat)} {r : Row} (h : RowOk L w0 w M g r) (hb : ∀ b, g = some b → w'.heap[b.1]? = w.heap[b.1]?) (hk : ∀ b, b < w.heap.size → ¬ M b → b < w'.heap.size ∧ ¬ M' b ∧ w'.heap[b]? = w.heap[b]?) : RowOk L w0 w' M' g r := by
  cases g with
  | none => exact h
  | some g => exact ⟨h.1, h.2.keep rfl rfl rfl (hb g rfl) hk⟩

section
variable {N : Nat} {M : Nat → Prop} {L : Lent} {w0 : World} {blk : Nat → Option (Nat × Nat)} {V : Nat → Nat → Prop} {t : Nat → D} {h : Nat → Option Row} {a : Act} {w : World}

theorem Inv.ev (hI : Inv N M L w0 blk V t h a w) (x : Operand) : RT w (Own M h blk) h blk V (ev t x) (a.eval x) := by
  cases x with
  | tmp i => exact hI.slots i
  | const v => exact RT_ofV _ _ _ _ _ v
  | global g => trivial
  | func f => exact RP.fn f

theorem Inv.lies (hI : Inv N M L w0 blk V t h a w) {x : Nat} {r : Row} {g : Nat × Nat} (hx : h x = some r) (hg : blk x = some g) (hm : r.mp = false) : Lies w (Own M h blk) g r := by
  have := (hI.rows x r hx).2
  rw [hg] at this
  have := this.2
  unfold RowIs at this
  rw [hm] at this
  exact this

theorem Inv.rowIs (hI : Inv N M L w0 blk V t h a w) {x : Nat} {r : Row} {g : Nat × Nat} (hx : h x = some r) (hg : blk x = some g) : RowIs w (Own M h blk) g r := by
  have := (hI.rows x r hx).2
  rw [hg] at this
  exact this.2

theorem Inv.base (hI : Inv N M L w0 blk V t h a w) {x : Nat} {r : Row} {g : Nat × Nat} (hx : h x = some r) (hg : blk x = some g) : w0.heap.size ≤ g.1 ∨ LB L g.1 := by
  have := (hI.rows x r hx).2
  rw [hg] at this
  exact this.1

theorem Inv.lt (hI : Inv N M L w0 blk V t h a w) {x : Nat} {r : Row} {g : Nat × Nat} (hx : h x = some r) (hg : blk x = some g) : g.1 < w.heap.size := by
  exact (hI.rowIs hx hg).heap

theorem Inv.own_lt (hI : Inv N M L w0 blk V t h a w) {b : Nat} (hb : Own M h blk b) : b < w.heap.size := by
  rcases hb with hb | ⟨x, r, g, hx, _, hg, rfl⟩
  · exact Nat.lt_of_lt_of_le (hI.mlt b hb) hI.below.size
  · exact hI.lt hx hg

theorem Inv.notM (hI : Inv N M L w0 blk V t h a w) {x : Nat} {r : Row} {g : Nat × Nat} (hx : h x = some r) (hg : blk x = some g) : ¬ M g.1 := by
  rcases hI.base hx hg with h1 | h1
  · intro hm; have := hI.mlt _ hm; omega
  · exact hI.lent _ h1

theorem getD_set (tm : Array Value) (d i : Nat) (v : Value) (hd : d < tm.size) : (tm.setIfInBounds d v).getD i undef = if i = d then v else tm.getD i undef := by
  simp only [Array.getD_eq_getD_getElem?]
  by_cases h : i = d
  · subst h; simp [hd]
  · rw [Array.getElem?_setIfInBounds_ne (Ne.symm h)]; simp [h]

/-- A slot is written. -/
theorem Inv.put (hI : Inv N M L w0 blk V t h a w) {d : Nat} (hd : d < N) {x : D} {v : Value} (hx : RT w (Own M h blk) h blk V x v) : Inv N M L w0 blk V (upd t d x) h (a.put (some d) v) w where
  tab := hI.tab
  below := hI.below
  mlt := hI.mlt
  lent := hI.lent
  pin := hI.pin
  defers := hI.defers
  tsz := by simp [Act.put, hI.tsz]
  slots i := by
    simp only [Act.put]
    rw [getD_set _ _ _ _ (by rw [hI.tsz]; exact hd)]
    by_cases hi : i = d
    · subst hi; simpa [upd] using hx
    · simpa [upd, hi] using hI.slots i
  rows := hI.rows
  inj := hI.inj
  ali := hI.ali

theorem Inv.weaken (hI : Inv N M L w0 blk V t h a w) {V' : Nat → Nat → Prop} (hV : ∀ x v, V x v → V' x v) : Inv N M L w0 blk V' t h a w where
  tab := hI.tab
  below := hI.below
  mlt := hI.mlt
  lent := hI.lent
  pin go hg := ⟨hV _ _ (hI.pin go hg).1, (hI.pin go hg).2⟩
  defers := hI.defers
  tsz := hI.tsz
  slots i := (hI.slots i).mono ⟨fun _ h1 h2 => ⟨h1, h2, rfl⟩, hV, fun _ _ _ r' h1 h2 => ⟨⟨r', h1, h2⟩, rfl, fun _ _ => rfl⟩⟩
  rows x r hx := ⟨hV _ _ (hI.rows x r hx).1, (hI.rows x r hx).2⟩
  inj := hI.inj
  ali y r g hy hz hl hg j c d hj hd := by
    obtain ⟨u, h1, h2⟩ := hI.ali y r g hy hz hl hg j c d hj hd
    exact ⟨u, h1, h2.mono ⟨fun _ h1 h2 => ⟨h1, h2, rfl⟩, hV, fun _ _ _ r' h1 h2 => ⟨⟨r', h1, h2⟩, rfl, fun _ _ => rfl⟩⟩⟩

/-- A later world in which the callers' and the own blocks are as they were. -/
theorem Inv.later (hI : Inv N M L w0 blk V t h a w) {w' : World} (hb : Below w.heap.size w w') : Inv N M L w0 blk V t h a w' where
  tab := hI.tab.keep fun b h1 h2 => ⟨Nat.lt_of_lt_of_le h1 hb.size, h2, hb.block b h1⟩
  below := hI.below.trans (Beyond.of_below (L := LB L) hb) (fun _ h _ => h)
  mlt := hI.mlt
  lent := hI.lent
  pin go hg := ⟨(hI.pin go hg).1, fun r hr hv => ⟨((hI.pin go hg).2 r hr hv).1, fun g hgo => by
    have h1 := (hI.pin go hg).2 r hr hv
    rw [← h1.2 g hgo]
    exact shape_of_heap (hb.block _ (hI.lt hr (h1.1.trans hgo)))⟩⟩
  defers := hI.defers
  tsz := hI.tsz
  slots i := (hI.slots i).mono ⟨fun b h1 h2 => ⟨Nat.lt_of_lt_of_le h1 hb.size, h2, hb.block b h1⟩, fun _ _ h => h,
    fun x v _ r' h1 h2 => ⟨⟨r', h1, h2⟩, rfl, fun g hg => shape_of_heap (hb.block _ (hI.lt h1 hg))⟩⟩
  rows x r hx := ⟨(hI.rows x r hx).1, (hI.rows x r hx).2.keep (fun g hg => hb.block _ (hI.lt hx hg)) (fun b k1 k2 => ⟨Nat.lt_of_lt_of_le k1 hb.size, k2, hb.block b k1⟩)⟩
  inj := hI.inj
  ali y r g hy hz hl hg j c d hj hd := by
    obtain ⟨u, h1, h2⟩ := hI.ali y r g hy hz hl hg j c d hj hd
    refine ⟨u, (World.cell?_of_block (a := ⟨g.1, g.2 + j, none⟩) (hb.block _ (hI.lt hy hg))).trans h1, h2.mono ⟨fun b h1 h2 => ⟨Nat.lt_of_lt_of_le h1 hb.size, h2, hb.block b h1⟩, fun _ _ h => h,
      fun x v _ r' h1 h2 => ⟨⟨r', h1, h2⟩, rfl, fun g hg => shape_of_heap (hb.block _ (hI.lt h1 hg))⟩⟩⟩

theorem Inv.drew (hI : Inv N M L w0 blk V t h a w) : Inv N M L w0 blk V t h a w.drew := hI.later ((Below.refl _ _).drew)

theorem applyH_append (l l' : List (Nat × Option Row)) : ∀ h : Nat → Option Row, applyH h (l ++ l') = applyH (applyH h l) l' := by
  induction l with
  | nil => intro h; rfl
  | cons p l ih => intro h; obtain ⟨x, r⟩ := p; exact ih _
theorem applyH_one (h : Nat → Option Row) (l : List (Nat × Option Row)) (x : Nat) (r : Option Row) : applyH h (l ++ [(x, r)]) = upd (applyH h l) x r := by rw [applyH_append]; rfl

theorem frzR_fz (r : Row) : (frzR r).fz = true := by
  unfold frzR
  split
  · assumption
  · rfl
theorem frzR_v (r : Row) : (frzR r).v = r.v ∧ (frzR r).ty = r.ty ∧ (frzR r).cells = r.cells ∧ (frzR r).mp = r.mp ∧ ((frzR r).lst = false → frzR r = r) := by
  unfold frzR
  split
  · exact ⟨rfl, rfl, rfl, rfl, fun _ => rfl⟩
  · exact ⟨rfl, rfl, rfl, rfl, fun h => by cases h⟩
theorem applyH_frz (h : Nat → Option Row) (x : Nat) : ∀ (fr : List Nat) (g : Nat → Option Row), (∀ y, y ∉ fr → g y = h y ∨ g y = (h y).map frzR) →
    (x ∈ fr → applyH g (frz h fr) x = (h x).map frzR) ∧ (x ∉ fr → applyH g (frz h fr) x = g x) := by
  intro fr
  induction fr with
  | nil => intro g _; exact ⟨fun hx => by simp at hx, fun _ => rfl⟩
  | cons y fr ih =>
    intro g hg
    simp only [frz, List.map_cons, applyH]
    have hg' : ∀ z, z ∉ fr → (upd g y ((h y).map frzR)) z = h z ∨ (upd g y ((h y).map frzR)) z = (h z).map frzR := by
      intro z hz
      by_cases hzy : z = y
      · subst hzy; right; simp [upd]
      · simp only [upd, hzy, if_false]
        exact hg z (by simp [hzy, hz])
    obtain ⟨i1, i2⟩ := ih _ hg'
    refine ⟨fun hx => ?_, fun hx => ?_⟩
    · by_cases hxf : x ∈ fr
      · exact i1 hxf
      · have : x = y := by simpa [hxf] using hx
        subst this
        exact (i2 hxf).trans (by simp [upd])
    · simp only [List.mem_cons, not_or] at hx
      exact (i2 hx.2).trans (by simp [upd, hx.1])

theorem frz_at (h : Nat → Option Row) (fr : List Nat) (x : Nat) : applyH h (frz h fr) x = if x ∈ fr then (h x).map frzR else h x := by
  have := applyH_frz h x fr h (fun _ _ => .inl rfl)
  by_cases hx : x ∈ fr
  · simpa [hx] using this.1 hx
  · simpa [hx] using this.2 hx

/-- Some rows are frozen. -/
theorem Inv.freeze (hI : Inv N M L w0 blk V t h a w) (fr : List Nat) : Inv N M L w0 blk V t (applyH h (frz h fr)) a w := by
  have hf : ∀ x r', applyH h (frz h fr) x = some r' → ∃ r, h x = some r ∧ r'.v = r.v ∧ r'.ty = r.ty ∧ r'.cells = r.cells ∧ (r'.fz = false → r.fz = false) ∧ (r'.lst = false → r' = r) ∧ r'.mp = r.mp := by
    intro x r' hx
    rw [frz_at] at hx
    split at hx
    · cases hr : h x with
      | none => simp [hr] at hx
      | some r =>
        simp only [hr, Option.map_some, Option.some.injEq] at hx
        subst hx
        obtain ⟨k1, k2, k3, k4, k5⟩ := frzR_v r
        exact ⟨r, rfl, k1, k2, k3, (fun h => by rw [frzR_fz] at h; cases h), k5, k4⟩
    · exact ⟨r', hx, rfl, rfl, rfl, id, (fun _ => rfl), rfl⟩
  have ho : ∀ b, ¬ Own M h blk b → ¬ Own M (applyH h (frz h fr)) blk b := by
    intro b hb hb'
    rcases hb' with hb' | ⟨x, r', g, hx, hz, hg, rfl⟩
    · exact hb (.inl hb')
    · obtain ⟨r, h1, _, _, _, h5, _⟩ := hf x r' hx
      exact hb (.inr ⟨x, r, g, h1, h5 hz, hg, rfl⟩)
  exact {
    tab := hI.tab.keep fun b h1 h2 => ⟨h1, ho b h2, rfl⟩
    below := hI.below
    mlt := hI.mlt
    lent := hI.lent
    pin := fun go hg => ⟨(hI.pin go hg).1, fun r' hr hv => by
      obtain ⟨r, g1, g2, _⟩ := hf 0 r' hr
      exact (hI.pin go hg).2 r g1 (by omega)⟩
    defers := hI.defers
    tsz := hI.tsz
    slots := fun i => (hI.slots i).mono ⟨fun b h1 h2 => ⟨h1, ho b h2, rfl⟩, fun _ _ h => h, fun x v _ r' h1 h2 => by
      obtain ⟨r, g1, g2, _⟩ := hf x r' h1
      exact ⟨⟨r, g1, by omega⟩, rfl, fun _ _ => rfl⟩⟩
    rows := fun x r' hx => by
      obtain ⟨r, g1, g2, g3, g4, _, _, g7⟩ := hf x r' hx
      obtain ⟨h1, h2⟩ := hI.rows x r g1
      rw [g2]
      refine ⟨h1, ?_⟩
      cases hb : blk x with
      | none => rw [hb] at h2; exact g4.trans h2
      | some g =>
        rw [hb] at h2
        exact ⟨h2.1, h2.2.keep g4 g3 g7 rfl fun b k1 k2 => ⟨k1, ho b k2, rfl⟩⟩
    inj := fun x y r s g g' hx hy hg hg' he => by
      obtain ⟨r', g1, _⟩ := hf x r hx
      obtain ⟨s', g2, _⟩ := hf y s hy
      exact hI.inj x y r' s' g g' g1 g2 hg hg' he
    ali := fun y r' g hy hz hl hg j c d' hj hd' => by
      obtain ⟨r, g1, _, _, _, _, g6, _⟩ := hf y r' hy
      obtain rfl := g6 hl
      obtain ⟨u, h1, h2⟩ := hI.ali y r' g g1 hz hl hg j c d' hj hd'
      exact ⟨u, h1, h2.mono ⟨fun b h1 h2 => ⟨h1, ho b h2, rfl⟩, fun _ _ h => h, fun x v _ r' h1 h2 => by
        obtain ⟨r, g1, g2, _⟩ := hf x r' h1
        exact ⟨⟨r, g1, by omega⟩, rfl, fun _ _ => rfl⟩⟩⟩ }

def forget (h : Nat → Option Row) : Option Nat → Nat → Option Row
  | some y => upd h y none
  | none => h

/-- A new row, whose block another call has laid, or that takes the place of an own row; or that is nowhere. -/
theorem Inv.adoptG (hI : Inv N M L w0 blk V t h a w) {w' : World} {h1 : Nat → Option Row} {old : Option Nat} {d e : Nat} {r0 : Row} {go : Option (Nat × Nat)}
    (hos : w'.os = w.os) (htape : w'.tape = w.tape) (hout : w'.output = w.output) (hsize : w.heap.size ≤ w'.heap.size)
    (hblock : ∀ k, k < w.heap.size → (∀ y g, old = some y → blk y = some g → k ≠ g.1) → w'.heap[k]? = w.heap[k]?)
    (hold : ∀ y, old = some y → ∃ r, h y = some r ∧ r.fz = false) (hh1 : h1 = forget h old) (hV : ¬ V d e)
    (hnew : match go with
      | some g => (w.heap.size ≤ g.1 ∨ ∃ y g0, old = some y ∧ blk y = some g0 ∧ g.1 = g0.1) ∧ RowIs w' (fun b => Own M h1 blk b ∨ b = g.1) g r0
      | none => r0.cells = []) (hfz : r0.fz = false) (hve : r0.v = e) :
    Inv N M L w0 (upd blk d go) (fun x v => V x v ∨ (x = d ∧ v = e)) t (upd h1 d (some r0)) a w' := by
  have hf : ∀ x r, h1 x = some r → h x = some r ∧ ∀ y, old = some y → x ≠ y := by
    intro x r hx
    cases old with
    | none => subst hh1; exact ⟨hx, fun y hy => by cases hy⟩
    | some y =>
      subst hh1
      simp only [forget] at hx
      by_cases hxy : x = y
      · subst hxy; simp [upd] at hx
      · rw [upd_ne _ _ hxy] at hx
        exact ⟨hx, fun z hz => by cases hz; exact hxy⟩
  have hne : ∀ x r g, h1 x = some r → blk x = some g → ∀ y g0, old = some y → blk y = some g0 → g.1 ≠ g0.1 := by
    intro x r g hx hg y g0 hy hg0 he
    obtain ⟨s, hs, _⟩ := hold y hy
    exact (hf x r hx).2 y hy (hI.inj x y r s g g0 (hf x r hx).1 hs hg hg0 he)
  have hgn : ∀ x r g g2, h1 x = some r → blk x = some g → go = some g2 → g.1 ≠ g2.1 := by
    intro x r g g2 hx hg hg2 he
    subst hg2
    rcases hnew.1 with hn | ⟨y, g0, hy, hg0, hgy⟩
    · have := hI.lt (hf x r hx).1 hg; omega
    · exact hne x r g hx hg y g0 hy hg0 (he.trans hgy)
  have hkeep : ∀ b, b < w.heap.size → ¬ Own M h blk b → w'.heap[b]? = w.heap[b]? := by
    intro b hb hn
    refine hblock b hb fun y g hy hg he => ?_
    obtain ⟨s, hs, hz⟩ := hold y hy
    exact hn (.inr ⟨y, s, g, hs, hz, hg, he.symm⟩)
  have hown : ∀ b, b < w.heap.size → ¬ Own M h blk b → ¬ Own M (upd h1 d (some r0)) (upd blk d go) b := by
    intro b hb hn hb'
    rcases hb' with hb' | ⟨x, r, g, hx, hz, hg, he⟩
    · exact hn (.inl hb')
    · by_cases hxd : x = d
      · subst hxd
        rw [upd_same] at hg
        subst hg
        rcases hnew.1 with hn' | ⟨y, g0, hy, hg0, hgy⟩
        · omega
        · obtain ⟨s, hs, hz'⟩ := hold y hy
          exact hn (.inr ⟨y, s, g0, hs, hz', hg0, by rw [← hgy, he]⟩)
      · rw [upd_ne _ _ hxd] at hx hg
        exact hn (.inr ⟨x, r, g, (hf x r hx).1, hz, hg, he⟩)
  have hk : ∀ b, b < w.heap.size → ¬ Own M h blk b → b < w'.heap.size ∧ ¬ Own M (upd h1 d (some r0)) (upd blk d go) b ∧ w'.heap[b]? = w.heap[b]? :=
    fun b h1 h2 => ⟨by omega, hown b h1 h2, hkeep b h1 h2⟩
  have hrowsame : ∀ x r g, h1 x = some r → blk x = some g → w'.heap[g.1]? = w.heap[g.1]? := fun x r g hx hg => hblock _ (hI.lt (hf x r hx).1 hg) (fun y g0 hy hg0 => hne x r g hx hg y g0 hy hg0)
  exact {
    tab := hI.tab.keep hk
    below := hI.below.trans (L' := fun k => ∃ y g, old = some y ∧ blk y = some g ∧ k = g.1) ⟨hos, htape, hout, hsize, fun k hk' hn => hblock k hk' (fun y g hy hg he => hn ⟨y, g, hy, hg, he⟩)⟩ (fun k ⟨y, g, hy, hg, he⟩ hlt => by
      obtain ⟨s, hs, _⟩ := hold y hy
      rcases hI.base hs hg with hb | hb
      · omega
      · rw [he]; exact hb)
    mlt := hI.mlt
    lent := hI.lent
    pin := fun go' hg => ⟨.inl (hI.pin go' hg).1, fun r hr hv => by
      by_cases hxd : 0 = d
      · subst hxd
        rw [upd_same] at hr
        simp only [Option.some.injEq] at hr
        subst hr
        rw [hve] at hv
        subst hv
        exact absurd (hI.pin go' hg).1 hV
      · rw [upd_ne _ _ hxd] at hr
        rw [upd_ne _ _ hxd]
        obtain ⟨k1, k2⟩ := (hI.pin go' hg).2 r (hf 0 r hr).1 hv
        exact ⟨k1, fun g hgo => (shape_of_heap (hrowsame 0 r g hr (k1.trans hgo))).trans (k2 g hgo)⟩⟩
    defers := hI.defers
    tsz := hI.tsz
    slots := fun i => (hI.slots i).mono ⟨hk, fun _ _ h => .inl h, fun x v hv r' g1 g2 => by
      by_cases hxd : x = d
      · subst hxd
        rw [upd_same] at g1
        simp only [Option.some.injEq] at g1
        subst g1
        rw [hve] at g2
        subst g2
        exact absurd hv hV
      · rw [upd_ne _ _ hxd] at g1
        exact ⟨⟨r', (hf x r' g1).1, g2⟩, upd_ne _ _ hxd, fun g hg => shape_of_heap (hrowsame x r' g g1 hg)⟩⟩
    rows := fun x r hx => by
      by_cases hxd : x = d
      · subst hxd
        rw [upd_same] at hx
        simp only [Option.some.injEq] at hx
        subst hx
        rw [upd_same]
        refine ⟨.inr ⟨rfl, hve⟩, ?_⟩
        cases go with
        | none => exact hnew
        | some g =>
          obtain ⟨n1, n2⟩ := hnew
          refine ⟨?_, n2.keep rfl rfl rfl rfl fun b q1 q2 => ⟨q1, fun hb => q2 ?_, rfl⟩⟩
          rotate_left
          · rcases hb with hb | ⟨x', r, g', hx, hz, hg, he⟩
            · exact .inl (.inl hb)
            · by_cases hxd : x' = x
              · subst hxd
                rw [upd_same] at hg
                cases hg
                exact .inr he.symm
              · rw [upd_ne _ _ hxd] at hx hg
                exact .inl (.inr ⟨x', r, g', hx, hz, hg, he⟩)
          rcases n1 with hg | ⟨y, g0, hy, hg0, hgy⟩
          · exact .inl (Nat.le_trans hI.below.size hg)
          · obtain ⟨s, hs, _⟩ := hold y hy
            rw [hgy]; exact hI.base hs hg0
      · rw [upd_ne _ _ hxd] at hx
        rw [upd_ne _ _ hxd]
        exact ⟨.inl (hI.rows x r (hf x r hx).1).1, (hI.rows x r (hf x r hx).1).2.keep (fun g hg => hrowsame x r g hx hg) hk⟩
    inj := fun x y r s g g' hx hy hg hg' he => by
      by_cases hxd : x = d
      · by_cases hyd : y = d
        · rw [hxd, hyd]
        · subst hxd
          rw [upd_ne _ _ hyd] at hy hg'
          rw [upd_same] at hg
          exact absurd he.symm (hgn y s g' g hy hg' hg)
      · by_cases hyd : y = d
        · subst hyd
          rw [upd_ne _ _ hxd] at hx hg
          rw [upd_same] at hg'
          exact absurd he (hgn x r g g' hx hg hg')
        · rw [upd_ne _ _ hxd] at hx hg
          rw [upd_ne _ _ hyd] at hy hg'
          exact hI.inj x y r s g g' (hf x r hx).1 (hf y s hy).1 hg hg' he
    ali := fun y r g hy hz hl hg j c d' hj hd' => by
      by_cases hyd : y = d
      · subst hyd
        rw [upd_same] at hy
        simp only [Option.some.injEq] at hy
        subst hy
        rw [hfz] at hz
        cases hz
      · rw [upd_ne _ _ hyd] at hy hg
        obtain ⟨u, h1, h2⟩ := hI.ali y r g (hf y r hy).1 hz hl hg j c d' hj hd'
        exact ⟨u, (World.cell?_of_block (a := ⟨g.1, g.2 + j, none⟩) (hrowsame y r g hy hg)).trans h1, h2.mono ⟨hk, fun _ _ h => .inl h, fun x v hv r' g1 g2 => by
          by_cases hxd : x = d
          · subst hxd
            rw [upd_same] at g1
            simp only [Option.some.injEq] at g1
            subst g1
            rw [hve] at g2
            subst g2
            exact absurd hv hV
          · rw [upd_ne _ _ hxd] at g1
            exact ⟨⟨r', (hf x r' g1).1, g2⟩, upd_ne _ _ hxd, fun g hg => shape_of_heap (hrowsame x r' g g1 hg)⟩⟩⟩ }

theorem Inv.adoptN (hI : Inv N M L w0 blk V t h a w) {w' : World} {h1 : Nat → Option Row} {old : Option Nat} {d e ty : Nat} {lst fz : Bool} {go : Option (Nat × Nat)} {cs : List D}
    (hos : w'.os = w.os) (htape : w'.tape = w.tape) (hout : w'.output = w.output) (hsize : w.heap.size ≤ w'.heap.size)
    (hblock : ∀ k, k < w.heap.size → (∀ y g, old = some y → blk y = some g → k ≠ g.1) → w'.heap[k]? = w.heap[k]?)
    (hold : ∀ y, old = some y → ∃ r, h y = some r ∧ r.fz = false) (hh1 : h1 = forget h old) (hV : ¬ V d e)
    (hnew : match go with
      | some g => (w.heap.size ≤ g.1 ∨ ∃ y g0, old = some y ∧ blk y = some g0 ∧ g.1 = g0.1) ∧ ∃ vs : Array Value, w'.heap[g.1]? = some (.cells vs ty (0, 0)) ∧ g.2 + cs.length ≤ vs.size ∧ ∀ j x, cs[j]? = some x → plainC x = true ∧ RP w' (fun b => Own M h1 blk b ∨ b = g.1) x (vs.getD (g.2 + j) undef)
      | none => cs = []) (hfz : fz = false := by rfl) :
    Inv N M L w0 (upd blk d go) (fun x v => V x v ∨ (x = d ∧ v = e)) t (upd h1 d (some ⟨e, ty, cs, fz, lst, false⟩)) a w' := by
  refine hI.adoptG (r0 := ⟨e, ty, cs, fz, lst, false⟩) hos htape hout hsize hblock hold hh1 hV ?_ hfz rfl
  cases go with
  | none => exact hnew
  | some g => exact hnew

theorem Inv.adopt (hI : Inv N M L w0 blk V t h a w) {w' : World} {h1 : Nat → Option Row} {old : Option Nat} {d e ty : Nat} {lst fz : Bool} {go : Option (Nat × Nat)} {cs : List D}
    (hos : w'.os = w.os) (htape : w'.tape = w.tape) (hout : w'.output = w.output) (hsize : w.heap.size ≤ w'.heap.size)
    (hblock : ∀ k, k < w.heap.size → (∀ y g, old = some y → blk y = some g → k ≠ g.1) → w'.heap[k]? = w.heap[k]?)
    (hold : ∀ y, old = some y → ∃ r, h y = some r ∧ r.fz = false) (hh1 : h1 = forget h old) (hV : ¬ V d e)
    (hnew : match go with
      | some g => (w.heap.size ≤ g.1 ∨ ∃ y g0, old = some y ∧ blk y = some g0 ∧ g.1 = g0.1) ∧ ∃ vs : Array Value, w'.heap[g.1]? = some (.cells vs ty (0, 0)) ∧ g.2 + cs.length ≤ vs.size ∧ ∀ j x, cs[j]? = some x → plainC x = true ∧ RP w (Own M h blk) x (vs.getD (g.2 + j) undef)
      | none => cs = []) (hfz : fz = false := by rfl) :
    Inv N M L w0 (upd blk d go) (fun x v => V x v ∨ (x = d ∧ v = e)) t (upd h1 d (some ⟨e, ty, cs, fz, lst, false⟩)) a w' := by
  refine hI.adoptN hos htape hout hsize hblock hold hh1 hV ?_ hfz
  cases go with
  | none => exact hnew
  | some g =>
    obtain ⟨n1, vs, n2, n3, n4⟩ := hnew
    refine ⟨n1, vs, n2, n3, fun j x hj => ⟨(n4 j x hj).1, (n4 j x hj).2.keep fun b q1 q2 => ⟨by omega, ?_, ?_⟩⟩⟩
    · rintro (hb | rfl)
      · refine q2 ?_
        rcases hb with hb | ⟨x, r, g', hx, hz, hg', he⟩
        · exact .inl hb
        · refine .inr ⟨x, r, g', ?_, hz, hg', he⟩
          subst hh1
          cases old with
          | none => exact hx
          | some y =>
            simp only [forget] at hx
            by_cases hxy : x = y
            · subst hxy; simp [upd] at hx
            · rwa [upd_ne _ _ hxy] at hx
      · rcases n1 with n1 | ⟨y, g0, hy, hg0, he⟩
        · omega
        · obtain ⟨r, hr, hz⟩ := hold y hy
          exact q2 (.inr ⟨y, r, g0, hr, hz, hg0, he.symm⟩)
    · refine hblock b q1 fun y g0 hy hg0 he => ?_
      obtain ⟨r, hr, hz⟩ := hold y hy
      exact q2 (.inr ⟨y, r, g0, hr, hz, hg0, he.symm⟩)

/-- A new row. -/
theorem Inv.alloc (hI : Inv N M L w0 blk V t h a w) {d e ty : Nat} {lst : Bool} {cs : List D} {vs : Array Value} (hV : ¬ V d e) (hl : cs.length ≤ vs.size)
    (hc : ∀ j x, cs[j]? = some x → plainC x = true ∧ RP w (Own M h blk) x (vs.getD j undef)) :
    Inv N M L w0 (upd blk d (some (w.heap.size, 0))) (fun x v => V x v ∨ (x = d ∧ v = e)) t (upd h d (some ⟨e, ty, cs, false, lst, false⟩)) a (w.alloc (.cells vs ty)) := by
  have hold : ∀ b, b < w.heap.size → (w.alloc (.cells vs ty)).heap[b]? = w.heap[b]? := fun b hb => Below.heap_alloc w _ b hb
  have hb := (Below.refl w.heap.size w).alloc (Nat.le_refl _) (.cells vs ty)
  refine hI.adopt (h1 := h) (old := none) hb.os hb.tape hb.output hb.size (fun k hk _ => hold k hk) (fun y hy => by cases hy) rfl hV ?_
  exact ⟨.inl (Nat.le_refl _), vs, heap_alloc_new w _, by simpa using hl, fun j x hj => by simpa using hc j x hj⟩

/-- A row is forgotten. -/
theorem Inv.drop (hI : Inv N M L w0 blk V t h a w) (y : Nat) : Inv N M L w0 blk V t (upd h y none) a w := by
  have hf : ∀ x r, upd h y none x = some r → h x = some r := by
    intro x r hx
    by_cases hxy : x = y
    · subst hxy; rw [upd_same] at hx; cases hx
    · rwa [upd_ne _ _ hxy] at hx
  have ho : ∀ b, ¬ Own M h blk b → ¬ Own M (upd h y none) blk b := by
    intro b hb hb'
    rcases hb' with hb' | ⟨x, r, g, hx, hz, hg, he⟩
    · exact hb (.inl hb')
    · exact hb (.inr ⟨x, r, g, hf x r hx, hz, hg, he⟩)
  exact {
    tab := hI.tab.keep fun b h1 h2 => ⟨h1, ho b h2, rfl⟩
    below := hI.below
    mlt := hI.mlt
    lent := hI.lent
    pin := fun go hg => ⟨(hI.pin go hg).1, fun r hr hv => (hI.pin go hg).2 r (hf 0 r hr) hv⟩
    defers := hI.defers
    tsz := hI.tsz
    slots := fun i => (hI.slots i).mono ⟨fun b h1 h2 => ⟨h1, ho b h2, rfl⟩, fun _ _ h => h, fun x v _ r' h1 h2 => ⟨⟨r', hf x r' h1, h2⟩, rfl, fun _ _ => rfl⟩⟩
    rows := fun x r hx => ⟨(hI.rows x r (hf x r hx)).1, (hI.rows x r (hf x r hx)).2.keep (fun _ _ => rfl) (fun b k1 k2 => ⟨k1, ho b k2, rfl⟩)⟩
    inj := fun x y r s g g' hx hy hg hg' he => hI.inj x y r s g g' (hf x r hx) (hf y s hy) hg hg' he
    ali := fun z r g hy hz hl hg j c d' hj hd' => by
      obtain ⟨u, h1, h2⟩ := hI.ali z r g (hf z r hy) hz hl hg j c d' hj hd'
      exact ⟨u, h1, h2.mono ⟨fun b h1 h2 => ⟨h1, ho b h2, rfl⟩, fun _ _ h => h, fun x v _ r' h1 h2 => ⟨⟨r', hf x r' h1, h2⟩, rfl, fun _ _ => rfl⟩⟩⟩ }

/-- A row's cells are written: another world, in which no other block has changed. -/
theorem Inv.rewriteG (hI : Inv N M L w0 blk V t h a w) {x : Nat} {r : Row} (hx : h x = some r) (hz : r.fz = false) {r0 : Row} {w' : World} (hv0 : r0.v = r.v)
    (hos : w'.os = w.os) (htape : w'.tape = w.tape) (hout : w'.output = w.output) (hsize : w.heap.size ≤ w'.heap.size) (hheap : ∀ b, b < w.heap.size → (∀ g, blk x = some g → b ≠ g.1) → w'.heap[b]? = w.heap[b]?)
    (hnew : match blk x with
      | some g => w'.shape? g.1 = w.shape? g.1 ∧ RowIs w' (Own M h blk) g r0
      | none => r0.cells = [])
    (hal : r0.fz = true → r0.lst = false → ∀ g, blk x = some g → ∀ j c d, r0.cells[j]? = some c → alD c = some d → ∃ u, w'.cell? ⟨g.1, g.2 + j, none⟩ = some u ∧ RT w (Own M h blk) h blk V d u) :
    Inv N M L w0 blk V t (upd h x (some r0)) a w' := by
  have hf : ∀ y s, upd h x (some r0) y = some s → ∃ s', h y = some s' ∧ s.v = s'.v ∧ (s.fz = false → s'.fz = false) := by
    intro y s hy
    by_cases hyx : y = x
    · subst hyx
      rw [upd_same] at hy
      simp only [Option.some.injEq] at hy
      subst hy
      exact ⟨r, hx, hv0, fun _ => hz⟩
    · rw [upd_ne _ _ hyx] at hy
      exact ⟨s, hy, rfl, id⟩
  have ho : ∀ b, ¬ Own M h blk b → ¬ Own M (upd h x (some r0)) blk b := by
    intro b hb hb'
    rcases hb' with hb' | ⟨y, s, g', hy, hz', hg', he⟩
    · exact hb (.inl hb')
    · obtain ⟨s', h1, _, h3⟩ := hf y s hy
      exact hb (.inr ⟨y, s', g', h1, h3 hz', hg', he⟩)
  have hheap' : ∀ b, b < w.heap.size → ¬ Own M h blk b → w'.heap[b]? = w.heap[b]? := fun b h1 h2 => hheap b h1 (fun g hg e => h2 (.inr ⟨x, r, g, hx, hz, hg, e.symm⟩))
  have hk : ∀ b, b < w.heap.size → ¬ Own M h blk b → b < w'.heap.size ∧ ¬ Own M (upd h x (some r0)) blk b ∧ w'.heap[b]? = w.heap[b]? :=
    fun b h1 h2 => ⟨by omega, ho b h2, hheap' b h1 h2⟩
  have hother : ∀ y s g', y ≠ x → h y = some s → blk y = some g' → w'.heap[g'.1]? = w.heap[g'.1]? := fun y s g' hyx hy hg' => hheap _ (hI.lt hy hg') (fun g hg e => hyx (hI.inj y x s r g' g hy hx hg' hg e))
  have hsame : ∀ y s g', h y = some s → blk y = some g' → w'.shape? g'.1 = w.shape? g'.1 := by
    intro y s g' hy hg'
    by_cases hyx : y = x
    · subst hyx; rw [hg'] at hnew; exact hnew.1
    · exact shape_of_heap (hother y s g' hyx hy hg')
  exact {
    tab := hI.tab.keep hk
    below := hI.below.trans (L' := fun k => ∃ g, blk x = some g ∧ k = g.1) ⟨hos, htape, hout, hsize, fun k hk hn => hheap k hk (fun g hg e => hn ⟨g, hg, e⟩)⟩ (fun k ⟨g, hg, he⟩ hlt => by
      rcases hI.base hx hg with hb | hb
      · omega
      · rw [he]; exact hb)
    mlt := hI.mlt
    lent := hI.lent
    pin := fun go hg => ⟨(hI.pin go hg).1, fun s hs hv => by
      obtain ⟨s', g1, g2, _⟩ := hf 0 s hs
      obtain ⟨k1, k2⟩ := (hI.pin go hg).2 s' g1 (by omega)
      exact ⟨k1, fun g hgo => (hsame 0 s' g g1 (k1.trans hgo)).trans (k2 g hgo)⟩⟩
    defers := hI.defers
    tsz := hI.tsz
    slots := fun i => (hI.slots i).mono ⟨hk, fun _ _ h => h, fun y v _ s h1 h2 => by
      obtain ⟨s', g1, g2, _⟩ := hf y s h1
      exact ⟨⟨s', g1, by omega⟩, rfl, fun g' hg' => hsame y s' g' g1 hg'⟩⟩
    rows := fun y s hy => by
      by_cases hyx : y = x
      · subst hyx
        rw [upd_same] at hy
        simp only [Option.some.injEq] at hy
        subst hy
        refine ⟨by rw [hv0]; exact (hI.rows y r hx).1, ?_⟩
        cases hg : blk y with
        | none => rw [hg] at hnew; exact hnew
        | some g =>
          rw [hg] at hnew
          exact ⟨hI.base hx hg, hnew.2.keep rfl rfl rfl rfl fun b q1 q2 => ⟨q1, ho b q2, rfl⟩⟩
      · rw [upd_ne _ _ hyx] at hy
        exact ⟨(hI.rows y s hy).1, (hI.rows y s hy).2.keep (fun g' hg' => hother y s g' hyx hy hg') hk⟩
    inj := fun y z s s' g1 g2 hy hz' hg1 hg2 he => by
      obtain ⟨r1, k1, _⟩ := hf y s hy
      obtain ⟨r2, k2, _⟩ := hf z s' hz'
      exact hI.inj y z r1 r2 g1 g2 k1 k2 hg1 hg2 he
    ali := fun y r1 g hy hz1 hl hg j c d' hj hd' => by
      have hm : ∀ {u : Value}, RT w (Own M h blk) h blk V d' u → RT w' (Own M (upd h x (some r0)) blk) (upd h x (some r0)) blk V d' u := fun h2 => h2.mono ⟨hk, fun _ _ h => h, fun y v _ s h1 h2 => by
        obtain ⟨s', g1, g2, _⟩ := hf y s h1
        exact ⟨⟨s', g1, by omega⟩, rfl, fun g' hg' => hsame y s' g' g1 hg'⟩⟩
      by_cases hyx : y = x
      · subst hyx
        rw [upd_same] at hy
        simp only [Option.some.injEq] at hy
        subst hy
        obtain ⟨u, h1, h2⟩ := hal hz1 hl g hg j c d' hj hd'
        exact ⟨u, h1, hm h2⟩
      · rw [upd_ne _ _ hyx] at hy
        obtain ⟨u, h1, h2⟩ := hI.ali y r1 g hy hz1 hl hg j c d' hj hd'
        exact ⟨u, (World.cell?_of_block (a := ⟨g.1, g.2 + j, none⟩) (hother y r1 g hyx hy hg)).trans h1, hm h2⟩ }

theorem Inv.rewrite (hI : Inv N M L w0 blk V t h a w) {x : Nat} {r : Row} (hx : h x = some r) (hz : r.fz = false) {cs : List D} {lst fz : Bool} {w' : World}
    (hos : w'.os = w.os) (htape : w'.tape = w.tape) (hout : w'.output = w.output) (hsize : w.heap.size ≤ w'.heap.size) (hheap : ∀ b, b < w.heap.size → (∀ g, blk x = some g → b ≠ g.1) → w'.heap[b]? = w.heap[b]?)
    (hnew : match blk x with
      | some g => w'.shape? g.1 = w.shape? g.1 ∧ ∃ vs : Array Value, w'.heap[g.1]? = some (.cells vs r.ty (0, 0)) ∧ g.2 + cs.length ≤ vs.size ∧ ∀ j d, cs[j]? = some d → plainC d = true ∧ RP w' (Own M h blk) d (vs.getD (g.2 + j) undef)
      | none => cs = [])
    (hal : fz = true → lst = false → ∀ g, blk x = some g → ∀ j c d, cs[j]? = some c → alD c = some d → ∃ u, w'.cell? ⟨g.1, g.2 + j, none⟩ = some u ∧ RT w (Own M h blk) h blk V d u) :
    Inv N M L w0 blk V t (upd h x (some ⟨r.v, r.ty, cs, fz, lst, false⟩)) a w' := by
  refine hI.rewriteG (r0 := ⟨r.v, r.ty, cs, fz, lst, false⟩) hx hz rfl hos htape hout hsize hheap ?_ hal
  cases hg : blk x with
  | none => rw [hg] at hnew; exact hnew
  | some g => rw [hg] at hnew; exact hnew

theorem Inv.write (hI : Inv N M L w0 blk V t h a w) {x : Nat} {r : Row} {g : Nat × Nat} (hx : h x = some r) (hz : r.fz = false) (hg : blk x = some g) (hmp : r.mp = false) {cs : List D} {vs vs0 : Array Value} (h0 : w.heap[g.1]? = some (.cells vs0 r.ty (0, 0))) (hsz : vs.size = vs0.size)
    (hl : g.2 + cs.length ≤ vs.size) (hc : ∀ j d, cs[j]? = some d → plainC d = true ∧ RP w (Own M h blk) d (vs.getD (g.2 + j) undef)) :
    Inv N M L w0 blk V t (upd h x (some { r with cells := cs })) a (w.setRow g.1 vs) := by
  have hheap : ∀ b, b ≠ g.1 → (w.setRow g.1 vs).heap[b]? = w.heap[b]? := by
    intro b hb
    simp only [World.setRow, Array.getElem?_modify]
    rw [if_neg (Ne.symm hb)]
  have hsize : (w.setRow g.1 vs).heap.size = w.heap.size := by simp [World.setRow]
  have hnew : (w.setRow g.1 vs).heap[g.1]? = some (.cells vs r.ty (0, 0)) := setRow_heap w g.1 vs0 vs r.ty (0, 0) h0
  have e0 : ({ r with cells := cs } : Row) = ⟨r.v, r.ty, cs, r.fz, r.lst, false⟩ := by rw [← hmp]
  rw [e0]
  refine hI.rewrite (fz := r.fz) (lst := r.lst) hx hz rfl rfl rfl (by rw [hsize]; exact Nat.le_refl _) (fun b _ hb => hheap b (hb g hg)) ?_ (fun h => by rw [hz] at h; cases h)
  rw [hg]
  exact ⟨by simp [World.shape?, hnew, h0, hsz], vs, hnew, hl, fun j d hj => ⟨(hc j d hj).1, (hc j d hj).2.keep fun b q1 q2 => ⟨by rw [hsize]; exact q1, q2, hheap b (fun e => q2 (.inr ⟨x, r, g, hx, hz, hg, e.symm⟩))⟩⟩⟩
end
end Go.Proofs.YtdecgihkgpgejaaDoor.Am
