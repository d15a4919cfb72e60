/- The memory-free machine, part 2: what becomes of the relation when slots, rows and the world change. -/
import Derived.Test.YtcdckmfiknhiiaaVm
namespace Go.Proofs.Ytcdckmfiknhiiaa.Vm
open Go.RowKit

theorem upd_same {α : Type} (f : Nat → α) (i : Nat) (v : α) : upd f i v i = v := by simp [upd]
theorem upd_ne {α : Type} (f : Nat → α) {i j : Nat} (v : α) (h : j ≠ i) : upd f i v j = f j := by simp [upd, h]
theorem upd_comm {α : Type} (f : Nat → α) {i j : Nat} (v u : α) (h : i ≠ j) : upd (upd f i v) j u = upd (upd f j u) i v := by
  funext k
  unfold upd
  split <;> split <;> simp_all
theorem upd_upd {α : Type} (f : Nat → α) (i : Nat) (v u : α) : upd (upd f i v) i u = upd f i u := by
  funext k
  unfold upd
  split <;> simp_all

theorem RP.oneCell {w : World} {M : Nat → Prop} {d : D} {u : Value} (h : RP w M d u) (hp : plainC d = true) : u.oneCell' = true := by
  cases h <;> simp_all [plainC, Value.oneCell']
theorem RP.cells {w : World} {M : Nat → Prop} {d : D} {u : Value} (h : RP w M d u) (hp : plainC d = true) : u.cells = #[u] := by
  cases h <;> simp_all [plainC, Value.cells]

theorem RT_of_RP {w : World} {M : Nat → Prop} {h : Nat → Option Row} {blk : Nat → Nat} {V : Nat → Nat → Prop} {d : D} {u : Value} (hr : RP w M d u) : RT w M h blk V d u := by
  cases hr with
  | int k n => exact .int k n
  | bool b => exact .bool b
  | str s => exact .str s
  | sl A c nl tight n xs us h1 h2 h3 h4 h5 h6 h7 h8 => exact .sl A c nl tight n xs us h1 h2 h3 h4 h5 h6 h7 h8
  | agg xs us h1 h2 h3 => exact .agg xs us h1 h2 h3
  | tup xs us h1 h2 => exact .tup xs us h1 h2

theorem RT_ofV (w : World) (M : Nat → Prop) (h : Nat → Option Row) (blk : Nat → Nat) (V : Nat → Nat → Prop) (v : Value) : RT w M h blk V (ofV v) v := by
  unfold ofV
  split
  · exact .int _ _
  · exact .bool _
  · exact .str _
  · exact .sl none 0 true true 0 [] (fun _ => undef) (Nat.le_refl _) (Nat.zero_le _) (fun _ => ⟨rfl, rfl⟩) (fun h => by cases h) (fun _ => rfl) (fun h => absurd rfl h) (fun j x hx => by simp at hx) (fun x hx => by simp at hx)
  · trivial

/-- A relation of slots is handed on to a later world. -/
theorem RT.mono {w w' : World} {M M' : Nat → Prop} {h h' : Nat → Option Row} {blk blk' : Nat → Nat} {V V' : Nat → Nat → Prop}
    (hk : ∀ b, b < w.heap.size → ¬ M b → b < w'.heap.size ∧ ¬ M' b ∧ w'.heap[b]? = w.heap[b]?) (hV : ∀ x v, V x v → V' x v)
    (hrow : ∀ x v, V x v → ∀ r', h' x = some r' → r'.v = v → (∃ r, h x = some r ∧ r.v = v) ∧ blk' x = blk x ∧ w'.shape? (blk x) = w.shape? (blk x)) {d : D} {u : Value}
    (hr : RT w M h blk V d u) : RT w' M' h' blk' V' d u := by
  cases d with
  | ptr x v o =>
    refine ⟨hV _ _ hr.1, fun r' h1 h2 => ?_⟩
    obtain ⟨⟨r, h3, h4⟩, h5, _⟩ := hrow x v hr.1 r' h1 h2
    rw [h5]
    exact hr.2 r h3 h4
  | buf x v s o n =>
    refine ⟨hV _ _ hr.1, fun r' h1 h2 => ?_⟩
    obtain ⟨⟨r, h3, h4⟩, h5, h6⟩ := hrow x v hr.1 r' h1 h2
    obtain ⟨o', c, N, t, g1, g2, g3, g4, g5, g6⟩ := hr.2 r h3 h4
    rw [h5]
    exact ⟨o', c, N, t, g1, g2, g3, g4, h6.trans g5, g6⟩
  | ip xs =>
    obtain ⟨ad, h1, h2⟩ := hr
    refine ⟨ad, h1, fun hne => ?_⟩
    obtain ⟨b, o, g0, g1, g2, g3⟩ := h2 hne
    obtain ⟨k1, k2, k3⟩ := hk b g1 g2
    refine ⟨b, o, g0, k1, k2, fun j x hx => ?_⟩
    obtain ⟨p1, v, p2, p3⟩ := g3 j x hx
    exact ⟨p1, v, (World.cell?_of_block (a := ⟨b, o + j, none⟩) k3).trans p2, p3.keep hk⟩
  | fn f => exact hr
  | und => trivial
  | int k n => exact RP.keep hk hr
  | bool b => exact RP.keep hk hr
  | str s => exact RP.keep hk hr
  | sl a b n xs => exact RP.keep hk hr
  | agg xs => exact RP.keep hk hr
  | tup xs => exact RP.keep hk hr

theorem shape_of_heap {w w' : World} {b : Nat} (h : w'.heap[b]? = w.heap[b]?) : w'.shape? b = w.shape? b := by simp [World.shape?, h]

section
variable {N : Nat} {M : Nat → Prop} {w0 : World} {blk : Nat → Nat} {V : Nat → Nat → Prop} {t : Nat → D} {h : Nat → Option Row} {a : Act} {w : World}

theorem Inv.ev (hI : Inv N M w0 blk V t h a w) (x : Operand) : RT w (Own M h blk) h blk V (ev t x) (a.eval x) := by
  cases x with
  | tmp i => exact hI.slots i
  | const v => exact RT_ofV _ _ _ _ _ v
  | global g => trivial
  | func f => rfl

theorem Inv.lt (hI : Inv N M w0 blk V t h a w) {x : Nat} {r : Row} (hx : h x = some r) : blk x < w.heap.size := by
  obtain ⟨_, _, cs, hc, _⟩ := hI.rows x r hx
  exact (Array.getElem?_eq_some_iff.1 hc).1

theorem Inv.own_lt (hI : Inv N M w0 blk V t h a w) {b : Nat} (hb : Own M h blk b) : b < w.heap.size := by
  rcases hb with hb | ⟨x, r, hx, _, rfl⟩
  · exact Nat.lt_of_lt_of_le (hI.mlt b hb) hI.below.size
  · exact hI.lt hx

theorem getD_set (tm : Array Value) (d i : Nat) (v : Value) (hd : d < tm.size) : (tm.setIfInBounds d v).getD i undef = if i = d then v else tm.getD i undef := by
  simp only [Array.getD_eq_getD_getElem?]
  by_cases h : i = d
  · subst h; simp [hd]
  · rw [Array.getElem?_setIfInBounds_ne (Ne.symm h)]; simp [h]

/-- A slot is written. -/
theorem Inv.put (hI : Inv N M w0 blk V t h a w) {d : Nat} (hd : d < N) {x : D} {v : Value} (hx : RT w (Own M h blk) h blk V x v) : Inv N M w0 blk V (upd t d x) h (a.put (some d) v) w where
  below := hI.below
  mlt := hI.mlt
  defers := hI.defers
  tsz := by simp [Act.put, hI.tsz]
  slots i := by
    simp only [Act.put]
    rw [getD_set _ _ _ _ (by rw [hI.tsz]; exact hd)]
    by_cases hi : i = d
    · subst hi; simpa [upd] using hx
    · simpa [upd, hi] using hI.slots i
  rows := hI.rows
  inj := hI.inj

theorem Inv.weaken (hI : Inv N M w0 blk V t h a w) {V' : Nat → Nat → Prop} (hV : ∀ x v, V x v → V' x v) : Inv N M w0 blk V' t h a w where
  below := hI.below
  mlt := hI.mlt
  defers := hI.defers
  tsz := hI.tsz
  slots i := (hI.slots i).mono (fun _ h1 h2 => ⟨h1, h2, rfl⟩) hV (fun _ _ _ r' h1 h2 => ⟨⟨r', h1, h2⟩, rfl, rfl⟩)
  rows x r hx := ⟨hV _ _ (hI.rows x r hx).1, (hI.rows x r hx).2⟩
  inj := hI.inj

/-- A later world in which the callers' and the own blocks are as they were. -/
theorem Inv.later (hI : Inv N M w0 blk V t h a w) {w' : World} (hb : Below w.heap.size w w') : Inv N M w0 blk V t h a w' where
  below := hI.below.trans (hb.mono hI.below.size)
  mlt := hI.mlt
  defers := hI.defers
  tsz := hI.tsz
  slots i := (hI.slots i).mono (fun b h1 h2 => ⟨Nat.lt_of_lt_of_le h1 hb.size, h2, hb.block b h1⟩) (fun _ _ h => h)
    (fun x v _ r' h1 h2 => ⟨⟨r', h1, h2⟩, rfl, shape_of_heap (hb.block _ (hI.lt h1))⟩)
  rows x r hx := by
    obtain ⟨h1, h2, cs, h3, h4, h5⟩ := hI.rows x r hx
    refine ⟨h1, h2, cs, (hb.block _ (hI.lt hx)).trans h3, h4, fun j d hj => ⟨(h5 j d hj).1, (h5 j d hj).2.keep fun b k1 k2 => ⟨Nat.lt_of_lt_of_le k1 hb.size, k2, hb.block b k1⟩⟩⟩
  inj := hI.inj

theorem Inv.drew (hI : Inv N M w0 blk V t h a w) : Inv N M w0 blk V t h a w.drew := hI.later ((Below.refl _ _).drew)

theorem applyH_append (l l' : List (Nat × Option Row)) : ∀ h : Nat → Option Row, applyH h (l ++ l') = applyH (applyH h l) l' := by
  induction l with
  | nil => intro h; rfl
  | cons p l ih => intro h; obtain ⟨x, r⟩ := p; exact ih _
theorem applyH_one (h : Nat → Option Row) (l : List (Nat × Option Row)) (x : Nat) (r : Option Row) : applyH h (l ++ [(x, r)]) = upd (applyH h l) x r := by rw [applyH_append]; rfl

theorem applyH_frz (h : Nat → Option Row) (x : Nat) : ∀ (fr : List Nat) (g : Nat → Option Row), (∀ y, y ∉ fr → g y = h y ∨ g y = (h y).map fun r => { r with fz := true }) →
    (x ∈ fr → applyH g (frz h fr) x = (h x).map fun r => { r with fz := true }) ∧ (x ∉ fr → applyH g (frz h fr) x = g x) := by
  intro fr
  induction fr with
  | nil => intro g _; exact ⟨fun hx => by simp at hx, fun _ => rfl⟩
  | cons y fr ih =>
    intro g hg
    simp only [frz, List.map_cons, applyH]
    have hg' : ∀ z, z ∉ fr → (upd g y ((h y).map fun r => { r with fz := true })) z = h z ∨ (upd g y ((h y).map fun r => { r with fz := true })) z = (h z).map fun r => { r with fz := true } := by
      intro z hz
      by_cases hzy : z = y
      · subst hzy; right; simp [upd]
      · simp only [upd, hzy, if_false]
        exact hg z (by simp [hzy, hz])
    obtain ⟨i1, i2⟩ := ih _ hg'
    refine ⟨fun hx => ?_, fun hx => ?_⟩
    · by_cases hxf : x ∈ fr
      · exact i1 hxf
      · have : x = y := by simpa [hxf] using hx
        subst this
        exact (i2 hxf).trans (by simp [upd])
    · simp only [List.mem_cons, not_or] at hx
      exact (i2 hx.2).trans (by simp [upd, hx.1])

theorem frz_at (h : Nat → Option Row) (fr : List Nat) (x : Nat) : applyH h (frz h fr) x = if x ∈ fr then (h x).map (fun r => { r with fz := true }) else h x := by
  have := applyH_frz h x fr h (fun _ _ => .inl rfl)
  by_cases hx : x ∈ fr
  · simpa [hx] using this.1 hx
  · simpa [hx] using this.2 hx

/-- Some rows are frozen. -/
theorem Inv.freeze (hI : Inv N M w0 blk V t h a w) (fr : List Nat) : Inv N M w0 blk V t (applyH h (frz h fr)) a w := by
  have hf : ∀ x r', applyH h (frz h fr) x = some r' → ∃ r, h x = some r ∧ r'.v = r.v ∧ r'.ty = r.ty ∧ r'.cells = r.cells ∧ (r'.fz = false → r.fz = false) := by
    intro x r' hx
    rw [frz_at] at hx
    split at hx
    · cases hr : h x with
      | none => simp [hr] at hx
      | some r =>
        simp only [hr, Option.map_some, Option.some.injEq] at hx
        subst hx
        exact ⟨r, rfl, rfl, rfl, rfl, fun h => by cases h⟩
    · exact ⟨r', hx, rfl, rfl, rfl, id⟩
  have ho : ∀ b, ¬ Own M h blk b → ¬ Own M (applyH h (frz h fr)) blk b := by
    intro b hb hb'
    rcases hb' with hb' | ⟨x, r', hx, hz, rfl⟩
    · exact hb (.inl hb')
    · obtain ⟨r, h1, _, _, _, h5⟩ := hf x r' hx
      exact hb (.inr ⟨x, r, h1, h5 hz, rfl⟩)
  exact {
    below := hI.below
    mlt := hI.mlt
    defers := hI.defers
    tsz := hI.tsz
    slots := fun i => (hI.slots i).mono (fun b h1 h2 => ⟨h1, ho b h2, rfl⟩) (fun _ _ h => h) (fun x v _ r' h1 h2 => by
      obtain ⟨r, g1, g2, _⟩ := hf x r' h1
      exact ⟨⟨r, g1, by omega⟩, rfl, rfl⟩)
    rows := fun x r' hx => by
      obtain ⟨r, g1, g2, g3, g4, _⟩ := hf x r' hx
      obtain ⟨h1, h2, cs, h3, h4, h5⟩ := hI.rows x r g1
      rw [g2]
      refine ⟨h1, h2, cs, by rw [g3]; exact h3, by rw [g4]; exact h4, fun j d hj => ?_⟩
      rw [g4] at hj
      exact ⟨(h5 j d hj).1, (h5 j d hj).2.keep fun b k1 k2 => ⟨k1, ho b k2, rfl⟩⟩
    inj := fun x y r s hx hy he => by
      obtain ⟨r', g1, _⟩ := hf x r hx
      obtain ⟨s', g2, _⟩ := hf y s hy
      exact hI.inj x y r' s' g1 g2 he }

/-- A new row. -/
theorem Inv.alloc (hI : Inv N M w0 blk V t h a w) {d e ty : Nat} {cs : List D} {vs : Array Value} (hV : ¬ V d e) (hl : cs.length ≤ vs.size)
    (hc : ∀ j x, cs[j]? = some x → plainC x = true ∧ RP w (Own M h blk) x (vs.getD j undef)) :
    Inv N M w0 (upd blk d w.heap.size) (fun x v => V x v ∨ (x = d ∧ v = e)) t (upd h d (some ⟨e, ty, cs, false⟩)) a (w.alloc (.cells vs ty)) := by
  have hold : ∀ b, b < w.heap.size → (w.alloc (.cells vs ty)).heap[b]? = w.heap[b]? := fun b hb => Below.heap_alloc w _ b hb
  have hown : ∀ b, b < w.heap.size → ¬ Own M h blk b → ¬ Own M (upd h d (some ⟨e, ty, cs, false⟩)) (upd blk d w.heap.size) b := by
    intro b hb hn hb'
    rcases hb' with hb' | ⟨x, r, hx, hz, he⟩
    · exact hn (.inl hb')
    · by_cases hxd : x = d
      · subst hxd; rw [upd_same] at he; omega
      · rw [upd_ne _ _ hxd] at hx he
        exact hn (.inr ⟨x, r, hx, hz, he⟩)
  have hk : ∀ b, b < w.heap.size → ¬ Own M h blk b → b < (w.alloc (.cells vs ty)).heap.size ∧ ¬ Own M (upd h d (some ⟨e, ty, cs, false⟩)) (upd blk d w.heap.size) b ∧ (w.alloc (.cells vs ty)).heap[b]? = w.heap[b]? :=
    fun b h1 h2 => ⟨by simp; omega, hown b h1 h2, hold b h1⟩
  exact {
    below := hI.below.alloc hI.below.size _
    mlt := hI.mlt
    defers := hI.defers
    tsz := hI.tsz
    slots := fun i => (hI.slots i).mono hk (fun _ _ h => .inl h) (fun x v hv r' h1 h2 => by
      by_cases hxd : x = d
      · subst hxd
        rw [upd_same] at h1
        simp only [Option.some.injEq] at h1
        subst h1
        simp only at h2
        subst h2
        exact absurd hv hV
      · rw [upd_ne _ _ hxd] at h1
        exact ⟨⟨r', h1, h2⟩, upd_ne _ _ hxd, shape_of_heap (hold _ (hI.lt h1))⟩)
    rows := fun x r hx => by
      by_cases hxd : x = d
      · subst hxd
        rw [upd_same] at hx
        simp only [Option.some.injEq] at hx
        subst hx
        rw [upd_same]
        exact ⟨.inr ⟨rfl, rfl⟩, hI.below.size, vs, heap_alloc_new w _, hl, fun j x hj => ⟨(hc j x hj).1, (hc j x hj).2.keep hk⟩⟩
      · rw [upd_ne _ _ hxd] at hx
        rw [upd_ne _ _ hxd]
        obtain ⟨h1, h2, cs', h3, h4, h5⟩ := hI.rows x r hx
        exact ⟨.inl h1, h2, cs', (hold _ (hI.lt hx)).trans h3, h4, fun j x hj => ⟨(h5 j x hj).1, (h5 j x hj).2.keep hk⟩⟩
    inj := fun x y r s hx hy he => by
      by_cases hxd : x = d
      · by_cases hyd : y = d
        · rw [hxd, hyd]
        · subst hxd
          rw [upd_ne _ _ hyd] at hy he
          rw [upd_same] at he
          have := hI.lt hy
          omega
      · by_cases hyd : y = d
        · subst hyd
          rw [upd_ne _ _ hxd] at hx he
          rw [upd_same] at he
          have := hI.lt hx
          omega
        · rw [upd_ne _ _ hxd] at hx he
          rw [upd_ne _ _ hyd] at hy he
          exact hI.inj x y r s hx hy he }

/-- A row is forgotten. -/
theorem Inv.drop (hI : Inv N M w0 blk V t h a w) (y : Nat) : Inv N M w0 blk V t (upd h y none) a w := by
  have hf : ∀ x r, upd h y none x = some r → h x = some r := by
    intro x r hx
    by_cases hxy : x = y
    · subst hxy; rw [upd_same] at hx; cases hx
    · rwa [upd_ne _ _ hxy] at hx
  have ho : ∀ b, ¬ Own M h blk b → ¬ Own M (upd h y none) blk b := by
    intro b hb hb'
    rcases hb' with hb' | ⟨x, r, hx, hz, he⟩
    · exact hb (.inl hb')
    · exact hb (.inr ⟨x, r, hf x r hx, hz, he⟩)
  exact {
    below := hI.below
    mlt := hI.mlt
    defers := hI.defers
    tsz := hI.tsz
    slots := fun i => (hI.slots i).mono (fun b h1 h2 => ⟨h1, ho b h2, rfl⟩) (fun _ _ h => h) (fun x v _ r' h1 h2 => ⟨⟨r', hf x r' h1, h2⟩, rfl, rfl⟩)
    rows := fun x r hx => by
      obtain ⟨h1, h2, cs, h3, h4, h5⟩ := hI.rows x r (hf x r hx)
      exact ⟨h1, h2, cs, h3, h4, fun j d hj => ⟨(h5 j d hj).1, (h5 j d hj).2.keep fun b k1 k2 => ⟨k1, ho b k2, rfl⟩⟩⟩
    inj := fun x y r s hx hy he => hI.inj x y r s (hf x r hx) (hf y s hy) he }

/-- A row's cells are written. -/
theorem Inv.write (hI : Inv N M w0 blk V t h a w) {x : Nat} {r : Row} (hx : h x = some r) (hz : r.fz = false) {cs : List D} {vs vs0 : Array Value} (h0 : w.heap[blk x]? = some (.cells vs0 r.ty (0, 0))) (hsz : vs.size = vs0.size)
    (hl : cs.length ≤ vs.size) (hc : ∀ j d, cs[j]? = some d → plainC d = true ∧ RP w (Own M h blk) d (vs.getD j undef)) :
    Inv N M w0 blk V t (upd h x (some { r with cells := cs })) a (w.setRow (blk x) vs) := by
  have hheap : ∀ b, b ≠ blk x → (w.setRow (blk x) vs).heap[b]? = w.heap[b]? := by
    intro b hb
    simp only [World.setRow, Array.getElem?_modify]
    rw [if_neg (Ne.symm hb)]
  have hsize : (w.setRow (blk x) vs).heap.size = w.heap.size := by simp [World.setRow]
  have hnew : (w.setRow (blk x) vs).heap[blk x]? = some (.cells vs r.ty (0, 0)) := setRow_heap w (blk x) vs0 vs r.ty (0, 0) h0
  have hshape : ∀ b, (w.setRow (blk x) vs).shape? b = w.shape? b := by
    intro b
    by_cases hb : b = blk x
    · subst hb; simp [World.shape?, hnew, h0, hsz]
    · exact shape_of_heap (hheap b hb)
  have hf : ∀ y s, upd h x (some { r with cells := cs }) y = some s → ∃ s', h y = some s' ∧ s.v = s'.v ∧ s.fz = s'.fz := by
    intro y s hy
    by_cases hyx : y = x
    · subst hyx
      rw [upd_same] at hy
      simp only [Option.some.injEq] at hy
      subst hy
      exact ⟨r, hx, rfl, rfl⟩
    · rw [upd_ne _ _ hyx] at hy
      exact ⟨s, hy, rfl, rfl⟩
  have ho : ∀ b, ¬ Own M h blk b → ¬ Own M (upd h x (some { r with cells := cs })) blk b := by
    intro b hb hb'
    rcases hb' with hb' | ⟨y, s, hy, hz', he⟩
    · exact hb (.inl hb')
    · obtain ⟨s', h1, _, h3⟩ := hf y s hy
      exact hb (.inr ⟨y, s', h1, by rw [← h3]; exact hz', he⟩)
  have hxo : Own M h blk (blk x) := .inr ⟨x, r, hx, hz, rfl⟩
  have hk : ∀ b, b < w.heap.size → ¬ Own M h blk b → b < (w.setRow (blk x) vs).heap.size ∧ ¬ Own M (upd h x (some { r with cells := cs })) blk b ∧ (w.setRow (blk x) vs).heap[b]? = w.heap[b]? :=
    fun b h1 h2 => ⟨by rw [hsize]; exact h1, ho b h2, hheap b (fun e => by rw [e] at h2; exact h2 hxo)⟩
  have hbase : w0.heap.size ≤ blk x := (hI.rows x r hx).2.base
  exact {
    below := hI.below.trans ⟨rfl, rfl, rfl, by rw [hsize]; exact Nat.le_refl _, fun k hk => hheap k (by omega)⟩
    mlt := hI.mlt
    defers := hI.defers
    tsz := hI.tsz
    slots := fun i => (hI.slots i).mono hk (fun _ _ h => h) (fun y v _ s h1 h2 => by
      obtain ⟨s', g1, g2, _⟩ := hf y s h1
      exact ⟨⟨s', g1, by omega⟩, rfl, hshape _⟩)
    rows := fun y s hy => by
      by_cases hyx : y = x
      · subst hyx
        rw [upd_same] at hy
        simp only [Option.some.injEq] at hy
        subst hy
        obtain ⟨h1, _⟩ := hI.rows y r hx
        exact ⟨h1, hbase, vs, hnew, hl, fun j d hj => ⟨(hc j d hj).1, (hc j d hj).2.keep hk⟩⟩
      · rw [upd_ne _ _ hyx] at hy
        obtain ⟨h1, h2, cs', h3, h4, h5⟩ := hI.rows y s hy
        refine ⟨h1, h2, cs', (hheap _ (fun e => hyx (hI.inj y x s r hy hx e))).trans h3, h4, fun j d hj => ⟨(h5 j d hj).1, (h5 j d hj).2.keep hk⟩⟩
    inj := fun y z s s' hy hz' he => by
      obtain ⟨r1, g1, _⟩ := hf y s hy
      obtain ⟨r2, g2, _⟩ := hf z s' hz'
      exact hI.inj y z r1 r2 g1 g2 he }
end
end Go.Proofs.Ytcdckmfiknhiiaa.Vm
