/- The memory-free machine, part 3: each operation does what its effect says. -/
import Derived.Test.YtdecgihkgpgejaaDoorAn
namespace Go.Proofs.YtdecgihkgpgejaaDoor.Am
open Go.RowKit
set_option linter.unusedSimpArgs false
set_option linter.unusedVariables false

structure ArgsR (w : World) (M : Nat → Prop) (args : List D) (vs : Array Value) : Prop where
  size : vs.size = args.length
  at_ : ∀ j d, args[j]? = some d → RP w M d (vs.getD j undef)
  tab : TabR w M

/-- What a call leaves, as a value: data · a slice of its own that begins a row of its own. -/
def GivesK (w w' : World) (M : Nat → Prop) (old : Nat → Prop) (v : Value) : RK → Prop
  | .clean d => RP w' M d v
  | .fresh ty s n cells =>
    (∃ (g : Nat × Nat) (c : Nat) (cs : Array Value), v = .slice (some ⟨g.1, g.2, none⟩) n c ∧ (w.heap.size ≤ g.1 ∨ old g.1) ∧ w'.heap[g.1]? = some (.cells cs ty (0, 0)) ∧ n ≤ c ∧ c ≤ maxLen ∧ c * s + g.2 = cs.size ∧ g.2 + cells.length ≤ cs.size ∧
      ∀ (j : Nat) d, cells[j]? = some d → plainC d = true ∧ RP w' (fun b => M b ∨ b = g.1) d (cs.getD (g.2 + j) undef)) ∨ (n = 0 ∧ cells = [] ∧ ∃ A, v = .slice A 0 0)
  | .same _ _ _ => False

/-- The block of a lent row. -/
def In0 (go : Option (Nat × Nat)) (b : Nat) : Prop := ∃ g, go = some g ∧ b = g.1

def RowIn (w : World) (M : Nat → Prop) (go : Option (Nat × Nat)) (r : Row) : Prop :=
  match go with
  | some g => Lies w M g r
  | none => r.cells = []

/-- The value of a lent argument: row 0 is at go. -/
def LentV (w : World) (go : Option (Nat × Nat)) (d : D) (u : Value) : Prop := RT w (fun _ => False) (fun x => if x = 0 then some ⟨0, 0, [], false, false, false⟩ else none) (fun _ => go) (fun _ _ => True) d u

/-- What becomes of the lent row. -/
def OutOk (w w' : World) (M : Nat → Prop) (go : Option (Nat × Nat)) (r : Row) : Option Row → Prop
  | some r1 => r1.ty = r.ty ∧ r1.fz = false ∧ r1.mp = false ∧ (∀ g, go = some g → w'.shape? g.1 = w.shape? g.1) ∧ RowIn w' (fun b => M b ∨ In0 go b) go r1
  | none => True

/-- What the result of a call is that was lent a row. -/
def ResOk (w w' : World) (M : Nat → Prop) (go : Option (Nat × Nat)) (v : Value) : RK → Prop
  | .same s o n => LentV w' go (.buf 0 0 s o n) v
  | .clean d => RP w' (fun b => M b ∨ In0 go b) d v
  | .fresh ty s n cells => GivesK w w' M (In0 go) v (.fresh ty s n cells)

/-- What a call with these arguments does. -/
def CallsR (P : Program) (f : FuncId) (lent : Option (D × Row)) (args : List D) (rk : RK) (out : Option Row) : Prop :=
  match lent with
  | none => ∀ (w : World) (M : Nat → Prop) (vs : Array Value), (∀ b, M b → b < w.heap.size) → ArgsR w M args vs → Calls P f vs w fun e w' => ∃ v, e = .returned v ∧ Below w.heap.size w w' ∧ GivesK w w' M (fun _ => False) v rk
  | some (d0, r) => ∀ (w : World) (M : Nat → Prop) (go : Option (Nat × Nat)) (u0 : Value) (vs : Array Value), (∀ b, M b → b < w.heap.size) → (∀ b, In0 go b → ¬ M b) → r.fz = false → r.mp = false → RowIn w (fun b => M b ∨ In0 go b) go r → LentV w go d0 u0 → ArgsR w (fun b => M b ∨ In0 go b) args vs →
    Calls P f (#[u0] ++ vs) w fun e w' => ∃ v, e = .returned v ∧ Beyond (In0 go) w w' ∧ OutOk w w' M go r out ∧ ResOk w w' M go v rk

def CallsV (P : Program) (f : FuncId) (args : List D) (r : D) : Prop := CallsR P f none args (.clean r) none

def Callable (P : Program) (f : FuncId) : Prop := ∃ fn, P.funcs[f]? = some fn ∧ (fn.name == "runtime.NumGoroutine") = false ∧ fn.body.isNone = false

/-- Where an own slice of n elements (cells cs) is: in a block of its own, from g on; or nowhere, being empty. -/
def SlIn (w : World) (ty k : Nat) (go : Option (Nat × Nat)) (u : Value) (n : Nat) (cs : List Value) : Prop :=
  (∃ g c arr, go = some g ∧ u = .slice (some ⟨g.1, g.2, none⟩) n c ∧ w.heap[g.1]? = some (.cells arr ty (0, 0)) ∧ c * k + g.2 = arr.size ∧ n ≤ c ∧ c ≤ maxLen ∧ ∀ (j : Nat) x, cs[j]? = some x → arr[g.2 + j]? = some x) ∨ (go = none ∧ n = 0 ∧ cs = [] ∧ ∃ A, u = .slice A 0 0)

/-- What the library's insertion does. p: the elements' type, their cells, their bytes. -/
structure InsC (P : Program) (f : FuncId) (p : Nat × Nat × Nat) : Prop where
  callable : Callable P f
  pos : 0 < p.2.1
  calls : ∀ (w : World) (go go' : Option (Nat × Nat)) (u u' : Value) (i n m : Nat) (cs cs' : List Value), SlIn w p.1 p.2.1 go u n cs → SlIn w p.1 p.2.1 go' u' m cs' → (∀ g g', go = some g → go' = some g' → g.1 ≠ g'.1) →
    cs.length = n * p.2.1 → cs'.length = m * p.2.1 → (∀ x ∈ cs, x.oneCell' = true) → (∀ x ∈ cs', x.oneCell' = true) → i ≤ n → 0 < m → (n + m) * p.2.2 ≤ 140737488355328 →
    Calls P f #[u, .int .i64 i, u'] w fun e w' => ∃ v, e = .returned v ∧ Beyond (In0 go) w w' ∧
      ∃ (g : Nat × Nat) (c : Nat) (arr : Array Value), v = .slice (some ⟨g.1, g.2, none⟩) (n + m) c ∧ (w.heap.size ≤ g.1 ∨ In0 go g.1) ∧ w'.heap[g.1]? = some (.cells arr p.1 (0, 0)) ∧ n + m ≤ c ∧ c ≤ maxLen ∧ c * p.2.1 + g.2 = arr.size ∧
        ∀ (j : Nat) x, (cs.take (i * p.2.1) ++ (cs' ++ cs.drop (i * p.2.1)))[j]? = some x → arr[g.2 + j]? = some x

structure GOk (P : Program) (Γ : Env) : Prop where
  calls : ∀ f lent args rk out, Γ.sem f lent args = some (rk, out) → CallsR P f lent args rk out ∧ Callable P f
  ins : ∀ f p, Γ.ins f = some p → InsC P f p

theorem TyOk.get {P : Program} {t : Nat} {τ : Ty} (h : TyOk P t τ) : ∃ d i z, P.underlying t = some d ∧ conv d = τ.ds ∧ P.info? t = some i ∧ i.size = τ.size ∧ i.bytes = τ.bytes ∧ i.zero = some z ∧ z.cells = τ.zero.toArray := by
  have h1 := h.desc
  have h2 := h.info
  cases hd : P.underlying t with
  | none => simp [hd] at h1
  | some d =>
    cases hi : P.info? t with
    | none => simp [hi] at h2
    | some i =>
      simp only [hd, Option.map_some, Option.some.injEq] at h1
      simp only [hi, Option.map_some, Option.some.injEq, Prod.mk.injEq] at h2
      cases hz : i.zero with
      | none => simp [hz] at h2
      | some z =>
        simp only [hz, Option.map_some, Option.some.injEq] at h2
        exact ⟨d, i, z, rfl, h1, rfl, h2.1, h2.2.1, hz, by rw [← h2.2.2]⟩

def Does (P : Program) (o : Oper) (a : Act) (w : World) (Φ : Value → World → Prop) : Prop :=
  (∃ v w', (execOp a.eval o).run P w = .ok (.value v) w' ∧ Φ v w') ∨ (∃ w', (execOp a.eval o).run P w = .ok .skip w' ∧ Φ undef w') ∨
  (∃ f args, (execOp a.eval o).run P w = .ok (.enter f args) w ∧ Calls P f args w (fun e w' => ∃ v, e = .returned v ∧ Φ v w'))

theorem Does.mono {P : Program} {o : Oper} {a : Act} {w : World} {Φ Ψ : Value → World → Prop} (h : Does P o a w Φ) (hm : ∀ v w', Φ v w' → Ψ v w') : Does P o a w Ψ := by
  rcases h with ⟨v, w', h1, h2⟩ | ⟨w', h1, h2⟩ | ⟨f, args, h1, h2⟩
  · exact .inl ⟨v, w', h1, hm _ _ h2⟩
  · exact .inr (.inl ⟨w', h1, hm _ _ h2⟩)
  · exact .inr (.inr ⟨f, args, h1, h2.mono fun e w' ⟨v, h3, h4⟩ => ⟨v, h3, hm _ _ h4⟩⟩)

theorem Does.wp {P : Program} {o : Oper} {a : Act} {w : World} {Φ : Value → World → Prop} {K : Act → World → Prop} {Q : Exit → Act → World → Prop} (h : Does P o a w Φ) (hK : ∀ v w', Φ v w' → K (a.put o.dst v) w') : o.wp P a w K Q := by
  unfold Oper.wp
  rcases h with ⟨v, w', hr, hp⟩ | ⟨w', hr, hp⟩ | ⟨f, args, hr, hp⟩
  · rw [hr]; exact hK v w' hp
  · rw [hr]; exact hK undef w' hp
  · rw [hr]
    refine hp.mono fun e w' ⟨v, he, hv⟩ => ?_
    subst he
    exact hK v w' hv

section
variable {N : Nat} {M : Nat → Prop} {L : Lent} {w0 : World} {blk : Nat → Option (Nat × Nat)} {V : Nat → Nat → Prop} {t : Nat → D} {h : Nat → Option Row} {a : Act} {w : World}

structure Less (M : Nat → Prop) (h : Nat → Option Row) (blk : Nat → Option (Nat × Nat)) (fr : List Nat) (M' : Nat → Prop) : Prop where
  le : ∀ b, M' b → Own M h blk b
  no : ∀ x, x ∈ fr → ∀ r g, h x = some r → blk x = some g → ¬ M' g.1

theorem Less.left {fr fr' : List Nat} {M' : Nat → Prop} (hl : Less M h blk (fr ++ fr') M') : Less M h blk fr M' := ⟨hl.le, fun x hx => hl.no x (List.mem_append_left _ hx)⟩
theorem Less.right {fr fr' : List Nat} {M' : Nat → Prop} (hl : Less M h blk (fr ++ fr') M') : Less M h blk fr' M' := ⟨hl.le, fun x hx => hl.no x (List.mem_append_right _ hx)⟩

theorem Inv.less_freeze (hI : Inv N M L w0 blk V t h a w) (fr : List Nat) : Less M h blk fr (Own M (applyH h (frz h fr)) blk) where
  le b hb := by
    rcases hb with hb | ⟨x, r', g, hx, hz, hg, rfl⟩
    · exact .inl hb
    · rw [frz_at] at hx
      split at hx
      · cases hr : h x with
        | none => simp [hr] at hx
        | some r => simp only [hr, Option.map_some, Option.some.injEq] at hx; subst hx; rw [frzR_fz] at hz; cases hz
      · exact .inr ⟨x, r', g, hx, hz, hg, rfl⟩
  no x hx r g hr hg hb := by
    rcases hb with hb | ⟨y, r', g', hy, hz, hg', he⟩
    · exact hI.notM hr hg hb
    · rw [frz_at] at hy
      split at hy
      · cases hr' : h y with
        | none => simp [hr'] at hy
        | some r'' => simp only [hr', Option.map_some, Option.some.injEq] at hy; subst hy; rw [frzR_fz] at hz; cases hz
      · rename_i hyf
        have : y = x := hI.inj y x r' r g' g hy hr hg' hg he
        subst this
        exact hyf hx

theorem Inv.less_lend (hI : Inv N M L w0 blk V t h a w) (fr : List Nat) : Less M h blk fr (fun b => Own M h blk b ∧ ∀ x, x ∈ fr → ∀ r g, h x = some r → blk x = some g → g.1 ≠ b) where
  le b hb := hb.1
  no x hx r g hr hg hb := hb.2 x hx r g hr hg rfl

theorem live_some {x v : Nat} {r : Row} (hl : live h x v = some r) : h x = some r ∧ r.v = v := by
  unfold live at hl
  split at hl
  · split at hl
    · rename_i hc
      simp only [Option.some.injEq] at hl
      subst hl
      exact ⟨by assumption, hc.1⟩
    · cases hl
  · cases hl
theorem live_mp {x v : Nat} {r : Row} (hl : live h x v = some r) : r.mp = false := by
  unfold live at hl
  split at hl
  · split at hl
    · rename_i hc
      simp only [Option.some.injEq] at hl
      subst hl
      exact hc.2
    · cases hl
  · cases hl
theorem liveM_some {x v : Nat} {ks : List Int} {vs : List D} (hl : liveM h x v = some (ks, vs)) : ∃ r, h x = some r ∧ r.v = v ∧ r.mp = true ∧ r.cells = [.mpc ks vs] := by
  unfold liveM at hl
  split at hl
  · rename_i r hr
    split at hl
    · rename_i hc
      split at hl
      · rename_i hcs
        simp only [Option.some.injEq, Prod.mk.injEq] at hl
        obtain ⟨rfl, rfl⟩ := hl
        exact ⟨r, hr, hc.1, hc.2, hcs⟩
      · cases hl
    · cases hl
  · cases hl

theorem getElem?_drop_take {α : Type} (l : List α) (o n j : Nat) : ((l.drop o).take n)[j]? = if j < n then l[o + j]? else none := by
  rw [List.getElem?_take]
  split
  · rw [List.getElem?_drop]
  · rfl

/-- The cells of a live own slice. -/
theorem Inv.bufCells (hI : Inv N M L w0 blk V t h a w) {x v s o n : Nat} {r : Row} {u : Value} (hl : live h x v = some r) (hr : RT w (Own M h blk) h blk V (.buf x v s o n) u) :
    (∃ (g : Nat × Nat) (o' c : Nat) (cs : Array Value), blk x = some g ∧ u = .slice (some ⟨g.1, o', none⟩) n c ∧ n ≤ c ∧ c ≤ maxLen ∧ w.heap[g.1]? = some (.cells cs r.ty (0, 0)) ∧ (0 < c ∨ o = 0 → o' = g.2 + o ∧ c * s + o' = cs.size) ∧
      g.2 + r.cells.length ≤ cs.size ∧ ∀ j d, r.cells[j]? = some d → plainC d = true ∧ RP w (Own M h blk) d (cs.getD (g.2 + j) undef)) ∨ (blk x = none ∧ n = 0 ∧ r.cells = [] ∧ ∃ A, u = .slice A 0 0) := by
  obtain ⟨hx, hv⟩ := live_some hl
  rcases hr.2 r hx hv with ⟨g, o', c, N', t', g0, g1, g2, g3, g4, g5⟩ | ⟨g0, g1, A, g2⟩
  · obtain ⟨cs, h3, h4, h5⟩ := hI.lies hx g0 (live_mp hl)
    have : (r.ty, cs.size) = (t', N') := by simpa [World.shape?, h3] using g5
    simp only [Prod.mk.injEq] at this
    exact .inl ⟨g, o', c, cs, g0, g1, g3, g4, h3, fun h0 => by obtain ⟨k1, k2⟩ := g2 h0; exact ⟨k1, by rw [k2, this.2]⟩, h4, h5⟩
  · have := (hI.rows x r hx).2
    rw [g0] at this
    exact .inr ⟨g0, g1, this, A, g2⟩

theorem cell_of_cells {w : World} {g : Nat} {cs : Array Value} {ty : Nat} (hh : w.heap[g]? = some (.cells cs ty (0, 0))) {j : Nat} (hj : j < cs.size) : w.cell? ⟨g, j, none⟩ = some (cs.getD j undef) := by
  simp [World.cell?, hh, hj]

theorem Inv.clean1 (hI : Inv N M L w0 blk V t h a w) {d d' : D} {fr : List Nat} {u : Value} {M' : Nat → Prop} (hc : clean1 h d = some (d', fr)) (hl : Less M h blk fr M') (hr : RT w (Own M h blk) h blk V d u) : RP w M' d' u ∧ plainC d' = true := by
  have hk : ∀ b, b < w.heap.size → ¬ Own M h blk b → b < w.heap.size ∧ ¬ M' b ∧ w.heap[b]? = w.heap[b]? := fun b h1 h2 => ⟨h1, fun hb => h2 (hl.le b hb), rfl⟩
  cases d with
  | int k n => simp only [Am.clean1, Option.some.injEq, Prod.mk.injEq] at hc; obtain ⟨rfl, rfl⟩ := hc; exact ⟨RP.keep hk hr, rfl⟩
  | bool b => simp only [Am.clean1, Option.some.injEq, Prod.mk.injEq] at hc; obtain ⟨rfl, rfl⟩ := hc; exact ⟨RP.keep hk hr, rfl⟩
  | str s => simp only [Am.clean1, Option.some.injEq, Prod.mk.injEq] at hc; obtain ⟨rfl, rfl⟩ := hc; exact ⟨RP.keep hk hr, rfl⟩
  | sl x y n xs => simp only [Am.clean1, Option.some.injEq, Prod.mk.injEq] at hc; obtain ⟨rfl, rfl⟩ := hc; exact ⟨RP.keep hk hr, rfl⟩
  | buf x v s o n =>
    simp only [Am.clean1] at hc
    split at hc
    · rename_i r hlv
      split at hc
      · rename_i hle
        simp only [Option.some.injEq, Prod.mk.injEq] at hc
        obtain ⟨rfl, rfl⟩ := hc
        rcases hI.bufCells hlv hr with ⟨g, o', c, cs, g0, g1, g2, g3, g4, g5, g7, g8⟩ | ⟨g0, g1, g2, A, g3⟩
        · subst g1
          refine ⟨.sl (some ⟨g.1, o', none⟩) c false false n _ (fun j => cs.getD (g.2 + (o + j)) undef) g2 g3 (fun h => by cases h) (fun h => by cases h) (fun h => by cases h) (fun hne => ?_) (fun j y hj => ?_) (fun y hy => ?_), rfl⟩
          · have hn : 0 < n := by
              rcases Nat.eq_zero_or_pos n with h0 | h0
              · subst h0; simp at hne
              · exact h0
            have ho := (g5 (.inl (by omega))).1
            subst ho
            refine ⟨g.1, g.2 + o, rfl, hI.lt (live_some hlv).1 g0, hl.no x (by simp) r g (live_some hlv).1 g0, fun j hj => ?_⟩
            simp only [List.length_take, List.length_drop] at hj
            rw [Nat.add_assoc]
            exact cell_of_cells g4 (by omega)
          · rw [getElem?_drop_take] at hj
            split at hj
            · exact (g8 _ _ hj).2.keep hk
            · cases hj
          · obtain ⟨j, hj⟩ := List.getElem?_of_mem hy
            rw [getElem?_drop_take] at hj
            split at hj
            · exact (g8 _ _ hj).1
            · cases hj
        · subst g1 g3
          have hnil : List.take (0 * s) (List.drop o r.cells) = [] := by simp
          rw [hnil]
          exact ⟨.sl A 0 false false 0 [] (fun _ => undef) (Nat.le_refl _) (Nat.zero_le _) (fun h => by cases h) (fun _ => ⟨rfl, rfl⟩) (fun h => by cases h) (fun h => absurd rfl h) (fun j y hj => by simp at hj) (fun y hy => by simp at hy), rfl⟩
      · cases hc
    · cases hc
  | _ => simp [Am.clean1] at hc

/-- A live map, as data. -/
theorem clean2_ne {h : Nat → Option Row} {d : D} (hd : ∀ xs, d ≠ .agg xs) : Am.clean2 h d = Am.clean1 h d := by
  cases d <;> first | rfl | exact absurd rfl (hd _)
theorem Inv.clean2 (hI : Inv N M L w0 blk V t h a w) {d d' : D} {fr : List Nat} {u : Value} {M' : Nat → Prop} (hc : clean2 h d = some (d', fr)) (hl : Less M h blk fr M') (hr : RT w (Own M h blk) h blk V d u) : RP w M' d' u := by
  by_cases hd : ∀ xs, d ≠ .agg xs
  · rw [clean2_ne hd] at hc
    exact (hI.clean1 hc hl hr).1
  · have hk : ∀ b, b < w.heap.size → ¬ Own M h blk b → b < w.heap.size ∧ ¬ M' b ∧ w.heap[b]? = w.heap[b]? := fun b h1 h2 => ⟨h1, fun hb => h2 (hl.le b hb), rfl⟩
    simp only [ne_eq, Classical.not_forall, Classical.not_not] at hd
    obtain ⟨xs, rfl⟩ := hd
    simp only [Am.clean2, Option.some.injEq, Prod.mk.injEq] at hc
    obtain ⟨rfl, rfl⟩ := hc
    exact RP.keep hk (show RP w (Own M h blk) (.agg xs) u from hr)

theorem Inv.mapAt (hI : Inv N M L w0 blk V t h a w) {x v : Nat} {ks : List Int} {vs : List D} {u : Value} (hl : liveM h x v = some (ks, vs)) (hr : RT w (Own M h blk) h blk V (.mp x v) u) :
    ∃ (g : Nat × Nat) (r : Row), h x = some r ∧ r.v = v ∧ r.mp = true ∧ r.cells = [.mpc ks vs] ∧ blk x = some g ∧ u = .map (some g.1) ∧ vs.length = ks.length ∧ ∃ (ents : Array MapEntry) (clock : Nat), w.heap[g.1]? = some (.map ents clock) ∧ ents.size = ks.length ∧ ∃ us : Nat → Value, (∀ j k, ks[j]? = some k → ∃ e : MapEntry, ents[j]? = some e ∧ e.key = .int .i64 k ∧ e.val = us j) ∧ ∀ j x, vs[j]? = some x → RP w (Own M h blk) x (us j) := by
  obtain ⟨r, h1, h2, h3, h4⟩ := liveM_some hl
  obtain ⟨g, k1, k2⟩ := hr.2 r h1 h2
  have hi := hI.rowIs h1 k1
  unfold RowIs at hi
  rw [h3] at hi
  obtain ⟨ks', vs', i1, i2, ents, clock, i3, i4, us, i5, i6⟩ := hi
  rw [h4] at i1
  simp only [List.cons.injEq, D.mpc.injEq, and_true] at i1
  obtain ⟨rfl, rfl⟩ := i1
  exact ⟨g, r, h1, h2, h3, h4, k1, k2, i2, ents, clock, i3, i4, us, i5, i6⟩
theorem Inv.mpClean (hI : Inv N M L w0 blk V t h a w) {x v : Nat} {ks : List Int} {vs : List D} {u : Value} {M' : Nat → Prop} (hl : liveM h x v = some (ks, vs)) (hno : ∀ r g, h x = some r → blk x = some g → ¬ M' g.1)
    (hk : ∀ b, b < w.heap.size → ¬ Own M h blk b → b < w.heap.size ∧ ¬ M' b ∧ w.heap[b]? = w.heap[b]?) (hr : RT w (Own M h blk) h blk V (.mp x v) u) : RP w M' (.mpc ks vs) u := by
  obtain ⟨g, r, h1, h2, h3, h4, h5, rfl, h6, ents, clock, h7, h8, us, h9, h10⟩ := hI.mapAt hl hr
  refine .mpc ks vs (some g.1) us h6 (fun h => by cases h) (fun b hb => ?_) (fun j y hj => (h10 j y hj).keep hk)
  simp only [Option.some.injEq] at hb
  subst hb
  exact ⟨hI.lt h1 h5, hno r g h1 h5, ents, clock, h7, h8, h9⟩

theorem Inv.cleanCap (hI : Inv N M L w0 blk V t h a w) {d d' : D} {fr : List Nat} {u : Value} {M' : Nat → Prop} (hc : cleanCap h d = some (d', fr)) (hl : Less M h blk fr M') (hr : RT w (Own M h blk) h blk V d u) : RP w M' d' u := by
  have hk : ∀ b, b < w.heap.size → ¬ Own M h blk b → b < w.heap.size ∧ ¬ M' b ∧ w.heap[b]? = w.heap[b]? := fun b h1 h2 => ⟨h1, fun hb => h2 (hl.le b hb), rfl⟩
  have one : ∀ d, Am.cleanCap h d = (match Am.clean1 h d with | some (d', fr) => some (canon d', fr) | none => none) → Am.cleanCap h d = some (d', fr) → RT w (Own M h blk) h blk V d u → RP w M' d' u := by
    intro d he hc hr
    rw [he] at hc
    split at hc
    · rename_i d1 fr1 h1
      simp only [Option.some.injEq, Prod.mk.injEq] at hc
      obtain ⟨rfl, rfl⟩ := hc
      exact (hI.clean1 h1 hl hr).1.canon
    · cases hc
  cases d with
  | ptr x v o =>
    simp only [Am.cleanCap] at hc
    split at hc
    · rename_i r hlv
      split at hc
      · rename_i hle
        simp only [Option.some.injEq, Prod.mk.injEq] at hc
        obtain ⟨rfl, rfl⟩ := hc
        obtain ⟨hx, hv⟩ := live_some hlv
        obtain ⟨g, g0, g1⟩ := hr.2 r hx hv
        obtain ⟨cs, g2, g3, g4⟩ := hI.lies hx g0 (live_mp hlv)
        subst g1
        refine .ip _ _ (fun j => cs.getD (g.2 + (o + j)) undef) (fun hne => ⟨g.1, g.2 + o, rfl, hI.lt hx g0, hl.no x (by simp) r g hx g0, fun j hj => ?_⟩) (fun j y hj => ?_) (fun y hy => ?_)
        · simp only [List.length_drop] at hj
          rw [Nat.add_assoc]
          exact cell_of_cells g2 (by omega)
        · rw [List.getElem?_drop] at hj
          exact (g4 _ _ hj).2.keep hk
        · obtain ⟨j, hj⟩ := List.getElem?_of_mem hy
          rw [List.getElem?_drop] at hj
          exact (g4 _ _ hj).1
      · cases hc
    · cases hc
  | agg xs => simp only [Am.cleanCap, Option.some.injEq, Prod.mk.injEq] at hc; obtain ⟨rfl, rfl⟩ := hc; exact (RP.keep hk hr).canonA
  | ip xs => simp only [Am.cleanCap, Option.some.injEq, Prod.mk.injEq] at hc; obtain ⟨rfl, rfl⟩ := hc; exact RP.keep hk hr
  | fn f => simp only [Am.cleanCap, Option.some.injEq, Prod.mk.injEq] at hc; obtain ⟨rfl, rfl⟩ := hc; exact RP.keep hk hr
  | box1 x v s o n =>
    simp only [Am.cleanCap] at hc
    split at hc
    · rename_i d1 fr1 h1
      simp only [Option.some.injEq, Prod.mk.injEq] at hc
      obtain ⟨rfl, rfl⟩ := hc
      obtain ⟨u', rfl, _, hr⟩ := hr
      obtain ⟨k1, k2⟩ := hI.clean1 h1 hl (show RT w (Own M h blk) h blk V (.buf x v s o n) u' from hr)
      refine .agg _ [u'] rfl (fun j x hj => ?_) (fun x hx => ?_)
      · cases j with
        | zero => simp only [List.getElem?_cons_zero, Option.some.injEq] at hj; subst hj; exact k1.canon
        | succ j => simp at hj
      · simp only [List.mem_singleton] at hx
        rw [hx, plainC_canon]
        exact k2
    · cases hc
  | mpc ks vs => simp only [Am.cleanCap, Option.some.injEq, Prod.mk.injEq] at hc; obtain ⟨rfl, rfl⟩ := hc; exact RP.keep hk hr
  | mp x v =>
    simp only [Am.cleanCap] at hc
    split at hc
    · rename_i ks vs h1
      simp only [Option.some.injEq, Prod.mk.injEq] at hc
      obtain ⟨rfl, rfl⟩ := hc
      exact hI.mpClean h1 (hl.no x (by simp)) hk hr
    · cases hc
  | pm x v y =>
    simp only [Am.cleanCap] at hc
    split at hc
    · rename_i r hlv
      split at hc
      · rename_i y' v' hcs
        split at hc
        · rename_i hcond
          obtain ⟨c1, c2, rfl⟩ := hcond
          split at hc
          · rename_i ks vs h1
            simp only [Option.some.injEq, Prod.mk.injEq] at hc
            obtain ⟨rfl, rfl⟩ := hc
            obtain ⟨hx, hv⟩ := live_some hlv
            obtain ⟨g, g0, g1⟩ := hr.2 r hx hv
            obtain ⟨u', k1, k2⟩ := hI.ali x r g hx c1 c2 g0 0 (.alm y' v') (.mp y' v') (by rw [hcs]; rfl) rfl
            have k3 := hI.mpClean h1 (hl.no y' (by simp)) hk k2
            subst g1
            refine .ip _ _ (fun _ => u') (fun _ => ⟨g.1, g.2 + 0, rfl, hI.lt hx g0, hl.no x (by simp) r g hx g0, fun j hj => ?_⟩) (fun j z hj => ?_) (fun z hz => ?_)
            · simp only [List.length_cons, List.length_nil] at hj
              have : j = 0 := by omega
              subst this
              exact k1
            · cases j with
              | zero => simp only [List.getElem?_cons_zero, Option.some.injEq] at hj; subst hj; exact k3
              | succ j => simp at hj
            · simp only [List.mem_singleton] at hz
              subst hz
              rfl
          · cases hc
        · cases hc
      · cases hc
    · cases hc
  | _ => exact one _ rfl hc hr

theorem RT_of_RC {w : World} {M : Nat → Prop} {h : Nat → Option Row} {blk : Nat → Option (Nat × Nat)} {V : Nat → Nat → Prop} {d : D} {u : Value} (hr : RC w M h blk V d u) : RT w M h blk V d u := by
  cases d with
  | ptr x v o => exact hr
  | mp x v => exact hr
  | pm x v y => exact hr
  | _ => exact RT_of_RP hr

theorem Inv.cleanCaps (hI : Inv N M L w0 blk V t h a w) {M' : Nat → Prop} : ∀ {ds ds' : List D} {fr : List Nat} {us : List Value}, cleanCaps h ds = some (ds', fr) → Less M h blk fr M' → us.length = ds.length →
    (∀ j d, ds[j]? = some d → RT w (Own M h blk) h blk V d (us.getD j undef)) → us.length = ds'.length ∧ ∀ j d, ds'[j]? = some d → RP w M' d (us.getD j undef)
  | [], ds', fr, us, hc, hl, hlen, hr => by
    simp only [Am.cleanCaps, Option.some.injEq, Prod.mk.injEq] at hc
    obtain ⟨rfl, rfl⟩ := hc
    exact ⟨hlen, fun j d hj => by simp at hj⟩
  | d :: ds, ds', fr, us, hc, hl, hlen, hr => by
    simp only [Am.cleanCaps] at hc
    split at hc
    · rename_i d1 fr1 h1
      split at hc
      · rename_i ds1 fr2 h2
        simp only [Option.some.injEq, Prod.mk.injEq] at hc
        obtain ⟨rfl, rfl⟩ := hc
        cases us with
        | nil => simp at hlen
        | cons u us =>
          have i1 := hI.cleanCap h1 hl.left (hr 0 d rfl)
          obtain ⟨i2, i3⟩ := hI.cleanCaps h2 hl.right (by simpa using hlen) (fun j d hj => by simpa using hr (j + 1) d (by simpa using hj))
          refine ⟨by simp [i2], fun j x hj => ?_⟩
          cases j with
          | zero => simp only [List.getElem?_cons_zero, Option.some.injEq] at hj; subst hj; simpa using i1
          | succ j => simpa using i3 j x (by simpa using hj)
      · cases hc
    · cases hc

theorem Inv.cleanArg (hI : Inv N M L w0 blk V t h a w) {d d' : D} {fr : List Nat} {u : Value} {M' : Nat → Prop} (hc : cleanArg h d = some (d', fr)) (hl : Less M h blk fr M') (hr : RT w (Own M h blk) h blk V d u) : RP w M' d' u := by
  cases d with
  | clo f kk xs =>
    simp only [Am.cleanArg] at hc
    split at hc
    · rename_i ys fr1 h1
      simp only [Option.some.injEq, Prod.mk.injEq] at hc
      obtain ⟨rfl, rfl⟩ := hc
      obtain ⟨us, k1, k2, k3⟩ := hr
      subst k1
      obtain ⟨i1, i2⟩ := hI.cleanCaps h1 hl k2 (fun j d hj => RT_of_RC (k3 j d hj))
      exact .clo f kk ys us i1 i2
    · cases hc
  | _ => exact hI.cleanCap (by rw [← hc]; rfl) hl hr

theorem Inv.cleanArgs (hI : Inv N M L w0 blk V t h a w) {M' : Nat → Prop} : ∀ {ds ds' : List D} {fr : List Nat} {us : List Value}, cleanArgs h ds = some (ds', fr) → Less M h blk fr M' → us.length = ds.length →
    (∀ j d, ds[j]? = some d → RT w (Own M h blk) h blk V d (us.getD j undef)) → us.length = ds'.length ∧ ∀ j d, ds'[j]? = some d → RP w M' d (us.getD j undef)
  | [], ds', fr, us, hc, hl, hlen, hr => by
    simp only [Am.cleanArgs, Option.some.injEq, Prod.mk.injEq] at hc
    obtain ⟨rfl, rfl⟩ := hc
    exact ⟨hlen, fun j d hj => by simp at hj⟩
  | d :: ds, ds', fr, us, hc, hl, hlen, hr => by
    simp only [Am.cleanArgs] at hc
    split at hc
    · rename_i d1 fr1 h1
      split at hc
      · rename_i ds1 fr2 h2
        simp only [Option.some.injEq, Prod.mk.injEq] at hc
        obtain ⟨rfl, rfl⟩ := hc
        cases us with
        | nil => simp at hlen
        | cons u us =>
          have i1 := hI.cleanArg h1 hl.left (hr 0 d rfl)
          obtain ⟨i2, i3⟩ := hI.cleanArgs h2 hl.right (by simpa using hlen) (fun j d hj => by simpa using hr (j + 1) d (by simpa using hj))
          refine ⟨by simp [i2], fun j x hj => ?_⟩
          cases j with
          | zero => simp only [List.getElem?_cons_zero, Option.some.injEq] at hj; subst hj; simpa using i1
          | succ j => simpa using i3 j x (by simpa using hj)
      · cases hc
    · cases hc

theorem Inv.cellsV (hI : Inv N M L w0 blk V t h a w) {d : D} {cs : List D} {fr : List Nat} {u : Value} {M' : Nat → Prop} (hc : cellsV h d = some (cs, fr)) (hl : Less M h blk fr M') (hr : RT w (Own M h blk) h blk V d u) :
    u.cells.size = cs.length ∧ ∀ j x, cs[j]? = some x → plainC x = true ∧ RP w M' x (u.cells.getD j undef) := by
  have hk : ∀ b, b < w.heap.size → ¬ Own M h blk b → b < w.heap.size ∧ ¬ M' b ∧ w.heap[b]? = w.heap[b]? := fun b h1 h2 => ⟨h1, fun hb => h2 (hl.le b hb), rfl⟩
  have one : ∀ d, (∀ xs, d ≠ .agg xs) → Am.cellsV h d = some (cs, fr) → RT w (Own M h blk) h blk V d u → u.cells.size = cs.length ∧ ∀ j x, cs[j]? = some x → plainC x = true ∧ RP w M' x (u.cells.getD j undef) := by
    intro d hne hc hr
    have : ∃ d', Am.clean1 h d = some (d', fr) ∧ cs = [d'] := by
      have e : Am.cellsV h d = match Am.clean1 h d with | some (d', fr) => some ([d'], fr) | none => none := by
        cases d <;> first | rfl | exact absurd rfl (hne _)
      rw [e] at hc
      split at hc
      · rename_i d' fr' h1
        simp only [Option.some.injEq, Prod.mk.injEq] at hc
        obtain ⟨rfl, rfl⟩ := hc
        exact ⟨d', h1, rfl⟩
      · cases hc
    obtain ⟨d', h1, rfl⟩ := this
    obtain ⟨h2, h3⟩ := hI.clean1 h1 hl hr
    rw [h2.cells h3]
    refine ⟨rfl, fun j x hj => ?_⟩
    cases j with
    | zero => simp only [List.getElem?_cons_zero, Option.some.injEq] at hj; subst hj; exact ⟨h3, by simpa using h2⟩
    | succ j => simp at hj
  cases d with
  | agg xs =>
    simp only [Am.cellsV, Option.some.injEq, Prod.mk.injEq] at hc
    obtain ⟨rfl, rfl⟩ := hc
    have hr' : RP w (Own M h blk) (.agg xs) u := hr
    cases hr' with
    | agg xs us h1 h2 h3 =>
      refine ⟨by simp [Value.cells, h1], fun j x hj => ⟨h3 x (List.mem_of_getElem? hj), ?_⟩⟩
      have := (h2 j x hj).keep hk
      simpa [Value.cells] using this
  | _ => exact one _ (fun _ h => by cases h) hc hr
end
end Go.Proofs.YtdecgihkgpgejaaDoor.Am
