/- The memory-free machine, part 3: each operation does what its effect says. -/
import Derived.Test.YtcdckmfiknhiiaaVn
namespace Go.Proofs.Ytcdckmfiknhiiaa.Vm
open Go.RowKit

def ArgsR (w : World) (M : Nat → Prop) (args : List D) (vs : Array Value) : Prop := vs.size = args.length ∧ ∀ j d, args[j]? = some d → RP w M d (vs.getD j undef)

/-- What a call leaves: data that the result reads as, in new memory or that of the arguments; of what was there nothing has changed. -/
def Gives (w : World) (M : Nat → Prop) (r : D) (e : Ending) (w' : World) : Prop := ∃ v, e = .returned v ∧ RP w' M r v ∧ Below w.heap.size w w'

def CallsV (P : Program) (f : FuncId) (args : List D) (r : D) : Prop :=
  ∀ (w : World) (M : Nat → Prop) (vs : Array Value), (∀ b, M b → b < w.heap.size) → ArgsR w M args vs → Calls P f vs w (Gives w M r)

def Callable (P : Program) (f : FuncId) : Prop := ∃ fn, P.funcs[f]? = some fn ∧ (fn.name == "runtime.NumGoroutine") = false ∧ fn.body.isNone = false

def GOk (P : Program) (Γ : Nat → List D → Option D) : Prop := ∀ f args r, Γ f args = some r → CallsV P f args r ∧ Callable P f

theorem TyOk.get {P : Program} {t : Nat} {τ : Ty} (h : TyOk P t τ) : ∃ d i z, P.underlying t = some d ∧ conv d = τ.ds ∧ P.info? t = some i ∧ i.size = τ.size ∧ i.bytes = τ.bytes ∧ i.zero = some z ∧ z.cells = τ.zero.toArray := by
  have h1 := h.desc
  have h2 := h.info
  cases hd : P.underlying t with
  | none => simp [hd] at h1
  | some d =>
    cases hi : P.info? t with
    | none => simp [hi] at h2
    | some i =>
      simp only [hd, Option.map_some, Option.some.injEq] at h1
      simp only [hi, Option.map_some, Option.some.injEq, Prod.mk.injEq] at h2
      cases hz : i.zero with
      | none => simp [hz] at h2
      | some z =>
        simp only [hz, Option.map_some, Option.some.injEq] at h2
        exact ⟨d, i, z, rfl, h1, rfl, h2.1, h2.2.1, hz, by rw [← h2.2.2]⟩

def Does (P : Program) (o : Oper) (a : Act) (w : World) (Φ : Value → World → Prop) : Prop :=
  (∃ v w', (execOp a.eval o).run P w = .ok (.value v) w' ∧ Φ v w') ∨ (∃ w', (execOp a.eval o).run P w = .ok .skip w' ∧ Φ undef w') ∨
  (∃ f args, (execOp a.eval o).run P w = .ok (.enter f args) w ∧ Calls P f args w (fun e w' => ∃ v, e = .returned v ∧ Φ v w'))

theorem Does.wp {P : Program} {o : Oper} {a : Act} {w : World} {Φ : Value → World → Prop} {K : Act → World → Prop} {Q : Exit → Act → World → Prop} (h : Does P o a w Φ) (hK : ∀ v w', Φ v w' → K (a.put o.dst v) w') : o.wp P a w K Q := by
  unfold Oper.wp
  rcases h with ⟨v, w', hr, hp⟩ | ⟨w', hr, hp⟩ | ⟨f, args, hr, hp⟩
  · rw [hr]; exact hK v w' hp
  · rw [hr]; exact hK undef w' hp
  · rw [hr]
    refine hp.mono fun e w' ⟨v, he, hv⟩ => ?_
    subst he
    exact hK v w' hv

section
variable {N : Nat} {M : Nat → Prop} {w0 : World} {blk : Nat → Nat} {V : Nat → Nat → Prop} {t : Nat → D} {h : Nat → Option Row} {a : Act} {w : World}

structure Less (M : Nat → Prop) (h : Nat → Option Row) (blk : Nat → Nat) (fr : List Nat) (M' : Nat → Prop) : Prop where
  le : ∀ b, M' b → Own M h blk b
  no : ∀ x, x ∈ fr → ∀ r, h x = some r → ¬ M' (blk x)

theorem Less.left {fr fr' : List Nat} {M' : Nat → Prop} (hl : Less M h blk (fr ++ fr') M') : Less M h blk fr M' := ⟨hl.le, fun x hx => hl.no x (List.mem_append_left _ hx)⟩
theorem Less.right {fr fr' : List Nat} {M' : Nat → Prop} (hl : Less M h blk (fr ++ fr') M') : Less M h blk fr' M' := ⟨hl.le, fun x hx => hl.no x (List.mem_append_right _ hx)⟩

theorem Inv.less_freeze (hI : Inv N M w0 blk V t h a w) (fr : List Nat) : Less M h blk fr (Own M (applyH h (frz h fr)) blk) where
  le b hb := by
    rcases hb with hb | ⟨x, r', hx, hz, rfl⟩
    · exact .inl hb
    · rw [frz_at] at hx
      split at hx
      · cases hr : h x with
        | none => simp [hr] at hx
        | some r => simp only [hr, Option.map_some, Option.some.injEq] at hx; subst hx; cases hz
      · exact .inr ⟨x, r', hx, hz, rfl⟩
  no x hx r hr hb := by
    rcases hb with hb | ⟨y, r', hy, hz, he⟩
    · have h1 := hI.mlt _ hb
      have h2 := (hI.rows x r hr).2.base
      omega
    · rw [frz_at] at hy
      split at hy
      · cases hr' : h y with
        | none => simp [hr'] at hy
        | some r'' => simp only [hr', Option.map_some, Option.some.injEq] at hy; subst hy; cases hz
      · rename_i hyf
        have : y = x := hI.inj y x r' r hy hr he
        subst this
        exact hyf hx

theorem Inv.less_lend (hI : Inv N M w0 blk V t h a w) (fr : List Nat) : Less M h blk fr (fun b => Own M h blk b ∧ ∀ x, x ∈ fr → ∀ r, h x = some r → blk x ≠ b) where
  le b hb := hb.1
  no x hx r hr hb := hb.2 x hx r hr rfl

theorem live_some {x v : Nat} {r : Row} (hl : live h x v = some r) : h x = some r ∧ r.v = v := by
  unfold live at hl
  split at hl
  · split at hl
    · simp only [Option.some.injEq] at hl
      subst hl
      exact ⟨by assumption, by assumption⟩
    · cases hl
  · cases hl

theorem getElem?_drop_take {α : Type} (l : List α) (o n j : Nat) : ((l.drop o).take n)[j]? = if j < n then l[o + j]? else none := by
  rw [List.getElem?_take]
  split
  · rw [List.getElem?_drop]
  · rfl

/-- The cells of a live own slice. -/
theorem Inv.bufCells (hI : Inv N M w0 blk V t h a w) {x v s o n : Nat} {r : Row} {u : Value} (hl : live h x v = some r) (hle : o + n * s ≤ r.cells.length) (hr : RT w (Own M h blk) h blk V (.buf x v s o n) u) :
    ∃ (o' c : Nat) (cs : Array Value), u = .slice (some ⟨blk x, o', none⟩) n c ∧ n ≤ c ∧ c ≤ maxLen ∧ w.heap[blk x]? = some (.cells cs r.ty (0, 0)) ∧ (0 < n ∨ o = 0 → o' = o) ∧ (o = 0 → c * s = cs.size) ∧
      r.cells.length ≤ cs.size ∧ ∀ j d, r.cells[j]? = some d → plainC d = true ∧ RP w (Own M h blk) d (cs.getD j undef) := by
  obtain ⟨hx, hv⟩ := live_some hl
  obtain ⟨o', c, N', t', g1, g2, g3, g4, g5, g6⟩ := hr.2 r hx hv
  obtain ⟨_, _, cs, h3, h4, h5⟩ := hI.rows x r hx
  have : (r.ty, cs.size) = (t', N') := by simpa [World.shape?, h3] using g5
  simp only [Prod.mk.injEq] at this
  exact ⟨o', c, cs, g1, g3, g4, h3, g2, fun h0 => by rw [g6 h0, this.2], h4, h5⟩

theorem cell_of_cells {w : World} {g : Nat} {cs : Array Value} {ty : Nat} (hh : w.heap[g]? = some (.cells cs ty (0, 0))) {j : Nat} (hj : j < cs.size) : w.cell? ⟨g, j, none⟩ = some (cs.getD j undef) := by
  simp [World.cell?, hh, hj]

theorem Inv.clean1 (hI : Inv N M w0 blk V t h a w) {d d' : D} {fr : List Nat} {u : Value} {M' : Nat → Prop} (hc : clean1 h d = some (d', fr)) (hl : Less M h blk fr M') (hr : RT w (Own M h blk) h blk V d u) : RP w M' d' u ∧ plainC d' = true := by
  have hk : ∀ b, b < w.heap.size → ¬ Own M h blk b → b < w.heap.size ∧ ¬ M' b ∧ w.heap[b]? = w.heap[b]? := fun b h1 h2 => ⟨h1, fun hb => h2 (hl.le b hb), rfl⟩
  cases d with
  | int k n => simp only [Vm.clean1, Option.some.injEq, Prod.mk.injEq] at hc; obtain ⟨rfl, rfl⟩ := hc; exact ⟨RP.keep hk hr, rfl⟩
  | bool b => simp only [Vm.clean1, Option.some.injEq, Prod.mk.injEq] at hc; obtain ⟨rfl, rfl⟩ := hc; exact ⟨RP.keep hk hr, rfl⟩
  | str s => simp only [Vm.clean1, Option.some.injEq, Prod.mk.injEq] at hc; obtain ⟨rfl, rfl⟩ := hc; exact ⟨RP.keep hk hr, rfl⟩
  | sl x y n xs => simp only [Vm.clean1, Option.some.injEq, Prod.mk.injEq] at hc; obtain ⟨rfl, rfl⟩ := hc; exact ⟨RP.keep hk hr, rfl⟩
  | buf x v s o n =>
    simp only [Vm.clean1] at hc
    split at hc
    · rename_i r hlv
      split at hc
      · rename_i hle
        simp only [Option.some.injEq, Prod.mk.injEq] at hc
        obtain ⟨rfl, rfl⟩ := hc
        obtain ⟨o', c, cs, g1, g2, g3, g4, g5, g6, g7, g8⟩ := hI.bufCells hlv hle hr
        subst g1
        refine ⟨.sl (some ⟨blk x, o', none⟩) c false false n _ (fun j => cs.getD (o + j) undef) g2 g3 (fun h => by cases h) (fun _ h => by cases h) (fun h => by cases h) (fun hne => ?_) (fun j y hj => ?_) (fun y hy => ?_), rfl⟩
        · have hn : 0 < n := by
            rcases Nat.eq_zero_or_pos n with h0 | h0
            · subst h0; simp at hne
            · exact h0
          have ho := g5 (.inl hn)
          subst ho
          refine ⟨blk x, o', rfl, hI.lt (live_some hlv).1, hl.no x (by simp) r (live_some hlv).1, fun j hj => ?_⟩
          simp only [List.length_take, List.length_drop] at hj
          exact cell_of_cells g4 (by omega)
        · rw [getElem?_drop_take] at hj
          split at hj
          · exact (g8 _ _ hj).2.keep hk
          · cases hj
        · obtain ⟨j, hj⟩ := List.getElem?_of_mem hy
          rw [getElem?_drop_take] at hj
          split at hj
          · exact (g8 _ _ hj).1
          · cases hj
      · cases hc
    · cases hc
  | ptr x v o => simp [Vm.clean1] at hc
  | ip xs => simp [Vm.clean1] at hc
  | agg xs => simp [Vm.clean1] at hc
  | tup xs => simp [Vm.clean1] at hc
  | fn f => simp [Vm.clean1] at hc
  | und => simp [Vm.clean1] at hc

theorem Inv.cleanArg (hI : Inv N M w0 blk V t h a w) {d d' : D} {fr : List Nat} {u : Value} {M' : Nat → Prop} (hc : cleanArg h d = some (d', fr)) (hl : Less M h blk fr M') (hr : RT w (Own M h blk) h blk V d u) : RP w M' d' u := by
  have hk : ∀ b, b < w.heap.size → ¬ Own M h blk b → b < w.heap.size ∧ ¬ M' b ∧ w.heap[b]? = w.heap[b]? := fun b h1 h2 => ⟨h1, fun hb => h2 (hl.le b hb), rfl⟩
  cases d with
  | agg xs => simp only [Vm.cleanArg, Option.some.injEq, Prod.mk.injEq] at hc; obtain ⟨rfl, rfl⟩ := hc; exact RP.keep hk hr
  | _ => exact (hI.clean1 (by rw [← hc]; rfl) hl hr).1

theorem Inv.cleanArgs (hI : Inv N M w0 blk V t h a w) {M' : Nat → Prop} : ∀ {ds ds' : List D} {fr : List Nat} {us : List Value}, cleanArgs h ds = some (ds', fr) → Less M h blk fr M' → us.length = ds.length →
    (∀ j d, ds[j]? = some d → RT w (Own M h blk) h blk V d (us.getD j undef)) → us.length = ds'.length ∧ ∀ j d, ds'[j]? = some d → RP w M' d (us.getD j undef)
  | [], ds', fr, us, hc, hl, hlen, hr => by
    simp only [Vm.cleanArgs, Option.some.injEq, Prod.mk.injEq] at hc
    obtain ⟨rfl, rfl⟩ := hc
    exact ⟨hlen, fun j d hj => by simp at hj⟩
  | d :: ds, ds', fr, us, hc, hl, hlen, hr => by
    simp only [Vm.cleanArgs] at hc
    split at hc
    · rename_i d1 fr1 h1
      split at hc
      · rename_i ds1 fr2 h2
        simp only [Option.some.injEq, Prod.mk.injEq] at hc
        obtain ⟨rfl, rfl⟩ := hc
        cases us with
        | nil => simp at hlen
        | cons u us =>
          have i1 := hI.cleanArg h1 hl.left (hr 0 d rfl)
          obtain ⟨i2, i3⟩ := hI.cleanArgs h2 hl.right (by simpa using hlen) (fun j d hj => by simpa using hr (j + 1) d (by simpa using hj))
          refine ⟨by simp [i2], fun j x hj => ?_⟩
          cases j with
          | zero => simp only [List.getElem?_cons_zero, Option.some.injEq] at hj; subst hj; simpa using i1
          | succ j => simpa using i3 j x (by simpa using hj)
      · cases hc
    · cases hc

theorem Inv.cellsV (hI : Inv N M w0 blk V t h a w) {d : D} {cs : List D} {fr : List Nat} {u : Value} {M' : Nat → Prop} (hc : cellsV h d = some (cs, fr)) (hl : Less M h blk fr M') (hr : RT w (Own M h blk) h blk V d u) :
    u.cells.size = cs.length ∧ ∀ j x, cs[j]? = some x → plainC x = true ∧ RP w M' x (u.cells.getD j undef) := by
  have hk : ∀ b, b < w.heap.size → ¬ Own M h blk b → b < w.heap.size ∧ ¬ M' b ∧ w.heap[b]? = w.heap[b]? := fun b h1 h2 => ⟨h1, fun hb => h2 (hl.le b hb), rfl⟩
  have one : ∀ d, (∀ xs, d ≠ .agg xs) → Vm.cellsV h d = some (cs, fr) → RT w (Own M h blk) h blk V d u → u.cells.size = cs.length ∧ ∀ j x, cs[j]? = some x → plainC x = true ∧ RP w M' x (u.cells.getD j undef) := by
    intro d hne hc hr
    have : ∃ d', Vm.clean1 h d = some (d', fr) ∧ cs = [d'] := by
      have e : Vm.cellsV h d = match Vm.clean1 h d with | some (d', fr) => some ([d'], fr) | none => none := by
        cases d <;> first | rfl | exact absurd rfl (hne _)
      rw [e] at hc
      split at hc
      · rename_i d' fr' h1
        simp only [Option.some.injEq, Prod.mk.injEq] at hc
        obtain ⟨rfl, rfl⟩ := hc
        exact ⟨d', h1, rfl⟩
      · cases hc
    obtain ⟨d', h1, rfl⟩ := this
    obtain ⟨h2, h3⟩ := hI.clean1 h1 hl hr
    rw [h2.cells h3]
    refine ⟨rfl, fun j x hj => ?_⟩
    cases j with
    | zero => simp only [List.getElem?_cons_zero, Option.some.injEq] at hj; subst hj; exact ⟨h3, by simpa using h2⟩
    | succ j => simp at hj
  cases d with
  | agg xs =>
    simp only [Vm.cellsV, Option.some.injEq, Prod.mk.injEq] at hc
    obtain ⟨rfl, rfl⟩ := hc
    have hr' : RP w (Own M h blk) (.agg xs) u := hr
    cases hr' with
    | agg xs us h1 h2 h3 =>
      refine ⟨by simp [Value.cells, h1], fun j x hj => ⟨h3 x (List.mem_of_getElem? hj), ?_⟩⟩
      have := (h2 j x hj).keep hk
      simpa [Value.cells] using this
  | _ => exact one _ (fun _ h => by cases h) hc hr
end
end Go.Proofs.Ytcdckmfiknhiiaa.Vm
