/- The memory-free machine, part 4: each operation does what its effect says. -/
import Derived.Test.YtdecgihkgpgejaaDoorAo
namespace Go.Proofs.YtdecgihkgpgejaaDoor.Am
open Go.RowKit
set_option linter.unusedSimpArgs false
set_option linter.unusedVariables false

theorem add_mk (g o j : Nat) : (⟨g, o, none⟩ : Addr).add j = ⟨g, o + j, none⟩ := by unfold Addr.add; split <;> simp_all

/-- Cells at a place read as data. -/
def At (w : World) (M : Nat → Prop) (g o : Nat) (xs : List D) : Prop := ∀ j x, xs[j]? = some x → plainC x = true ∧ ∃ v, w.cell? ⟨g, o + j, none⟩ = some v ∧ RP w M x v

theorem At.drop {w : World} {M : Nat → Prop} {g o : Nat} {xs : List D} (h : At w M g o xs) (k : Nat) : At w M g (o + k) (xs.drop k) := by
  intro j x hj
  rw [List.getElem?_drop] at hj
  obtain ⟨h1, v, h2, h3⟩ := h _ _ hj
  exact ⟨h1, v, by rw [Nat.add_assoc]; exact h2, h3⟩
theorem At.take {w : World} {M : Nat → Prop} {g o : Nat} {xs : List D} (h : At w M g o xs) (k : Nat) : At w M g o (xs.take k) := by
  intro j x hj
  rw [List.getElem?_take] at hj
  split at hj
  · exact h _ _ hj
  · cases hj

/-- The values of such cells. -/
theorem At.vals {w : World} {M : Nat → Prop} {g o : Nat} {xs : List D} (h : At w M g o xs) :
    ∃ us : List Value, us.length = xs.length ∧ (∀ j u, us[j]? = some u → w.cell? ⟨g, o + j, none⟩ = some u) ∧ (∀ j x, xs[j]? = some x → RP w M x (us.getD j undef)) ∧ (∀ x ∈ xs, plainC x = true) := by
  refine ⟨(List.range xs.length).map fun j => (w.cell? ⟨g, o + j, none⟩).getD undef, by simp, fun j u hj => ?_, fun j x hj => ?_, fun x hx => ?_⟩
  · obtain ⟨hlt, he⟩ := List.getElem?_eq_some_iff.1 hj
    simp only [List.length_map, List.length_range] at hlt
    simp only [List.getElem_map, List.getElem_range] at he
    obtain ⟨_, v, h2, _⟩ := h j _ (List.getElem?_eq_getElem hlt)
    rw [h2] at he ⊢
    simpa using he
  · have hlt : j < xs.length := (List.getElem?_eq_some_iff.1 hj).1
    obtain ⟨_, v, h2, h3⟩ := h j x hj
    have : ((List.range xs.length).map fun j => (w.cell? ⟨g, o + j, none⟩).getD undef).getD j undef = v := by
      simp [List.getD, List.getElem?_map, hlt, h2]
    rw [this]; exact h3
  · obtain ⟨j, hj⟩ := List.getElem?_of_mem hx
    exact (h j x hj).1

section
variable {P : Program} {T : Nat → Option Ty}

theorem run_isAgg {ty : Nat} {τ : Ty} (hτ : TyOk P ty τ) (w : World) : (isAgg ty).run P w = .ok τ.ds.isA w := by
  obtain ⟨d, i, z, h1, h2, h3, h4, h5, h6, h7⟩ := hτ.get
  rw [← h2]
  simp only [isAgg, Sem.run_bind, run_underlying h1, Result.andThen_ok]
  cases d <;> rfl

theorem run_sizeOf {ty : Nat} {τ : Ty} (hτ : TyOk P ty τ) (w : World) : (sizeOf ty).run P w = .ok τ.size w := by
  obtain ⟨d, i, z, h1, h2, h3, h4, h5, h6, h7⟩ := hτ.get
  simp [Go.sizeOf, typeInfo, h3, h4]

theorem run_zeroValue {ty : Nat} {τ : Ty} (hτ : TyOk P ty τ) (w : World) : ∃ z, (zeroValue ty).run P w = .ok z w ∧ z.cells = τ.zero.toArray := by
  obtain ⟨d, i, z, h1, h2, h3, h4, h5, h6, h7⟩ := hτ.get
  exact ⟨z, by simp [zeroValue, typeInfo, h3, h6], h7⟩

theorem run_loadVar' {ty : Nat} {τ : Ty} (hτ : TyOk P ty τ) (w : World) (g o : Nat) (us : List Value) (hl : us.length = τ.size) (hc : ∀ j u, us[j]? = some u → w.cell? ⟨g, o + j, none⟩ = some u)
    (h1 : τ.ds.isA = false → us.length = 1) : (loadVar ty ⟨g, o, none⟩).run P w = .ok (if τ.ds.isA then .agg us.toArray else us.getD 0 undef) w := by
  simp only [loadVar, Sem.run_bind, run_isAgg hτ, Result.andThen_ok]
  cases ha : τ.ds.isA with
  | true =>
    have := run_loadCells_list (P := P) w ⟨g, o, none⟩ us (fun j v hj => by rw [add_mk]; exact hc j v hj)
    rw [hl] at this
    simp [run_sizeOf hτ, this]
  | false =>
    have hl1 := h1 ha
    match us, hl1 with
    | [u], _ =>
      have := hc 0 u rfl
      simp only [Nat.add_zero] at this
      simp [run_load, this]

variable {N : Nat} {M : Nat → Prop} {L : Lent} {w0 : World} {blk : Nat → Option (Nat × Nat)} {V : Nat → Nat → Prop} {t : Nat → D} {h : Nat → Option Row} {a : Act} {w : World} {e : Nat} {o : Oper} {Γ : Env}

/-- What an operation leaves. -/
def After (N : Nat) (M : Nat → Prop) (L : Lent) (w0 : World) (V : Nat → Nat → Prop) (t : Nat → D) (h : Nat → Option Row) (a : Act) (e : Nat) (dst : Option Nat) (E : Eff) (v : Value) (w' : World) : Prop :=
  ∃ blk', Inv N M L w0 blk' (fun x n => V x n ∨ (dst = some x ∧ n = e)) t (applyH h E.hw) a w' ∧
    RT w' (Own M (applyH h E.hw) blk') (applyH h E.hw) blk' (fun x n => V x n ∨ (dst = some x ∧ n = e)) E.val v

theorem After.pure_ (hI : Inv N M L w0 blk V t h a w) {d : D} {v : Value} {dst : Option Nat} (hr : RT w (Own M h blk) h blk V d v) : After N M L w0 V t h a e dst ⟨d, []⟩ v w :=
  ⟨blk, hI.weaken fun _ _ h => .inl h, hr.mono ⟨fun _ h1 h2 => ⟨h1, h2, rfl⟩, fun _ _ h => .inl h, fun _ _ _ r' h1 h2 => ⟨⟨r', h1, h2⟩, rfl, fun _ _ => rfl⟩⟩⟩

theorem After.freeze_ (hI : Inv N M L w0 blk V t h a w) {d : D} {v : Value} {dst : Option Nat} (fr : List Nat) (hr : RP w (Own M (applyH h (frz h fr)) blk) d v) : After N M L w0 V t h a e dst ⟨d, frz h fr⟩ v w :=
  ⟨blk, (hI.freeze fr).weaken fun _ _ h => .inl h, RT_of_RP hr⟩

theorem does_value {v : Value} {w' : World} {Φ : Value → World → Prop} (hr : (execOp a.eval o).run P w = .ok (.value v) w') (hp : Φ v w') : Does P o a w Φ := .inl ⟨v, w', hr, hp⟩

theorem does_move (hI : Inv N M L w0 blk V t h a w) {x : Operand} (ho : o.op = .move x ∨ o.op = .assign x) : Does P o a w (After N M L w0 V t h a e o.dst ⟨ev t x, []⟩) := by
  refine does_value (v := a.eval x) (w' := w) ?_ (After.pure_ hI (hI.ev x))
  rcases ho with ho | ho <;> simp [execOp, ho]

/-- A slice that is assigned to a variable: its row moves. -/
theorem does_assign (hI : Inv N M L w0 blk V t h a w) {ty : Nat} {x : Operand} {E : Eff} (ho : o.op = .assign x) (hV : ∀ d, o.dst = some d → ¬ V d e) (hE : effAssign T ty e o.dst h (ev t x) = some E) : Does P o a w (After N M L w0 V t h a e o.dst E) := by
  have hp := hI.ev x
  have hstay : E = ⟨ev t x, []⟩ → Does P o a w (After N M L w0 V t h a e o.dst E) := fun h => by subst h; exact does_move hI (.inr ho)
  generalize ev t x = q at *
  have hrun : (execOp a.eval o).run P w = .ok (.value (a.eval x)) w := by simp [execOp, ho]
  cases q with
  | buf y v s c n =>
    simp only [effAssign] at hE
    split at hE
    · rename_i d r hd hl
      split at hE
      · simp only [Option.some.injEq] at hE
        exact hstay hE.symm
      · rename_i hz
        simp only [Bool.not_eq_true] at hz
        simp only [Option.some.injEq] at hE
        subst hE
        obtain ⟨hy, hv⟩ := live_some hl
        have hI' := hI.adopt (w' := w) (h1 := forget h (some y)) (old := some y) (d := d) (e := e) (ty := r.ty) (lst := r.lst) (fz := r.fz) (hfz := hz) (go := blk y) (cs := r.cells) rfl rfl rfl (Nat.le_refl _) (fun _ _ _ => rfl)
          (fun y' hy' => by cases hy'; exact ⟨r, hy, hz⟩) rfl (hV d hd) (by
            have := (hI.rows y r hy).2
            cases hg : blk y with
            | none => rw [hg] at this; exact this
            | some g =>
              rw [hg] at this
              have k0 := this.2
              unfold RowIs at k0
              rw [live_mp hl] at k0
              obtain ⟨cs, k1, k2, k3⟩ := k0
              exact ⟨.inr ⟨y, g, rfl, hg, rfl⟩, cs, k1, k2, k3⟩)
        have e1 : ({ r with v := e } : Row) = ⟨e, r.ty, r.cells, r.fz, r.lst, false⟩ := by rw [← live_mp hl]
        rw [e1]
        refine does_value hrun ⟨upd blk d (blk y), ?_, ?_⟩
        · show Inv _ _ _ _ _ _ _ (upd (upd h y none) d (some _)) _ _
          refine hI'.weaken fun x v hx => ?_
          rcases hx with hx | ⟨rfl, rfl⟩
          · exact .inl hx
          · exact .inr ⟨hd, rfl⟩
        · refine ⟨.inr ⟨hd, rfl⟩, fun r' _ _ => ?_⟩
          rw [upd_same]
          exact hp.2 r hy hv
    · simp only [Option.some.injEq] at hE
      subst hE
      exact does_value hrun ⟨blk, hI.weaken fun _ _ h => .inl h, trivial⟩
  | sl nl tight n xs =>
    unfold effAssign at hE
    split at hE
    · rename_i hq; cases hq
    · rename_i hq
      cases hq
      split at hE
      · rename_i d τ hd hτ
        split at hE
        · rename_i el hds
          split at hE
          · rename_i φ hφ
            simp only [Option.some.injEq] at hE
            subst hE
            have hu : a.eval x = .slice none 0 0 := by
              have hp' : RP w (Own M h blk) (.sl true true 0 []) (a.eval x) := hp
              generalize a.eval x = u at *
              cases hp' with
              | sl A c nl tight n xs us h1 h2 h3 h4 h5 h6 h7 h8 => obtain ⟨rfl, rfl⟩ := (h3 rfl).1 rfl; rfl
            have hI' := hI.adopt (w' := w) (h1 := forget h none) (old := none) (d := d) (e := e) (ty := el) (lst := true) (fz := false) (go := none) (cs := []) rfl rfl rfl (Nat.le_refl _) (fun _ _ _ => rfl)
              (fun y' hy' => by cases hy') rfl (hV d hd) rfl
            refine does_value hrun ⟨upd blk d none, ?_, ?_⟩
            · refine hI'.weaken fun x v hx => ?_
              rcases hx with hx | ⟨rfl, rfl⟩
              · exact .inl hx
              · exact .inr ⟨hd, rfl⟩
            · refine ⟨.inr ⟨hd, rfl⟩, fun r' _ _ => .inr ⟨upd_same _ _ _, rfl, none, hu⟩⟩
          · cases hE
        · cases hE
      · cases hE
    · simp only [Option.some.injEq] at hE
      exact hstay hE.symm
  | _ => exact hstay (by simp only [effAssign, Option.some.injEq] at hE; exact hE.symm)

theorem does_asg (hI : Inv N M L w0 blk V t h a w) {ty : Nat} {q : Nat → Bool} {x : Operand} {E : Eff} (ho : o.op = .assign x) (hV : ∀ d, o.dst = some d → ¬ V d e) (hE : effAsg T q ty e o.dst h (ev t x) = some E) : Does P o a w (After N M L w0 V t h a e o.dst E) := by
  have hx := hI.ev x
  unfold effAsg at hE
  split at hE
  · rename_i d hd
    split at hE
    · rw [← hd] at hE
      exact does_assign hI ho hV hE
    · unfold effClean at hE
      split at hE
      · rename_i d' fr hc
        simp only [Option.some.injEq] at hE
        subst hE
        exact does_value (v := a.eval x) (w' := w) (by simp [execOp, ho]) (After.freeze_ hI fr (hI.clean2 hc (hI.less_freeze fr) hx).canonA)
      · cases hE
  · rename_i hd
    rw [← hd] at hE
    exact does_assign hI ho hV hE

theorem RT_bool {b : Bool} {u : Value} {h : Nat → Option Row} (hr : RT w M h blk V (.bool b) u) : u = .bool b := by
  have h' : RP w M (.bool b) u := hr
  cases h'; rfl
theorem RT_int {k : IntKind} {n : Int} {u : Value} {h : Nat → Option Row} (hr : RT w M h blk V (.int k n) u) : u = .int k n := by
  have h' : RP w M (.int k n) u := hr
  cases h'; rfl
theorem RT_str {s : ByteArray} {u : Value} {h : Nat → Option Row} (hr : RT w M h blk V (.str s) u) : u = .string s := by
  have h' : RP w M (.str s) u := hr
  cases h'; rfl

theorem does_pick (hI : Inv N M L w0 blk V t h a w) {c x y : Operand} {b : Bool} (ho : o.op = .pick c x y) (hc : ev t c = .bool b) : Does P o a w (After N M L w0 V t h a e o.dst ⟨ev t (if b then x else y), []⟩) := by
  refine does_value (v := a.eval (if b then x else y)) (w' := w) ?_ (After.pure_ hI (hI.ev _))
  have h1 := hI.ev c
  rw [hc] at h1
  have h2 := RT_bool h1
  cases b <;> simp [execOp, ho, h2, asBool]

theorem zeros_ok (zs : List Value) (hz : (zs.map ofV).all plainC = true) {w : World} {M : Nat → Prop} (j : Nat) (x : D) (hj : (zs.map ofV)[j]? = some x) : plainC x = true ∧ RP w M x (zs.toArray.getD j undef) := by
  have hp : plainC x = true := by
    rw [List.all_eq_true] at hz
    exact hz x (List.mem_of_getElem? hj)
  refine ⟨hp, ?_⟩
  rw [List.getElem?_map] at hj
  cases hv : zs[j]? with
  | none => simp [hv] at hj
  | some v =>
    simp only [hv, Option.map_some, Option.some.injEq] at hj
    subst hj
    have hv' : zs.toArray.getD j undef = v := by simp [hv]
    rw [hv']
    have := RT_ofV w M (fun _ => none) (fun _ => none) (fun _ _ => True) v
    generalize ofV v = d at *
    cases d <;> first | exact this | simp [plainC] at hp

theorem RT_ptr_new {d e : Nat} {g : Nat × Nat} {o : Nat} {V' : Nat → Nat → Prop} {h' : Nat → Option Row} {blk' : Nat → Option (Nat × Nat)} (hV : V' d e) (hb : blk' d = some g) : RT w M h' blk' V' (.ptr d e o) (.pointer (some ⟨g.1, g.2 + o, none⟩)) :=
  ⟨hV, fun _ _ _ => ⟨g, hb, rfl⟩⟩

theorem does_alloc {hint : Nat → Option Nat} (hT : TOk P T) (hI : Inv N M L w0 blk V t h a w) {ty d : Nat} {τ : Ty} (ho : o.op = .alloc ty) (hd : o.dst = some d) (hτ : T ty = some τ) (hV : ¬ V d e) (hz : (τ.zero.map ofV).all plainC = true) :
    Does P o a w (After N M L w0 V t h a e o.dst ⟨match hint d with | some y => .pm d e y | none => .ptr d e 0, [(d, some ⟨e, ty, τ.zero.map ofV, false, false, false⟩)]⟩) := by
  obtain ⟨z, hz1, hz2⟩ := run_zeroValue (hT ty τ hτ) w
  have hI' := hI.alloc (d := d) (e := e) (ty := ty) (lst := false) (cs := τ.zero.map ofV) (vs := τ.zero.toArray) hV (by simp) (fun j x hj => zeros_ok τ.zero hz j x hj)
  refine does_value (v := .pointer (some ⟨w.heap.size, 0, none⟩)) (w' := w.alloc (.cells τ.zero.toArray ty)) ?_ ⟨upd blk d (some (w.heap.size, 0)), ?_, ?_⟩
  · simp [execOp, ho, Instr.alloc, hz1, newVar, newRow, hz2]
  · refine hI'.weaken fun x v hx => ?_
    rcases hx with hx | ⟨rfl, rfl⟩
    · exact .inl hx
    · exact .inr ⟨hd, rfl⟩
  · cases hint d with
    | none => exact RT_ptr_new (g := (w.heap.size, 0)) (o := 0) (.inr ⟨hd, rfl⟩) (upd_same _ _ _)
    | some y => exact ⟨.inr ⟨hd, rfl⟩, fun _ _ _ => ⟨(w.heap.size, 0), upd_same _ _ _, rfl⟩⟩

theorem frz_notin {fr : List Nat} {x : Nat} (hx : fr.contains x = false) : applyH h (frz h fr) x = h x := by
  rw [frz_at, if_neg (by simpa using hx)]

theorem does_box (hI : Inv N M L w0 blk V t h a w) {ty d : Nat} {x : Operand} {cs : List D} {fr : List Nat} (ho : o.op = .box ty x) (hd : o.dst = some d) (hV : ¬ V d e) (hc : cellsV h (ev t x) = some (cs, fr)) :
    Does P o a w (After N M L w0 V t h a e o.dst ⟨.ptr d e 0, frz h fr ++ [(d, some ⟨e, ty, cs, false, false, false⟩)]⟩) := by
  obtain ⟨h1, h2⟩ := hI.cellsV hc (hI.less_freeze fr) (hI.ev x)
  have hI' := (hI.freeze fr).alloc (d := d) (e := e) (ty := ty) (lst := false) (cs := cs) (vs := (a.eval x).cells) hV (by omega) h2
  refine does_value (v := .pointer (some ⟨w.heap.size, 0, none⟩)) (w' := w.alloc (.cells (a.eval x).cells ty)) ?_ ⟨upd blk d (some (w.heap.size, 0)), ?_, ?_⟩
  · simp [execOp, ho, Instr.box, newVar, newRow]
  · show Inv _ _ _ _ _ _ _ (applyH h (frz h fr ++ [(d, some ⟨e, ty, cs, false, false, false⟩)])) _ _
    rw [applyH_one]
    refine hI'.weaken fun x v hx => ?_
    rcases hx with hx | ⟨rfl, rfl⟩
    · exact .inl hx
    · exact .inr ⟨hd, rfl⟩
  · exact RT_ptr_new (g := (w.heap.size, 0)) (o := 0) (.inr ⟨hd, rfl⟩) (upd_same _ _ _)

/-- The cells of an own row. -/
theorem Inv.rowAt (hI : Inv N M L w0 blk V t h a w) {x : Nat} {r : Row} {g : Nat × Nat} (hx : h x = some r) (hg : blk x = some g) (hmp : r.mp = false) : At w (Own M h blk) g.1 g.2 r.cells := by
  obtain ⟨cs, h3, h4, h5⟩ := hI.lies hx hg hmp
  intro j d hj
  have hlt := (List.getElem?_eq_some_iff.1 hj).1
  exact ⟨(h5 j d hj).1, cs.getD (g.2 + j) undef, cell_of_cells h3 (by omega), (h5 j d hj).2⟩

/-- The cells behind a pointer to data. -/
theorem RP.ipAt {M' : Nat → Prop} {xs : List D} {u : Value} (hr : RP w M' (.ip xs) u) : ∃ ad, u = .pointer (some ad) ∧ (xs ≠ [] → ∃ b o, ad = ⟨b, o, none⟩ ∧ At w M' b o xs) := by
  cases hr with
  | ip xs ad us h6 h7 h8 =>
    refine ⟨ad, rfl, fun hne => ?_⟩
    obtain ⟨b, o, rfl, _, _, g3⟩ := h6 hne
    exact ⟨b, o, rfl, fun j x hj => ⟨h8 x (List.mem_of_getElem? hj), us j, g3 j (List.getElem?_eq_some_iff.1 hj).1, h7 j x hj⟩⟩

theorem does_loadAt (hT : TOk P T) (hI : Inv N M L w0 blk V t h a w) {ty : Nat} {p : Operand} {τ : Ty} {g c : Nat} {xs : List D} {d : D} (ho : o.op = .load ty p) (hτ : T ty = some τ) (hp : a.eval p = .pointer (some ⟨g, c, none⟩))
    (hat : At w (Own M h blk) g c xs) (hl : xs.length = τ.size) (hd : loadD τ xs = some d) : Does P o a w (After N M L w0 V t h a e o.dst ⟨d, []⟩) := by
  obtain ⟨us, h1, h2, h3, h4⟩ := hat.vals
  have hone : τ.ds.isA = false → xs.length = 1 ∧ xs = [d] := by
    intro hf
    simp only [loadD, hf, Bool.false_eq_true, if_false] at hd
    split at hd
    · simp only [Option.some.injEq] at hd; subst hd; exact ⟨rfl, rfl⟩
    · cases hd
  have hrun := run_loadVar' (hT ty τ hτ) w g c us (by rw [h1, hl]) h2 (fun hf => by rw [h1]; exact (hone hf).1)
  refine does_value (v := if τ.ds.isA then .agg us.toArray else us.getD 0 undef) (w' := w) ?_ (After.pure_ hI ?_)
  · simp [execOp, ho, Instr.loadAt, Instr.sureAddr, hp, hrun]
  · refine RT_of_RP ?_
    cases ha : τ.ds.isA with
    | true =>
      simp only [loadD, ha, if_true, Option.some.injEq] at hd
      subst hd
      exact .agg xs us h1 h3 h4
    | false =>
      obtain ⟨_, rfl⟩ := hone ha
      exact h3 0 d rfl

theorem does_loadAli (hT : TOk P T) (hI : Inv N M L w0 blk V t h a w) {ty : Nat} {p : Operand} {τ : Ty} {x c : Nat} {r : Row} {g : Nat × Nat} {d : D} (ho : o.op = .load ty p) (hτ : T ty = some τ) (hp : a.eval p = .pointer (some ⟨g.1, g.2 + c, none⟩))
    (hx : h x = some r) (hmp : r.mp = false) (hz : r.fz = true) (hl : r.lst = false) (hg : blk x = some g) (hle : c + τ.size ≤ r.cells.length) (hd : aliD τ.ds.isA ((r.cells.drop c).take τ.size) = some d) : Does P o a w (After N M L w0 V t h a e o.dst ⟨d, []⟩) := by
  have hlen : ((r.cells.drop c).take τ.size).length = τ.size := by simp; omega
  generalize hcs : (r.cells.drop c).take τ.size = cs at hd hlen
  unfold aliD at hd
  split at hd
  · rename_i y v s o' n
    simp only [Option.some.injEq] at hd
    have hs1 : τ.size = 1 := by simpa using hlen.symm
    have hj : r.cells[c]? = some (.ali y v s o' n) := by
      have : ((r.cells.drop c).take τ.size)[0]? = some (.ali y v s o' n) := by rw [hcs]; rfl
      rw [getElem?_drop_take, if_pos (by omega)] at this
      simpa using this
    obtain ⟨u, h1, h2⟩ := hI.ali x r g hx hz hl hg c _ (.buf y v s o' n) hj rfl
    have hrun := run_loadVar' (hT ty τ hτ) w g.1 (g.2 + c) [u] (by simpa using hs1.symm) (fun j v hj => by
      cases j with
      | zero => simp only [List.getElem?_cons_zero, Option.some.injEq] at hj; subst hj; simpa using h1
      | succ j => simp at hj) (fun _ => rfl)
    refine does_value (v := if τ.ds.isA then .agg [u].toArray else [u].getD 0 undef) (w' := w) ?_ (After.pure_ hI ?_)
    · simp [execOp, ho, Instr.loadAt, Instr.sureAddr, hp, hrun]
    · cases hA : τ.ds.isA with
      | false =>
        rw [hA] at hd
        simp only [Bool.false_eq_true, if_false] at hd
        subst hd
        exact h2
      | true =>
        rw [hA] at hd
        simp only [if_true] at hd
        subst hd
        obtain ⟨_, u2, c2, r2⟩ := hI.rowAt hx hg hmp c _ hj
        rw [h1] at c2
        cases c2
        exact ⟨u, rfl, r2.oneCell rfl, h2⟩
  · cases hd

theorem does_load (hT : TOk P T) (hI : Inv N M L w0 blk V t h a w) {ty : Nat} {p : Operand} {τ : Ty} {E : Eff} (ho : o.op = .load ty p) (hτ : T ty = some τ) (hE : effLoad τ h (ev t p) = some E) : Does P o a w (After N M L w0 V t h a e o.dst E) := by
  have hp := hI.ev p
  generalize ev t p = q at *
  cases q with
  | ptr x v c =>
    simp only [effLoad] at hE
    split at hE
    · rename_i r hl
      split at hE
      · rename_i hle
        split at hE
        · rename_i d hd
          simp only [Option.some.injEq] at hE
          subst hE
          obtain ⟨hx, hv⟩ := live_some hl
          obtain ⟨g, hg, hp'⟩ := hp.2 r hx hv
          have := ((hI.rowAt hx hg (live_mp hl)).drop c).take τ.size
          exact does_loadAt hT hI ho hτ hp' this (by simp; omega) hd
        · cases hE
      · cases hE
    · cases hE
  | ip xs =>
    simp only [effLoad] at hE
    split at hE
    · rename_i hle
      split at hE
      · rename_i d hd
        simp only [Option.some.injEq] at hE
        subst hE
        obtain ⟨ad, h1, h2⟩ := RP.ipAt (M' := Own M h blk) hp
        by_cases hne : xs = []
        · subst hne
          have hz : τ.size = 0 := by simpa using hle
          have hA : τ.ds.isA = true := by
            cases hA : τ.ds.isA with
            | true => rfl
            | false => simp [loadD, hA] at hd
          have hsz := run_sizeOf (hT ty τ hτ) w
          refine does_value (v := .agg #[]) (w' := w) ?_ (After.pure_ hI ?_)
          · simp [execOp, ho, Instr.loadAt, Instr.sureAddr, h1, loadVar, run_isAgg (hT ty τ hτ), hA, hsz, hz, loadCells, loadCellsFrom]
          · simp only [loadD, hA, if_true, List.take_nil, Option.some.injEq] at hd
            subst hd
            exact RT_of_RP (.agg [] [] rfl (fun j x hj => by simp at hj) (fun x hx => by simp at hx))
        · obtain ⟨b, c, rfl, g3⟩ := h2 hne
          exact does_loadAt hT hI ho hτ h1 (At.take g3 _) (by simp; omega) hd
      · cases hE
    · cases hE
  | _ => simp [effLoad] at hE

theorem does_ld (hT : TOk P T) (hI : Inv N M L w0 blk V t h a w) {ty : Nat} {p : Operand} {τ : Ty} {E : Eff} (ho : o.op = .load ty p) (hτ : T ty = some τ) (hE : effLd τ h (ev t p) = some E) : Does P o a w (After N M L w0 V t h a e o.dst E) := by
  have hp := hI.ev p
  have hold := does_load (P := P) (o := o) (e := e) (E := E) hT hI ho hτ
  generalize ev t p = q at *
  cases q with
  | ptr x v c =>
    simp only [effLd] at hE
    cases hl : live h x v with
    | none => rw [hl] at hE; cases hE
    | some r =>
      rw [hl] at hE
      simp only [effLdR] at hE
      split at hE
      · rename_i hfl
        simp only [Bool.and_eq_true, Bool.not_eq_true'] at hfl
        split at hE
        · rename_i hle
          split at hE
          · rename_i d had
            simp only [Option.some.injEq] at hE
            subst hE
            obtain ⟨hx, hv⟩ := live_some hl
            obtain ⟨g, hg, hp'⟩ := hp.2 r hx hv
            exact does_loadAli hT hI ho hτ hp' hx (live_mp hl) hfl.1 hfl.2 hg hle had
          · exact hold hE
        · cases hE
      · exact hold hE
  | pm x v y =>
    simp only [effLd] at hE
    split at hE
    · rename_i r hl
      split at hE
      · rename_i y' v' hcs
        split at hE
        · rename_i hcond
          obtain ⟨c1, c2, c3, c4⟩ := hcond
          simp only [Option.some.injEq] at hE
          subst hE
          obtain ⟨hx, hv⟩ := live_some hl
          obtain ⟨g, hg, hp'⟩ := hp.2 r hx hv
          obtain ⟨u, h1, h2⟩ := hI.ali x r g hx c1 c2 hg 0 (.alm y' v') (.mp y' v') (by rw [hcs]; rfl) rfl
          have hrun := run_loadVar' (hT ty τ hτ) w g.1 (g.2 + 0) [u] (by simpa using c3.symm) (fun j v hj => by
            cases j with
            | zero => simp only [List.getElem?_cons_zero, Option.some.injEq] at hj; subst hj; simpa using h1
            | succ j => simp at hj) (fun _ => rfl)
          refine does_value (v := u) (w' := w) ?_ (After.pure_ hI h2)
          rw [c4] at hrun
          simp only [Nat.add_zero] at hrun hp'
          simp [execOp, ho, Instr.loadAt, Instr.sureAddr, hp', hrun]
        · cases hE
      · cases hE
    · cases hE
  | _ => exact hold hE

theorem splice_getD (cur : Array Value) (us : List Value) (c j : Nat) (hle : c + us.length ≤ cur.size) :
    (cur.toList.take c ++ us ++ cur.toList.drop (c + us.length)).toArray.getD j undef = if j < c then cur.getD j undef else if j < c + us.length then us.getD (j - c) undef else cur.getD j undef := by
  have hmin : min c cur.size = c := by omega
  simp only [Array.getD_eq_getD_getElem?, List.getElem?_toArray, List.getD_eq_getElem?_getD]
  by_cases h1 : j < c
  · rw [if_pos h1, List.getElem?_append_left (by simp; omega), List.getElem?_append_left (by simp; omega), List.getElem?_take, if_pos h1]
    simp
  · rw [if_neg h1]
    by_cases h2 : j < c + us.length
    · rw [if_pos h2, List.getElem?_append_left (by simp; omega), List.getElem?_append_right (by simp; omega)]
      simp [hmin]
    · rw [if_neg h2, List.getElem?_append_right (by simp; omega), List.getElem?_drop]
      have : c + us.length + (j - (List.take c cur.toList ++ us).length) = j := by simp; omega
      rw [this]
      simp

theorem putCells_at {cells cs : List D} {c j : Nat} (hle : c + cs.length ≤ cells.length) : (putCells cells c cs)[j]? = if j < c then cells[j]? else if j < c + cs.length then cs[j - c]? else cells[j]? := by
  have hmin : min c cells.length = c := by omega
  unfold putCells
  by_cases h1 : j < c
  · rw [if_pos h1, List.getElem?_append_left (by simp; omega), List.getElem?_append_left (by simp; omega), List.getElem?_take, if_pos h1]
  · rw [if_neg h1]
    by_cases h2 : j < c + cs.length
    · rw [if_pos h2, List.getElem?_append_left (by simp; omega), List.getElem?_append_right (by simp; omega)]
      simp [hmin]
    · rw [if_neg h2, List.getElem?_append_right (by simp; omega), List.getElem?_drop]
      congr 1
      simp; omega

theorem length_putCells {cells cs : List D} {c : Nat} (hle : c + cs.length ≤ cells.length) : (putCells cells c cs).length = cells.length := by
  simp [putCells]; omega

/-- Cells and values, spliced alike; b: where in the block the cells begin. -/
theorem spliced {w : World} {M : Nat → Prop} {cells cs : List D} {cur : Array Value} {us : List Value} {b c : Nat} (hle : c + cs.length ≤ cells.length) (hus : us.length = cs.length) (hcur : b + cells.length ≤ cur.size)
    (h5 : ∀ j d, cells[j]? = some d → plainC d = true ∧ RP w M d (cur.getD (b + j) undef)) (u2 : ∀ j d, cs[j]? = some d → plainC d = true ∧ RP w M d (us.getD j undef)) (j : Nat) (d : D) (hj : (putCells cells c cs)[j]? = some d) :
    plainC d = true ∧ RP w M d ((cur.toList.take (b + c) ++ us ++ cur.toList.drop (b + c + us.length)).toArray.getD (b + j) undef) := by
  rw [putCells_at hle] at hj
  rw [splice_getD _ _ _ _ (by omega), hus]
  split
  · rename_i h1
    rw [if_pos (by omega)] at hj
    exact h5 j d hj
  · rename_i h1
    rw [if_neg (by omega)] at hj
    split
    · rename_i h2
      rw [if_pos (by omega)] at hj
      have : b + j - (b + c) = j - c := by omega
      rw [this]
      exact u2 _ d hj
    · rename_i h2
      rw [if_neg (by omega)] at hj
      exact h5 j d hj

theorem length_plainIn (b : Bool) (cs : List D) : (plainIn b cs).length = cs.length := by cases b <;> simp [plainIn]
theorem plainIn_ok {w : World} {M : Nat → Prop} {cs : List D} {us : List Value} {b : Bool} (u2 : ∀ j d, cs[j]? = some d → plainC d = true ∧ RP w M d (us.getD j undef)) (j : Nat) (d : D) (hj : (plainIn b cs)[j]? = some d) : plainC d = true ∧ RP w M d (us.getD j undef) := by
  cases b with
  | false => exact u2 j d hj
  | true =>
    simp only [plainIn, if_true, List.getElem?_map, Option.map_eq_some_iff] at hj
    obtain ⟨x, hx, rfl⟩ := hj
    obtain ⟨k1, k2⟩ := u2 j x hx
    exact ⟨by rw [plainC_canon]; exact k1, k2.canon⟩

theorem does_store (hT : TOk P T) (hI : Inv N M L w0 blk V t h a w) {ty : Nat} {p x : Operand} {τ : Ty} {E : Eff} (ho : o.op = .store ty p x) (hτ : T ty = some τ) (hE : effStore τ h (ev t p) (ev t x) = some E) : Does P o a w (After N M L w0 V t h a e o.dst E) := by
  have hp := hI.ev p
  have hq := hI.ev x
  generalize ev t p = q at *
  generalize ev t x = z at *
  cases q with
  | ptr y v c =>
    simp only [effStore] at hE
    split at hE
    · rename_i r hl
      split at hE
      · rename_i cs fr hc
        split at hE
        · rename_i hcond
          obtain ⟨c1, c2, c3, c4⟩ := hcond
          simp only [Option.some.injEq] at hE
          subst hE
          obtain ⟨hx, hv⟩ := live_some hl
          obtain ⟨g, hg, hp'⟩ := hp.2 r hx hv
          have hx' : applyH h (frz h fr) y = some r := by rw [frz_notin c4]; exact hx
          have hIf := hI.freeze fr
          obtain ⟨u1, u2⟩ := hI.cellsV hc (hI.less_freeze fr) hq
          obtain ⟨cur, h3, h4, h5⟩ := hIf.lies hx' hg (live_mp hl)
          have hrun := run_storeCells_at P g.1 (g.2 + c) r.ty (a.eval x).cells.toList 0 cur w h3 (by simp only [Array.length_toList]; omega) (fun v hv => by
            obtain ⟨j, hj⟩ := List.getElem?_of_mem hv
            have hjl := (List.getElem?_eq_some_iff.1 hj).1
            simp only [Array.length_toList] at hjl
            obtain ⟨q1, q2⟩ := u2 j _ (List.getElem?_eq_getElem (by omega))
            have : (a.eval x).cells.getD j undef = v := by simp at hj; simp [hj]
            rw [this] at q2
            exact q2.oneCell q1)
          rw [Nat.add_zero] at hrun
          have hul : (a.eval x).cells.toList.length = cs.length := by simp only [Array.length_toList]; exact u1
          have hlen : (cur.toList.take (g.2 + c) ++ (a.eval x).cells.toList ++ cur.toList.drop (g.2 + c + (a.eval x).cells.toList.length)).toArray.size = cur.size := by
            simp; omega
          have hpl := length_plainIn r.lst cs
          have hw := hIf.write hx' c3 hg (live_mp hl) (cs := putCells r.cells c (plainIn r.lst cs)) h3 hlen (by rw [hlen, length_putCells (by omega)]; exact h4)
            (fun j d hj => spliced (by omega) (by omega) h4 h5 (plainIn_ok (fun j d hj => by simpa [List.getD] using u2 j d hj)) j d hj)
          refine .inr (.inl ⟨w.setRow g.1 (cur.toList.take (g.2 + c) ++ (a.eval x).cells.toList ++ cur.toList.drop (g.2 + c + (a.eval x).cells.toList.length)).toArray, ?_, blk, ?_, trivial⟩)
          · have hsz : (a.eval x).cells.size = τ.size := by omega
            simp [execOp, ho, Instr.storeAt, Instr.sureAddr, hp', storeVar, run_sizeOf (hT ty τ hτ), hsz, hrun]
          · rw [applyH_one]
            exact hw.weaken fun _ _ h => .inl h
        · cases hE
      · cases hE
    · cases hE
  | _ => simp [effStore] at hE

/-- A cell of a variable is written that stands for something of ours. -/
theorem does_stoA (hT : TOk P T) (hI : Inv N M L w0 blk V t h a w) {ty : Nat} {p x : Operand} {τ : Ty} {y : Nat} {r : Row} {g : Nat × Nat} {c d : D} {u' : Value} (ho : o.op = .store ty p x) (hτ : T ty = some τ) (c1 : τ.size = 1) (c3 : r.cells.length = 1) (c4 : r.fz = false) (hmp : r.mp = false)
    (hx : h y = some r) (hg : blk y = some g) (hp' : a.eval p = .pointer (some ⟨g.1, g.2 + 0, none⟩)) (hu : (a.eval x).cells = #[u']) (hone : u'.oneCell' = true) (hc : alD c = some d) (hpl : plainC c = true) (hrp : ∀ w' M', RP w' M' c u') (hq2 : RT w (Own M h blk) h blk V d u') :
    Does P o a w (After N M L w0 V t h a e o.dst ⟨.und, [(y, some ⟨r.v, r.ty, [c], true, false, false⟩)]⟩) := by
  obtain ⟨cur, h3, h4, h5⟩ := hI.lies hx hg hmp
  have hrun := run_storeCells_at P g.1 (g.2 + 0) r.ty [u'] 0 cur w h3 (by simp; omega) (fun v hv => by
    simp only [List.mem_singleton] at hv
    subst hv
    exact hone)
  rw [Nat.add_zero] at hrun
  have hsize : cur.size = (cur.toList.take (g.2 + 0) ++ [u'] ++ cur.toList.drop (g.2 + 0 + [u'].length)).toArray.size := by simp; omega
  have hcu : (cur.toList.take (g.2 + 0) ++ [u'] ++ cur.toList.drop (g.2 + 0 + [u'].length)).toArray.getD g.2 undef = u' := by
    simp only [Array.getD_eq_getD_getElem?]
    have : (cur.toList.take g.2).length = g.2 := by simp; omega
    simp [List.getElem?_append, this]
  generalize hnv : (cur.toList.take (g.2 + 0) ++ [u'] ++ cur.toList.drop (g.2 + 0 + [u'].length)).toArray = nv at hrun hsize hcu
  have hnew : (w.setRow g.1 nv).heap[g.1]? = some (.cells nv r.ty (0, 0)) := setRow_heap w g.1 cur nv r.ty (0, 0) h3
  have hhs : (w.setRow g.1 nv).heap.size = w.heap.size := by simp [World.setRow]
  have hheap : ∀ b, b ≠ g.1 → (w.setRow g.1 nv).heap[b]? = w.heap[b]? := by
    intro b hb
    simp only [World.setRow, Array.getElem?_modify]
    rw [if_neg (Ne.symm hb)]
  have hw := hI.rewrite (fz := true) (lst := false) (cs := [c]) (w' := w.setRow g.1 nv) hx c4 rfl rfl rfl (by rw [hhs]; exact Nat.le_refl _) (fun b _ hb => hheap b (hb g hg)) (by
    rw [hg]
    refine ⟨by simp [World.shape?, hnew, h3, hsize], nv, hnew, by simp; omega, fun j d hj => ?_⟩
    cases j with
    | zero =>
      simp only [List.getElem?_cons_zero, Option.some.injEq] at hj
      subst hj
      rw [Nat.add_zero, hcu]
      exact ⟨hpl, hrp _ _⟩
    | succ j => simp at hj) (fun _ _ g' hg' j c' d' hj hd' => by
    rw [hg] at hg'
    cases hg'
    cases j with
    | zero =>
      simp only [List.getElem?_cons_zero, Option.some.injEq] at hj
      subst hj
      rw [hc] at hd'
      cases hd'
      refine ⟨u', ?_, hq2⟩
      rw [Nat.add_zero, cell_of_cells hnew (by omega), hcu]
    | succ j => simp at hj)
  refine .inr (.inl ⟨w.setRow g.1 nv, ?_, blk, ?_, trivial⟩)
  · simp [execOp, ho, Instr.storeAt, Instr.sureAddr, hp', storeVar, run_sizeOf (hT ty τ hτ), c1, hu, hrun]
  · exact hw.weaken fun _ _ h => .inl h

theorem does_sto (hT : TOk P T) (hI : Inv N M L w0 blk V t h a w) {ty : Nat} {p x : Operand} {τ : Ty} {E : Eff} (ho : o.op = .store ty p x) (hτ : T ty = some τ) (hE : effSto τ h (ev t p) (ev t x) = some E) : Does P o a w (After N M L w0 V t h a e o.dst E) := by
  have hp := hI.ev p
  have hq := hI.ev x
  have hold := does_store (P := P) (o := o) (e := e) (E := E) hT hI ho hτ
  generalize ev t p = q at *
  generalize ev t x = z at *
  cases z with
  | box1 x1 v1 s1 o1 n1 =>
    cases q with
    | ptr y v c =>
      simp only [effSto] at hE
      split at hE
      · rename_i r hl
        split at hE
        · rename_i hcond
          obtain ⟨c1, rfl, c3, c4, c5⟩ := hcond
          simp only [Option.some.injEq] at hE
          subst hE
          obtain ⟨hx, hv⟩ := live_some hl
          obtain ⟨g, hg, hp'⟩ := hp.2 r hx hv
          obtain ⟨u', hu, hone, hq'⟩ := hq
          exact does_stoA hT hI ho hτ c1 c3 c4 (live_mp hl) hx hg hp' (by rw [hu]; rfl) hone rfl rfl (fun _ _ => .ali _ _ _ _ _ _ hone) (show RT w (Own M h blk) h blk V (.buf x1 v1 s1 o1 n1) u' from hq')
        · cases hE
      · cases hE
    | _ => simp [effSto] at hE
  | mp y1 v1 =>
    cases q with
    | pm y v c =>
      simp only [effSto] at hE
      split at hE
      · rename_i r hl
        split at hE
        · rename_i hcond
          obtain ⟨c1, c2, c3, c4, c5, c6⟩ := hcond
          subst c2
          simp only [Option.some.injEq] at hE
          subst hE
          obtain ⟨hx, hv⟩ := live_some hl
          obtain ⟨g, hg, hp'⟩ := hp.2 r hx hv
          obtain ⟨⟨ks, vs⟩, hm⟩ := Option.isSome_iff_exists.1 c6
          obtain ⟨g2, _, _, _, _, _, _, hu, _⟩ := hI.mapAt hm hq
          exact does_stoA hT hI ho hτ c1 c3 c4 (live_mp hl) hx hg hp' (by rw [hu]; rfl) rfl rfl rfl (fun _ _ => .alm _ _ _ rfl) (by rw [← hu]; exact hq)
        · cases hE
      · cases hE
    | _ => simp [effSto] at hE
  | _ => exact hold hE
end
end Go.Proofs.YtdecgihkgpgejaaDoor.Am
