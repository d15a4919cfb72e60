/- Sorting of ints: the library's contract, in the machine's words. -/
import Derived.Test.YtdecgihkgpgejaaDoorCi
import Derived.Sort.Grow
namespace Go.Proofs.YtdecgihkgpgejaaDoor.Am
open Go.RowKit Go.Proofs.YtdecgihkgpgejaaDoor.P
set_option linter.unusedSimpArgs false
set_option linter.unusedVariables false

/-- What the library's sort of ints does. -/
def SortC (P : Program) (f : FuncId) : Prop := ∀ (blk off cap : Nat) (zs : List Int) (w : World), Go.Sort.Holds (Value.int .i64) w blk off zs.toArray → blk < w.heap.size → zs.length < 4611686018427387904 →
  Calls P f #[.slice (some ⟨blk, off, none⟩) zs.length cap] w fun e w' => e = .returned (.tuple #[]) ∧ ∃ n os, w' = Go.Sort.grow (Go.Sort.putRow (Value.int .i64) (Go.Sort.ahead w n) blk off (sortI zs).toArray) os

theorem encL_int_at (k : IntKind) : ∀ (l : List Int) (j : Nat), (encL (eI k) l)[j]? = l[j]?.map fun n => .int k n
  | [], j => by simp [encL]
  | x :: l, 0 => by simp [encL, eI]
  | x :: l, j + 1 => by
    have := encL_int_at k l j
    simp only [encL, eI_cells, List.cons_append, List.nil_append, List.getElem?_cons_succ]
    exact this
theorem encL_int_len (k : IntKind) (l : List Int) : (encL (eI k) l).length = l.length := by rw [encL_len]; show l.length * 1 = _; omega

theorem putRow_heap {w : World} {b off : Nat} {d : List Int} {cs : Array Value} {ty : Nat} {fr : Nat × Nat} (h : w.heap[b]? = some (.cells cs ty fr)) : (Go.Sort.putRow (Value.int .i64) w b off d.toArray).heap[b]? = some (.cells (Go.Sort.putCells (Value.int .i64) off d.toArray cs) ty fr) := by
  simp [Go.Sort.putRow, Go.Sort.mapBlock, Array.getElem?_modify, h, Go.Sort.onCells]
theorem putRow_heap_ne {w : World} {b c off : Nat} {d : List Int} (h : c ≠ b) : (Go.Sort.putRow (Value.int .i64) w b off d.toArray).heap[c]? = w.heap[c]? := by
  simp [Go.Sort.putRow, Go.Sort.mapBlock, Array.getElem?_modify, Ne.symm h]
theorem putCells_get {off : Nat} {d : List Int} {cs : Array Value} {k : Nat} (hk : k < cs.size) : (Go.Sort.putCells (Value.int .i64) off d.toArray cs).getD k undef = if off ≤ k ∧ k < off + d.length then .int .i64 (d.getD (k - off) 0) else cs.getD k undef := by
  have h1 : (Go.Sort.putCells (Value.int .i64) off d.toArray cs)[k]? = some (if off ≤ k ∧ k < off + d.length then .int .i64 (d.getD (k - off) 0) else cs[k]) := by
    simp only [Go.Sort.putCells, Array.getElem?_mapIdx, Array.getElem?_eq_getElem hk, Option.map_some, List.size_toArray]
    congr 1
    split
    · rename_i hc
      congr 1
      have : k - off < d.length := by omega
      simp [List.getD, this]
    · rfl
  rw [Array.getD_eq_getD_getElem?, h1]
  simp [Array.getD_eq_getD_getElem?, hk]

theorem sort_ok {P : Program} {f : FuncId} {fn : Func} {ty : Nat} {F small : List Int → Option (List Int × Unit)} (hf : P.funcs[f]? = some fn) (hc : (fn.name == "runtime.NumGoroutine") = false ∧ fn.body.isNone = false)
    (hF : ∀ l, F l = if l.length < 4611686018427387904 then some (sortI l, ()) else none) (hs : COk P f (mkW ty (eI .i64) as0 (fun l (_ : Unit) => small l) (fun _ : Unit => .clean (.tup [])))) (h0 : small [] = some ([], ())) (hS : SortC P f) :
    COk P f (mkW ty (eI .i64) as0 (fun l (_ : Unit) => F l) (fun _ : Unit => .clean (.tup []))) where
  callable := ⟨fn, hf, hc⟩
  calls lent as rk out hg := by
    obtain ⟨pre, l, post, a, l', r, rfl, rfl, hr, rfl, rfl⟩ := mkW_some hg
    rw [hF] at hr
    split at hr
    · rename_i hlen
      cases hr
      by_cases hl : l = []
      · subst hl
        rw [sortI_nil]
        exact hs.calls _ _ _ _ (by rw [mkW_eq]; simp [h0])
      · intro w M go u0 vs hM hgoM hz hmp hrow hlv hargs
        have hpos : 0 < l.length := List.length_pos_iff.2 hl
        have hvs : vs = #[] := by
          have := hargs.1
          simpa [as0] using this
        subst hvs
        cases go with
        | none =>
          have hce : pre ++ (encL (eI .i64) l ++ post) = [] := hrow
          have := congrArg List.length hce
          rw [List.length_append, List.length_append, encL_int_len, List.length_nil] at this
          omega
        | some g =>
          obtain ⟨cs, h1, h2, h3⟩ := hrow
          simp only [List.length_append, encL_int_len] at h2
          have hcell : ∀ j, j < l.length → cs.getD (g.2 + (pre.length + j)) undef = .int .i64 (l.getD j 0) := by
            intro j hj
            have hd : (pre ++ (encL (eI .i64) l ++ post))[pre.length + j]? = some (.int .i64 (l.getD j 0)) := by
              rw [List.getElem?_append_right (by omega), Nat.add_sub_cancel_left, List.getElem?_append_left (by rw [encL_int_len]; exact hj), encL_int_at]
              simp [List.getD, hj]
            obtain ⟨_, hp⟩ := h3 _ _ hd
            cases hu : cs.getD (g.2 + (pre.length + j)) undef <;> rw [hu] at hp <;> cases hp
            rfl
          rcases hlv.2 ⟨0, 0, [], false, false, false⟩ rfl rfl with ⟨g', o', c, N, t, k0, k1, k2, k3, k4, k5⟩ | ⟨k0, _⟩
          · cases k0
            obtain ⟨rfl, k6⟩ := k2 (.inl (by omega))
            subst k1
            have hlt : g.1 < w.heap.size := (Array.getElem?_eq_some_iff.1 h1).1
            have hH : Go.Sort.Holds (Value.int .i64) w g.1 (g.2 + pre.length) l.toArray := by
              intro j hj
              simp only [List.size_toArray] at hj
              refine ⟨?_, by simp [World.frozen?, h1]⟩
              have := cell_of_cells h1 (j := g.2 + pre.length + j) (by omega)
              rw [this, Nat.add_assoc, hcell j hj]
              simp [List.getD, hj]
            refine (hS g.1 (g.2 + pre.length) c l w hH hlt hlen).mono fun e w' ⟨he, n, os, hw⟩ => ?_
            subst hw
            refine ⟨.tuple #[], he, ?_, ?_, ?_⟩
            · refine ⟨rfl, rfl, rfl, by simp [Go.Sort.ahead], fun k hk hn => ?_⟩
              have hkg : k ≠ g.1 := fun e => hn ⟨g, rfl, e⟩
              rw [Go.Sort.heap_grow_old _ _ (by simpa [Go.Sort.ahead] using hk), putRow_heap_ne hkg]
              rfl
            · have hnew : (Go.Sort.grow (Go.Sort.putRow (Value.int .i64) (Go.Sort.ahead w n) g.1 (g.2 + pre.length) (sortI l).toArray) os).heap[g.1]? = some (.cells (Go.Sort.putCells (Value.int .i64) (g.2 + pre.length) (sortI l).toArray cs) ty (0, 0)) := by
                rw [Go.Sort.heap_grow_old _ _ (by simpa [Go.Sort.ahead] using hlt)]
                exact putRow_heap h1
              have hsz : (Go.Sort.putCells (Value.int .i64) (g.2 + pre.length) (sortI l).toArray cs).size = cs.size := by simp [Go.Sort.putCells]
              refine ⟨rfl, rfl, rfl, fun g' hg' => ?_, ?_⟩
              · cases hg'
                simp [World.shape?, hnew, h1, hsz]
              · refine ⟨_, hnew, ?_, fun j d hj => ?_⟩
                · simp only [List.length_append, encL_int_len, sortI_len, hsz]; exact h2
                · have hjl : j < pre.length + (l.length + post.length) := by
                    have := (List.getElem?_eq_some_iff.1 hj).1
                    simpa [encL_int_len, sortI_len] using this
                  have hrest : ∀ {d : D} {u : Value}, RP w (fun b => M b ∨ In0 (some g) b) d u → RP (Go.Sort.grow (Go.Sort.putRow (Value.int .i64) (Go.Sort.ahead w n) g.1 (g.2 + pre.length) (sortI l).toArray) os) (fun b => M b ∨ In0 (some g) b) d u := by
                    intro d u hu
                    refine hu.keep fun b q1 q2 => ⟨by simp [Go.Sort.ahead]; omega, q2, ?_⟩
                    have hbg : b ≠ g.1 := fun e => q2 (.inr ⟨g, rfl, e⟩)
                    rw [Go.Sort.heap_grow_old _ _ (by simpa [Go.Sort.ahead] using q1), putRow_heap_ne hbg]
                    rfl
                  rw [putCells_get (by omega), sortI_len]
                  by_cases hin : pre.length ≤ j ∧ j < pre.length + l.length
                  · rw [if_pos (by omega)]
                    rw [List.getElem?_append_right (by omega), List.getElem?_append_left (by rw [encL_int_len, sortI_len]; omega), encL_int_at, Option.map_eq_some_iff] at hj
                    obtain ⟨z, hz, rfl⟩ := hj
                    have e1 : g.2 + j - (g.2 + pre.length) = j - pre.length := by omega
                    rw [e1]
                    have e2 : (sortI l).getD (j - pre.length) 0 = z := by simp [List.getD, hz]
                    rw [e2]
                    exact ⟨rfl, .int _ _⟩
                  · rw [if_neg (by omega)]
                    have hj' : (pre ++ (encL (eI .i64) l ++ post))[j]? = some d := by
                      by_cases hlo : j < pre.length
                      · rw [List.getElem?_append_left hlo] at hj ⊢
                        exact hj
                      · rw [List.getElem?_append_right (by omega), List.getElem?_append_right (by rw [encL_int_len, sortI_len]; omega), encL_int_len, sortI_len] at hj
                        rw [List.getElem?_append_right (by omega), List.getElem?_append_right (by rw [encL_int_len]; omega), encL_int_len]
                        exact hj
                    exact ⟨(h3 j d hj').1, hrest (h3 j d hj').2⟩
            · exact .tup [] [] rfl (fun j x hj => by simp at hj)
          · cases k0
    · cases hr
end Go.Proofs.YtdecgihkgpgejaaDoor.Am
