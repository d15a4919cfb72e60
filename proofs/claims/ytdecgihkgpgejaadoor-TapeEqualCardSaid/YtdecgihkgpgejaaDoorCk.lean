/- The library's functions: their contracts in the machine's words. -/
import Derived.Test.YtdecgihkgpgejaaDoorCj
import Derived.Test.YtdecgihkgpgejaaDoorCq
import Derived.Shelf.Spec.SlicesInsertGrow
import Derived.Sort.Grow
namespace Go.Proofs.YtdecgihkgpgejaaDoor.Am
open Go.RowKit Go.Proofs.YtdecgihkgpgejaaDoor.P
set_option linter.unusedSimpArgs false
set_option linter.unusedVariables false

theorem ins_one {α : Type} (E : Enc α) {B : Nat} {l n : List α} {i : Int} {x : α} (h : insL B l i [x] = some n) : 0 ≤ i ∧ i ≤ (l.length : Int) ∧ l.length + 1 = n.length ∧ n.length * B ≤ 140737488355328 ∧
    (encL E l).take (i.toNat * E.size) ++ (E.cells x ++ (encL E l).drop (i.toNat * E.size)) = encL E n := by
  unfold insL at h
  split at h
  · rename_i hc
    cases h
    obtain ⟨h1, h2, -, h4⟩ := hc
    have hl : l.length + 1 = (l.take i.toNat ++ ([x] ++ l.drop i.toNat)).length := by simp; omega
    refine ⟨h1, h2, hl, by rw [← hl]; exact h4, ?_⟩
    rw [encL_append, encL_append, encL_take, encL_drop]
    simp [encL]
  · cases h
theorem RP_int {w : World} {M : Nat → Prop} {k : IntKind} {n : Int} {u : Value} (h : RP w M (.int k n) u) : u = .int k n := by cases h; rfl

/-- A slice of numbers, as it lies. -/
theorem RP_ints {w : World} {M : Nat → Prop} {k : IntKind} {l : List Int} {u : Value} (h : RP w M (.sl false false l.length (encL (eI k) l)) u) :
    ∃ A c, u = .slice A l.length c ∧ l.length ≤ c ∧ c ≤ maxLen ∧ (A = none → l.length = 0 ∧ c = 0) ∧ (l ≠ [] → ∃ b o, A = some ⟨b, o, none⟩ ∧ b < w.heap.size ∧ ¬ M b ∧ ∀ j, j < l.length → w.cell? ⟨b, o + j, none⟩ = some (.int k (l.getD j 0))) := by
  cases h with
  | sl A c nl tight n xs us h1 h2 h3 h4 h5 h6 h7 h8 =>
    refine ⟨A, c, rfl, h1, h2, h4, fun hl => ?_⟩
    have hne : encL (eI k) l ≠ [] := by
      intro he
      have := congrArg List.length he
      rw [encL_int_len] at this
      exact hl (List.eq_nil_of_length_eq_zero this)
    obtain ⟨b, o, rfl, hb, hM, hc⟩ := h6 hne
    refine ⟨b, o, rfl, hb, hM, fun j hj => ?_⟩
    rw [hc j (by rw [encL_int_len]; exact hj)]
    have hg : (encL (eI k) l)[j]? = some (.int k (l.getD j 0)) := by rw [encL_int_at]; simp [List.getD, hj]
    rw [RP_int (h7 j _ hg)]

theorem vs_one {vs : Array Value} (h : vs.size = 1) : vs = #[vs.getD 0 undef] := by
  apply Array.ext
  · simp [h]
  · intro i h1 h2
    have : i = 0 := by omega
    subst this
    simp [Array.getElem?_eq_getElem h1]

/-- A function of one argument that gives a text. -/
theorem str1_ok {P : Program} {f : FuncId} {fn : Func} {α : Type} {A : Arg α} {F : α → Option ByteArray} (hf : P.funcs[f]? = some fn) (hc : (fn.name == "runtime.NumGoroutine") = false ∧ fn.body.isNone = false)
    (hC : ∀ x r, F x = some r → ∀ (w : World) (M : Nat → Prop) (u : Value), RP w M (A.d x) u → TabR w M → Calls P f #[u] w fun e w' => e = .returned (.string r) ∧ Below w.heap.size w w') : COk P f (mkG (as1 A) F (fun r => .clean (.str r))) where
  callable := ⟨fn, hf, hc⟩
  calls lent ds rk out hg := by
    obtain ⟨rfl, rfl, a, r, rfl, hr, rfl⟩ := mkG_some hg
    intro w M vs hM hargs
    have hsz : vs.size = 1 := hargs.size
    rw [vs_one hsz]
    refine (hC a r hr w M _ (hargs.at_ 0 _ rfl) hargs.tab).mono fun e w' ⟨he, hb⟩ => ⟨_, he, hb, ?_⟩
    exact RP.str r

/-- Itoa. -/
def ItoaC (P : Program) (f : FuncId) : Prop := ∀ (n : Int) (w : World), -9223372036854775808 ≤ n → n ≤ 9223372036854775807 → (∀ b, tabBlk = some b → ∃ ty fr, w.heap[b]? = some (.cells pow10V ty fr)) → Calls P f #[.int .i64 n] w fun e w' => e = .returned (.string (itoaB n)) ∧ Below w.heap.size w w'
theorem itoa_ok {P : Program} {f : FuncId} {fn : Func} (hf : P.funcs[f]? = some fn) (hc : (fn.name == "runtime.NumGoroutine") = false ∧ fn.body.isNone = false) (hC : ItoaC P f) : COk P f (mkG (as1 (aI .i64)) itoaW (fun r => .clean (.str r))) :=
  str1_ok hf hc fun x r hr w M u hu ht => by
    unfold itoaW at hr
    split at hr
    · rename_i hb
      cases hr
      rw [RP_int hu]
      exact hC x w hb.1 hb.2 fun b hb => (ht b hb).is
    · cases hr

/-- What the library's Compact does. -/
def CompactC (P : Program) (f : FuncId) : Prop := (∀ (blk off cap : Nat) (zs : List Int) (w : World), Go.Sort.Holds (Value.int .i64) w blk off zs.toArray → zs.length ≤ 9223372036854775807 → zs.length ≤ cap →
  Calls P f #[.slice (some ⟨blk, off, none⟩) zs.length cap] w fun e w' => e = .returned (.slice (some ⟨blk, off, none⟩) (Lib.compact zs).length cap) ∧ ∃ q, w' = Go.Sort.putRow (Value.int .i64) (Go.Sort.ahead w q) blk off (Lib.compact zs ++ List.replicate (zs.length - (Lib.compact zs).length) 0).toArray) ∧
  ∀ (a : Option Addr) (cap : Nat) (w : World), Calls P f #[.slice a 0 cap] w fun e w' => e = .returned (.slice a 0 cap) ∧ w' = w

theorem compUp_le (d : Array Int) : ∀ m : Nat, (Lib.compactUpTo d m).length ≤ m
  | 0 => by simp [Lib.compactUpTo]
  | m + 1 => by
    rw [Lib.compactUpTo_succ, List.length_append]
    have := compUp_le d m
    split <;> simp <;> omega
theorem compact_le (l : List Int) : (Lib.compact l).length ≤ l.length := compUp_le _ _

theorem compact_ok {P : Program} {f : FuncId} {fn : Func} {ty : Nat} (hf : P.funcs[f]? = some fn) (hc : (fn.name == "runtime.NumGoroutine") = false ∧ fn.body.isNone = false) (hC : CompactC P f) :
    COk P f (mkE ty (eI .i64) as0 (fun l (_ : Unit) => compW l)) where
  callable := ⟨fn, hf, hc⟩
  calls lent ds rk out hg := by
    obtain ⟨pre, l, post, a, r, rfl, rfl, hr, rfl, rfl⟩ := mkE_some hg
    unfold compW at hr
    split at hr
    rotate_left
    · cases hr
    rename_i hlen
    cases hr
    intro w M go u0 vs hM hgoM hz hmp hrow hlv hargs
    have hvs : vs = #[] := by
      have := hargs.1
      simpa [as0] using this
    subst hvs
    have hle := compact_le l
    have hnil : Lib.compact ([] : List Int) = [] := by
      have := compact_le ([] : List Int)
      exact List.eq_nil_of_length_eq_zero (Nat.le_zero.1 this)
    rcases hlv.2 ⟨0, 0, [], false, false, false⟩ rfl rfl with ⟨g, o', c, N, t, k0, k1, k2, k3, k4, k5⟩ | ⟨k0, hn0, A, k1⟩
    · cases k0
      subst k1
      obtain ⟨cs, h1, h2, h3⟩ := hrow
      simp only [List.length_append, encL_int_len] at h2
      have hN : N = cs.size := by
        simp only [World.shape?, h1, Option.some.injEq, Prod.mk.injEq] at k5
        exact k5.2.symm
      have hone : (eI IntKind.i64).size = 1 := rfl
      by_cases hl : l = []
      · subst hl
        refine (hC.2 _ c w).mono fun e w' ⟨he, hw⟩ => ?_
        subst hw
        rw [hnil]
        refine ⟨_, he, ⟨rfl, rfl, rfl, Nat.le_refl _, fun k _ _ => rfl⟩, trivial, ?_⟩
        by_cases hcc : 0 < c ∨ pre.length = 0
        · obtain ⟨k6, k7⟩ := k2 hcc
          exact .inl ⟨(g.1, o'), c, cs, rfl, .inr ⟨g, rfl, rfl⟩, h1, Nat.zero_le _, k4, by rw [hone] at *; omega, by rw [hone] at *; simp [encL]; omega, fun j d hj => by simp [encL] at hj⟩
        · have : c = 0 := by omega
          subst this
          exact .inr ⟨rfl, rfl, _, rfl⟩
      · have hpos : 0 < l.length := List.length_pos_iff.2 hl
        obtain ⟨k6, k7⟩ := k2 (.inl (by omega))
        subst k6
        have hcell : ∀ j, j < l.length → cs.getD (g.2 + (pre.length + j)) undef = .int .i64 (l.getD j 0) := by
          intro j hj
          have hd : (pre ++ (encL (eI .i64) l ++ post))[pre.length + j]? = some (.int .i64 (l.getD j 0)) := by
            rw [List.getElem?_append_right (by omega), Nat.add_sub_cancel_left, List.getElem?_append_left (by rw [encL_int_len]; exact hj), encL_int_at]
            simp [List.getD, hj]
          obtain ⟨_, hp⟩ := h3 _ _ hd
          exact RP_int hp
        have hH : Go.Sort.Holds (Value.int .i64) w g.1 (g.2 + pre.length) l.toArray := by
          intro j hj
          simp only [List.size_toArray] at hj
          refine ⟨?_, by simp [World.frozen?, h1]⟩
          have := cell_of_cells h1 (j := g.2 + pre.length + j) (by omega)
          rw [this, Nat.add_assoc, hcell j hj]
          simp [List.getD, hj]
        refine (hC.1 g.1 (g.2 + pre.length) c l w hH hlen k3).mono fun e w' ⟨he, q, hw⟩ => ?_
        subst hw
        have hdl : (Lib.compact l ++ List.replicate (l.length - (Lib.compact l).length) 0).length = l.length := by simp; omega
        have hnew : (Go.Sort.putRow (Value.int .i64) (Go.Sort.ahead w q) g.1 (g.2 + pre.length) (Lib.compact l ++ List.replicate (l.length - (Lib.compact l).length) 0).toArray).heap[g.1]? = some (.cells (Go.Sort.putCells (Value.int .i64) (g.2 + pre.length) (Lib.compact l ++ List.replicate (l.length - (Lib.compact l).length) 0).toArray cs) ty (0, 0)) := putRow_heap h1
        have hsz : (Go.Sort.putCells (Value.int .i64) (g.2 + pre.length) (Lib.compact l ++ List.replicate (l.length - (Lib.compact l).length) 0).toArray cs).size = cs.size := by simp [Go.Sort.putCells]
        refine ⟨_, he, ⟨rfl, rfl, rfl, by simp [Go.Sort.ahead], fun k hk hn => ?_⟩, trivial, .inl ⟨(g.1, g.2 + pre.length), c, _, rfl, .inr ⟨g, rfl, rfl⟩, hnew, by omega, k4, ?_, ?_, fun j d hj => ?_⟩⟩
        · exact putRow_heap_ne fun e => hn ⟨g, rfl, e⟩
        · rw [hsz, hone]; rw [hone] at k7; omega
        · rw [hsz, encL_int_len]; simp only; omega
        · have hjl := (List.getElem?_eq_some_iff.1 hj).1
          rw [encL_int_len] at hjl
          rw [encL_int_at, Option.map_eq_some_iff] at hj
          obtain ⟨z, hz, rfl⟩ := hj
          simp only
          rw [putCells_get (by omega), hdl, if_pos (by omega)]
          have e1 : g.2 + pre.length + j - (g.2 + pre.length) = j := by omega
          have e2 : (Lib.compact l ++ List.replicate (l.length - (Lib.compact l).length) 0).getD j 0 = z := by rw [List.getD_eq_getElem?_getD, List.getElem?_append_left hjl, hz]; rfl
          rw [e1, e2]
          exact ⟨rfl, .int _ _⟩
    · subst k1
      have hl : l = [] := List.eq_nil_of_length_eq_zero hn0
      subst hl
      refine (hC.2 _ 0 w).mono fun e w' ⟨he, hw⟩ => ?_
      subst hw
      rw [hnil]
      exact ⟨_, he, ⟨rfl, rfl, rfl, Nat.le_refl _, fun k _ _ => rfl⟩, trivial, .inr ⟨rfl, rfl, _, rfl⟩⟩

/-- Cells written one after the other. -/
theorem setCells_heap (b : Nat) {ty : Nat} {fr : Nat × Nat} : ∀ (vs : List Value) (o : Nat) (w : World) (arr : Array Value), w.heap[b]? = some (.cells arr ty fr) → o + vs.length ≤ arr.size →
    (w.setCells b o vs).os = w.os ∧ (w.setCells b o vs).tape = w.tape ∧ (w.setCells b o vs).output = w.output ∧ (w.setCells b o vs).heap.size = w.heap.size ∧ (∀ k, k ≠ b → (w.setCells b o vs).heap[k]? = w.heap[k]?) ∧
    ∃ arr', (w.setCells b o vs).heap[b]? = some (.cells arr' ty fr) ∧ arr'.size = arr.size ∧ ∀ j, arr'[j]? = if o ≤ j ∧ j < o + vs.length then vs[j - o]? else arr[j]?
  | [], o, w, arr, h, _ => ⟨rfl, rfl, rfl, rfl, fun k _ => rfl, arr, h, rfl, fun j => by rw [if_neg (by simp)]⟩
  | v :: r, o, w, arr, h, hl => by
    simp only [List.length_cons] at hl
    have h1 : (w.setCell ⟨b, o, none⟩ v).heap[b]? = some (.cells (arr.setIfInBounds o v) ty fr) := by
      simp [World.setCell, Array.getElem?_modify, h]
    obtain ⟨e1, e2, e3, e4, e5, arr', e6, e7, e8⟩ := setCells_heap b r (o + 1) (w.setCell ⟨b, o, none⟩ v) _ h1 (by simp; omega)
    refine ⟨e1, e2, e3, e4.trans (by simp [World.setCell]), fun k hk => (e5 k hk).trans (by simp [World.setCell, Array.getElem?_modify, Ne.symm hk]), arr', e6, by simpa using e7, fun j => ?_⟩
    rw [e8 j, Array.getElem?_setIfInBounds]
    simp only [List.length_cons]
    by_cases h1 : o + 1 ≤ j ∧ j < o + 1 + r.length
    · rw [if_pos h1, if_pos (by omega)]
      have : j - o = (j - (o + 1)) + 1 := by omega
      rw [this, List.getElem?_cons_succ]
    · rw [if_neg h1]
      by_cases h2 : o = j
      · subst h2
        rw [if_pos rfl, if_pos (by omega), if_pos (by omega), Nat.sub_self]
        rfl
      · rw [if_neg h2, if_neg (by omega)]

open Go.Shelf in
/-- The library's insertion into a list of numbers. -/
theorem insert_ok {P : Program} {ρ : Ren} (L : Lays2.n21 P ρ) {fn : Func} (hf : P.funcs[ρ.f 21]? = some fn) (hc : (fn.name == "runtime.NumGoroutine") = false ∧ fn.body.isNone = false) : InsC P (ρ.f 21) (ρ.t 3, 1, 8) where
  callable := ⟨fn, hf, hc⟩
  pos := Nat.one_pos
  calls w go go' u u' i n m cs cs' h1 h2 hne hl hl' ho ho' hi hm hmax := by
    simp only [Nat.mul_one] at *
    obtain ⟨g', c', arr', rfl, rfl, b1, b2, b3, b4, b5⟩ : ∃ g c arr, go' = some g ∧ u' = .slice (some ⟨g.1, g.2, none⟩) m c ∧ w.heap[g.1]? = some (.cells arr (ρ.t 3) (0, 0)) ∧ c * 1 + g.2 = arr.size ∧ m ≤ c ∧ c ≤ maxLen ∧ ∀ (j : Nat) x, cs'[j]? = some x → arr[g.2 + j]? = some x := by
      rcases h2 with ⟨g, c, arr, k⟩ | ⟨_, rfl, _⟩
      · exact ⟨g, c, arr, by simpa using k⟩
      · omega
    have hvs : ∀ (j : Nat) v, cs'[j]? = some v → w.cell? ⟨g'.1, g'.2 + j, none⟩ = some v := fun j v hj => by simp [World.cell?, b1, b5 j v hj]
    rcases h1 with ⟨g, c, arr, rfl, rfl, a1, a2, a3, a4, a5⟩ | ⟨rfl, rfl, rfl, A, rfl⟩
    · have hcs : ∀ (j : Nat) v, cs[j]? = some v → w.cell? ⟨g.1, g.2 + j, none⟩ = some v := fun j v hj => by simp [World.cell?, a1, a5 j v hj]
      have hfz : ∀ j, w.frozen? ⟨g.1, j, none⟩ = false := fun j => by simp [World.frozen?, a1]
      have hbb : g.1 ≠ g'.1 := hne g g' rfl rfl
      have hlt : g.1 < w.heap.size := (Array.getElem?_eq_some_iff.1 a1).1
      have hsp : ∀ j, j < n + m → n + m ≤ c → (w.cell? ⟨g.1, g.2 + j, none⟩).isSome = true := fun j hj hr => by
        simp only [World.cell?, a1]
        rw [Array.getElem?_eq_getElem (by omega)]
        rfl
      by_cases hin : i = n
      · subst hin
        have ht : cs.take i = cs := List.take_of_length_le (by omega)
        have hd : cs.drop i = [] := List.drop_eq_nil_of_le (by omega)
        rw [ht, hd, List.append_nil]
        by_cases hroom : i + m ≤ c
        · refine (Any2.slices_Insert_int_end_room L g.1 g.2 i c g'.1 g'.2 m c' cs' w hm hroom (by unfold maxLen at a4; omega) hl' (fun j hj => by have := hsp (i + j) (by omega) hroom; rwa [← Nat.add_assoc] at this) (fun j _ => hfz _) hvs ho').mono fun e w' ⟨he, hw⟩ => ?_
          subst hw
          obtain ⟨e1, e2, e3, e4, e5, arr2, e6, e7, e8⟩ := setCells_heap g.1 cs' (g.2 + i) w arr a1 (by omega)
          refine ⟨_, he, ⟨e1, e2, e3, by omega, fun k hk hn => e5 k (fun h => hn ⟨g, rfl, h⟩)⟩, g, c, arr2, rfl, .inr ⟨g, rfl, rfl⟩, e6, hroom, a4, by omega, fun j x hj => ?_⟩
          rw [e8]
          by_cases hj2 : j < i
          · rw [if_neg (by omega)]
            rw [List.getElem?_append_left (by omega)] at hj
            exact a5 j x hj
          · have hjl := (List.getElem?_eq_some_iff.1 hj).1
            rw [List.length_append] at hjl
            rw [List.getElem?_append_right (by omega)] at hj
            rw [if_pos (by omega)]
            rw [← hj]; congr 1; omega
        · refine (Any2.slices_Insert_int_end_grow L (some ⟨g.1, g.2, none⟩) i c g'.1 g'.2 m c' cs cs' w hm a3 (by omega) hmax hl hl' (fun h => by cases h) (fun a ha j v hj => by cases ha; rw [Addr.add_lit]; exact hcs j v hj) hvs ho').mono fun e w' ⟨he, hw⟩ => ?_
          subst hw
          have hge := grownCap_ge w (i + m) c (ρ.t 3)
          refine ⟨_, he, Beyond.of_below ((Below.refl _ w).drew.alloc (by simp) _), (w.heap.size, 0), _, _, rfl, .inl (Nat.le_refl _), heap_alloc_new w.drew _, hge, grownCap_le_maxLen _ _ _ _ (by unfold maxLen; omega), ?_, fun j x hj => ?_⟩
          · simp [Builtin.zeroCells, Value.cells]; omega
          · have hjl := (List.getElem?_eq_some_iff.1 hj).1
            rw [Nat.zero_add, Array.getElem?_append_left (by simpa using hjl)]
            simpa using hj
      · have hin' : i < n := by omega
        by_cases hroom : n + m ≤ c
        · refine (Any2.slices_Insert_int_shift L g.1 g.2 n c i g'.1 g'.2 m c' cs cs' w hin' hm hroom (by unfold maxLen at a4; omega) (Ne.symm hbb) hl hl' hcs (fun j hj => hsp j hj hroom) (fun j _ => hfz _) hvs ho ho' (ρ.t 3) (ρ.t 3) arr'.size arr.size (by simp [World.shape?, b1]) (by simp [World.shape?, a1]) (by omega) (by simp [World.frozen?, b1]) (by simp [World.frozen?, b1])).mono fun e w' ⟨he, hw⟩ => ?_
          subst hw
          obtain ⟨e1, e2, e3, e4, e5, arr2, e6, e7, e8⟩ := setCells_heap g.1 (cs.drop i) (g.2 + (i + m)) w.drew arr a1 (by simp; omega)
          obtain ⟨f1, f2, f3, f4, f5, arr3, f6, f7, f8⟩ := setCells_heap g.1 cs' (g.2 + i) _ arr2 e6 (by omega)
          refine ⟨_, he, ⟨f1.trans e1, f2.trans e2, f3.trans e3, by rw [f4, e4]; exact Nat.le_refl _, fun k hk hn => (f5 k (fun h => hn ⟨g, rfl, h⟩)).trans (e5 k (fun h => hn ⟨g, rfl, h⟩))⟩, g, c, arr3, rfl, .inr ⟨g, rfl, rfl⟩, f6, hroom, a4, by omega, fun j x hj => ?_⟩
          have hjl := (List.getElem?_eq_some_iff.1 hj).1
          simp only [List.length_append, List.length_take, List.length_drop] at hjl
          rw [f8, e8]
          by_cases hj1 : j < i
          · rw [List.getElem?_append_left (by rw [List.length_take]; omega), List.getElem?_take, if_pos hj1] at hj
            rw [if_neg (by omega), if_neg (by simp; omega)]
            exact a5 j x hj
          · rw [List.getElem?_append_right (by rw [List.length_take]; omega), List.length_take, Nat.min_eq_left (by omega)] at hj
            by_cases hj2 : j < i + m
            · rw [List.getElem?_append_left (by omega)] at hj
              rw [if_pos (by omega), ← hj]; congr 1; omega
            · rw [List.getElem?_append_right (by omega)] at hj
              rw [if_neg (by omega), if_pos (by simp; omega), ← hj]; congr 1; omega
        · refine (Any2.slices_Insert_int_grow L g.1 g.2 n c i g'.1 g'.2 m c' cs cs' w hin' hm a3 (by omega) hmax hl hl' hcs hvs ho ho').mono fun e w' ⟨he, hw⟩ => ?_
          subst hw
          have hge := grownCap_ge w (n + m) c (ρ.t 3)
          generalize hG : grownCap w (n + m) c (ρ.t 3) = G at *
          generalize hR : ((cs.take i).toArray ++ Builtin.zeroCells (Value.int .i64 0).cells (n + m - i) ++ Builtin.zeroCells (Value.int .i64 0).cells (G - (n + m))) = R
          have hRs : R.size = G := by subst hR; simp [Builtin.zeroCells, Value.cells]; omega
          have hR0 : ∀ j, j < i → R[j]? = cs[j]? := fun j hj => by
            subst hR
            rw [Array.append_assoc, Array.getElem?_append_left (by simp; omega)]
            simp [List.getElem?_take, hj]
          have hw0 : (w.alloc (.cells R (ρ.t 3))).drew.heap[w.heap.size]? = some (.cells R (ρ.t 3) (0, 0)) := heap_alloc_new w _
          obtain ⟨e1, e2, e3, e4, e5, arr2, e6, e7, e8⟩ := setCells_heap w.heap.size cs' i _ R hw0 (by omega)
          obtain ⟨f1, f2, f3, f4, f5, arr3, f6, f7, f8⟩ := setCells_heap w.heap.size (cs.drop i) (i + m) (((w.alloc (.cells R (ρ.t 3))).drew.setCells w.heap.size i cs').drew) arr2 e6 (by simp; omega)
          refine ⟨_, he, ⟨f1.trans e1, f2.trans e2, f3.trans e3, ?_, fun k hk hn => ?_⟩, (w.heap.size, 0), G, arr3, rfl, .inl (Nat.le_refl _), f6, hge, hG ▸ grownCap_le_maxLen _ _ _ _ (by unfold maxLen; omega), by simp only; omega, fun j x hj => ?_⟩
          · rw [f4]
            show _ ≤ ((w.alloc (.cells R (ρ.t 3))).drew.setCells w.heap.size i cs').heap.size
            rw [e4]
            show _ ≤ (w.alloc (.cells R (ρ.t 3))).heap.size
            simp
          · rw [f5 k (by omega)]
            show ((w.alloc (.cells R (ρ.t 3))).drew.setCells w.heap.size i cs').heap[k]? = _
            rw [e5 k (by omega)]
            exact Below.heap_alloc w _ k hk
          · have hjl := (List.getElem?_eq_some_iff.1 hj).1
            simp only [List.length_append, List.length_take, List.length_drop] at hjl
            rw [Nat.zero_add, f8, e8]
            by_cases hj1 : j < i
            · rw [List.getElem?_append_left (by rw [List.length_take]; omega), List.getElem?_take, if_pos hj1] at hj
              rw [if_neg (by omega), if_neg (by omega), hR0 j hj1, hj]
            · rw [List.getElem?_append_right (by rw [List.length_take]; omega), List.length_take, Nat.min_eq_left (by omega)] at hj
              by_cases hj2 : j < i + m
              · rw [List.getElem?_append_left (by omega)] at hj
                rw [if_neg (by omega), if_pos (by omega), ← hj]
              · rw [List.getElem?_append_right (by omega)] at hj
                rw [if_pos (by simp; omega), ← hj]; congr 1; omega
    · have hi0 : i = 0 := by omega
      subst hi0
      refine (Any2.slices_Insert_int_end_grow L A 0 0 g'.1 g'.2 m c' [] cs' w hm (Nat.le_refl _) (by omega) (by omega) rfl hl' (fun _ => rfl) (fun a ha j v hj => by simp at hj) hvs ho').mono fun e w' ⟨he, hw⟩ => ?_
      subst hw
      have hge := grownCap_ge w (0 + m) 0 (ρ.t 3)
      refine ⟨_, he, Beyond.of_below ((Below.refl _ w).drew.alloc (by simp) _), (w.heap.size, 0), _, _, rfl, .inl (Nat.le_refl _), heap_alloc_new w.drew _, hge, grownCap_le_maxLen _ _ _ _ (by unfold maxLen; omega), ?_, fun j x hj => ?_⟩
      · have hge' := hge
        simp only [Nat.zero_add] at hge'
        simp [Builtin.zeroCells, Value.cells]; omega
      · simp only [List.take_nil, List.drop_nil, List.nil_append, List.append_nil] at hj
        have hjl := (List.getElem?_eq_some_iff.1 hj).1
        rw [Nat.zero_add, Array.getElem?_append_left (by simpa using hjl)]
        simpa using hj
end Go.Proofs.YtdecgihkgpgejaaDoor.Am
