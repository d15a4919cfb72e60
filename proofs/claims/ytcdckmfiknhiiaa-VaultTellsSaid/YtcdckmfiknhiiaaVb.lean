/- The vault's lists; pair. -/
import Derived.Test.YtcdckmfiknhiiaaVa
namespace Go.Proofs.Ytcdckmfiknhiiaa.Vm
open Go.RowKit
set_option maxRecDepth 100000
set_option maxHeartbeats 1000000
set_option linter.unusedSimpArgs false
set_option linter.unusedVariables false

def flat : List Th → List D
  | [] => []
  | x :: l => x.cells ++ flat l

def unflat : List D → Option (List Th)
  | [] => some []
  | .str a :: .int .i64 b :: .int .i64 c :: .int .i64 d :: .int .i64 e :: r => match unflat r with | some l => some (⟨a, b, c, d, e⟩ :: l) | none => none
  | _ => none

theorem unflat_flat : ∀ l : List Th, unflat (flat l) = some l
  | [] => rfl
  | x :: l => by
    show unflat (x.cells ++ flat l) = _
    simp only [Th.cells, List.cons_append, List.nil_append, unflat, unflat_flat l]

theorem unflat_eq : ∀ (xs : List D) (l : List Th), unflat xs = some l → xs = flat l := by
  intro xs
  induction xs using unflat.induct with
  | case1 => intro l h; simp only [unflat, Option.some.injEq] at h; subst h; rfl
  | case2 a b c d e r l' hl ih => intro l h; simp only [unflat, hl, Option.some.injEq] at h; subst h; rw [ih _ hl]; rfl
  | case3 a b c d e r hl ih => intro l h; simp only [unflat, hl] at h; cases h
  | case4 xs h1 h2 =>
    intro l h
    unfold unflat at h
    split at h
    · exact (h1 rfl).elim
    · exact (h2 _ _ _ _ _ _ rfl).elim
    · cases h

theorem flat_length : ∀ l : List Th, (flat l).length = l.length * 5
  | [] => rfl
  | x :: l => by
    show (x.cells ++ flat l).length = _
    rw [List.length_append, flat_length l, List.length_cons]
    simp only [Th.cells, List.length_cons, List.length_nil]
    omega

theorem flat_drop : ∀ (l : List Th) (i : Nat), (flat l).drop (i * 5) = flat (l.drop i)
  | l, 0 => by simp
  | [], i + 1 => by simp [flat]
  | x :: l, i + 1 => by
    show (x.cells ++ flat l).drop ((i + 1) * 5) = _
    rw [List.drop_succ_cons, ← flat_drop l i, List.drop_append]
    have : x.cells.length = 5 := rfl
    rw [this, List.drop_eq_nil_of_le (by rw [this]; omega), List.nil_append]
    congr 1
    omega

theorem flat_at {l : List Th} {i : Nat} {x : Th} (h : l[i]? = some x) : (flat l).drop (i * 5) = .str x.text :: .int .i64 x.value :: .int .i64 x.blind :: .int .i64 x.left :: .int .i64 x.right :: flat (l.drop (i + 1)) := by
  rw [flat_drop]
  obtain ⟨hi, rfl⟩ := List.getElem?_eq_some_iff.1 h
  rw [List.drop_eq_getElem_cons hi]
  rfl

theorem flat_take : ∀ (l : List Th) (i : Nat), (flat l).take (i * 5) = flat (l.take i)
  | l, 0 => by simp [flat]
  | [], i + 1 => by simp [flat]
  | x :: l, i + 1 => by
    show (x.cells ++ flat l).take ((i + 1) * 5) = _
    rw [List.take_succ_cons, List.take_append]
    have : x.cells.length = 5 := rfl
    rw [this, List.take_of_length_le (by rw [this]; omega)]
    show _ = x.cells ++ flat (l.take i)
    rw [← flat_take l i]
    congr 2
    omega

theorem flat_append : ∀ l m : List Th, flat (l ++ m) = flat l ++ flat m
  | [], m => rfl
  | x :: l, m => by
    show x.cells ++ flat (l ++ m) = (x.cells ++ flat l) ++ flat m
    rw [flat_append l m, List.append_assoc]

/-- No nil slice holds anything. -/
def nlOk (nl : Bool) (n : Nat) : Bool := !nl || n == 0
theorem nlOk_false (n : Nat) : nlOk false n = true := Eq.trans rfl rfl
theorem nlOk_zero (nl : Bool) : nlOk nl 0 = true := by cases nl <;> rfl
theorem nlOk_le {nl : Bool} {n m : Nat} (h : nlOk nl n = true) (hm : m ≤ n) : nlOk nl m = true := by
  cases nl with
  | false => rfl
  | true => simp only [nlOk, Bool.not_true, Bool.false_or, beq_iff_eq] at h ⊢; omega

def listOf : D → Option (List Th)
  | .sl nl _ n xs => match unflat xs with | some l => if n = l.length ∧ nlOk nl l.length = true then some l else none | none => none
  | _ => none

theorem listOf_eq {d : D} {l : List Th} (h : listOf d = some l) : ∃ nl tight, d = .sl nl tight l.length (flat l) ∧ nlOk nl l.length = true := by
  unfold listOf at h
  split at h
  · rename_i nl tight n xs
    split at h
    · rename_i l' hl
      split at h
      · rename_i hn
        cases h
        exact ⟨nl, tight, by rw [hn.1, unflat_eq _ _ hl], hn.2⟩
      · cases h
    · cases h
  · cases h

theorem listOf_flat {nl tight : Bool} {l : List Th} (h : nlOk nl l.length = true) : listOf (.sl nl tight l.length (flat l)) = some l := by
  simp only [listOf, unflat_flat]
  rw [if_pos ⟨trivial, h⟩]

/-- The thing at a place, if there is one. -/
def atI (l : List Th) (a : Int) : Option Th := if 0 ≤ a then l[a.toNat]? else none

theorem atI_some {l : List Th} {a : Int} {x : Th} (h : atI l a = some x) : 0 ≤ a ∧ a < l.length ∧ (flat l).drop (a.toNat * 5) = .str x.text :: .int .i64 x.value :: .int .i64 x.blind :: .int .i64 x.left :: .int .i64 x.right :: flat (l.drop (a.toNat + 1)) := by
  unfold atI at h
  split at h
  · obtain ⟨hi, _⟩ := List.getElem?_eq_some_iff.1 h
    exact ⟨by omega, by omega, flat_at h⟩
  · cases h

theorem atI_none {l : List Th} {a : Int} (h : atI l a = none) : ¬ (0 ≤ a ∧ a < l.length) := by
  unfold atI at h
  split at h
  · rw [List.getElem?_eq_none_iff] at h; omega
  · omega

theorem atI_in {l : List Th} {a : Int} (hl : l.length ≤ maxLen) : withinB a (IntKind.i64.wrap (l.length - 1)) = (atI l a).isSome := by
  have hm : maxLen ≤ 9223372036854775807 := by decide
  rw [IntWalk.i64_in _ (by omega)]
  unfold withinB
  cases h : atI l a with
  | none => have := atI_none h; simp; omega
  | some x => have := atI_some h; simp; omega

def Th.zero : Th := ⟨⟨#[]⟩, 0, 0, 0, 0⟩

def pairR (l : List Th) (a b : Int) : Th × Int :=
  match atI l a, atI l b with
  | some x, some y =>
    let v := IntKind.i64.wrap (x.value + y.value)
    let c := IntKind.i64.wrap (x.blind + y.blind)
    if decide (v > 1125899906842624) || decide (c > 1125899906842624) then (.zero, 3) else (⟨⟨#[]⟩, v, c, a, b⟩, 0)
  | _, _ => (.zero, 4)

def pairD (p : Th × Int) : D := .tup [.agg p.1.cells, .int .i64 p.2]

def Gpair : List D → Option D
  | [d, .int .i64 a, .int .i64 b] => match listOf d with | some l => if l.length ≤ maxLen then some (pairD (pairR l a b)) else none | none => none
  | _ => none

def Γ6 := ext Γ5 23 Gpair

theorem ok6 : GOk Try.prog Γ6 := by
  refine known tok ok5 mixed Try.func23 (by kernel_rfl) ⟨by kernel_rfl, by kernel_rfl⟩ fun ar r h => ?_
  unfold Gpair at h
  split at h
  · rename_i d a b
    split at h
    · rename_i l hl
      split at h
      · rename_i hlen
        cases h
        obtain ⟨nl, tight, rfl, hnl⟩ := listOf_eq hl
        refine ⟨Nat.le_of_ble_eq_true (by kernel_rfl), 10, vfunc_of rfl Try.ntmps23 Try.results23 ?_⟩
        cases ha : atI l a with
        | none =>
          simp only [Γ5, Γ4, Γ3, Γ2, Γ1, ext, Gwithin, atI_in hlen, ha, Option.isSome_none, br_true, br_false, runW_skip, runW_seq, runW_ret, runW_exit, runW_block, runW_loop, runW_pass_ret, runW_pass_exit, runW_blk_normal, runW_blk_ret, runW_blk_exit, runW_region, runW_drawn, runW_cond, tstC_true, tstC_false, runO_nil, runO_cons, runO_guard, tstO_true, tstO_false, tstO_true', tstO_false', runP_nil, runP_cons, runP_guard, tstP_true, tstP_false, tstP_true', tstP_false', stE_some, stP_some, stE_ite, stP_ite, pickO_true, pickO_false, pickP_true, pickP_false, doO_pick, doP_pick, doO_move, doP_move, doO_assign, doP_assign, doO_binOp, doP_binOp, doO_unOp, doP_unOp, doO_load, doP_load, doO_store, doP_store, doO_nilCheck, doP_nilCheck, doO_fieldAddr, doP_fieldAddr, doO_field, doP_field, doO_indexAddr, doP_indexAddr, doO_index, doP_index, doO_slice, doP_slice, doO_build, doP_build, doO_buildSlice, doP_buildSlice, doO_makeSlice, doP_makeSlice, doO_alloc, doP_alloc, doO_box, doP_box, doO_convert, doP_convert, doO_extract, doP_extract, doO_call, doP_call, doO_builtin, doP_builtin, okD_some, onT_some, boxE_some, allocE_some, convE_int, extE_tup, dstAt_zero, dstAt_succ, hasAt_zero, hasAt_succ, runW_nil, endW_normal, endW_ret, obind_some, upd_app, argT_nil, argT_zero, argT_succ, noRow_app, ↓reduceIte, reduceCtorEq, Nat.reduceEqDiff, Nat.reduceLT, Nat.reduceLeDiff, Nat.reduceAdd, Nat.reduceSub, Nat.reduceMul, true_and, and_true, fits_none, fits_some, ev, ofV, putT, binD, isShift, intD, unD, Bool.false_eq_true, resL, resD, cleanArg, cleanArgs, clean1, resAll, cellsV, frz, applyH, effField, effLoad, live, loadD, Ds.isA, effBuiltin, effCall, flatD, flatL, lenD, alive, List.map_cons, List.map_nil, List.drop_succ_cons, List.drop_zero, List.take_succ_cons, List.take_zero, List.length_cons, List.length_nil, List.contains_nil, List.nil_append, List.cons_append, List.append_nil, List.getElem?_cons_zero, List.getElem?_cons_succ, decide_true, decide_false, beq_self_eq_true, touch_binOp, touch_unOp, touch_load, touch_store, touch_nilCheck, touch_fieldAddr, touch_field, touch_indexAddr, touch_index, touch_makeSlice, touch_alloc, touch_box, touch_convert, touch_extract, touch_build, touch_buildSlice, touch_slice, touch_call, touch_builtin, nms_nil, nms_cons, nm, Option.toList, List.isEmpty_nil, List.isEmpty_cons, Option.map_none, Option.map_some, effStore, effNil, effPart, partD, effIndexAddr, effIndex, effSlice, effBuild, fillD, fieldAt, effBuildSlice, effMake, effAppend, content, putCells, eqD, eqC, eqL, fieldsFlat, kindOk, scalarDs, strD, shiftD, List.all_cons, List.all_nil, Option.isSome_some, plainC, Bool.and_true, Bool.true_and, Bool.and_self, Bool.not_true, Bool.not_false, and_self, Nat.zero_add, Nat.add_zero, Nat.zero_mul, beq_iff_eq, natOf, bnds, Nat.sub_zero, Nat.zero_le, Int.natCast_nonneg, Int.ofNat_lt, Int.ofNat_le, Int.toNat_natCast, Nat.le_refl, Option.some.injEq, repD_zero, repD_succ, Nat.le_zero_eq, Nat.one_ne_zero, Bool.or_self, Bool.or_true, Bool.true_or, Bool.or_false, Bool.false_or, le_maxLen, Int.reduceBNe, Int.reduceBEq, Int.reduceLT, Int.reduceLE, Int.reduceGT, Int.reduceGE, bne_self_eq_false, tab_2, tab_3, tab_4, tab_5, tab_9, tab_12, tab_21, tab_22, tab_23, tab_24, tab_27, tab_35, tab_36, tab_37, tab_38, tab_39, tab_41, tab_44, tab_60]
          simp only [pairD, pairR, ha, Th.zero, Th.cells]
        | some x =>
          cases hb' : atI l b with
          | none =>
            simp only [Γ5, Γ4, Γ3, Γ2, Γ1, ext, Gwithin, atI_in hlen, ha, hb', Option.isSome_none, Option.isSome_some, br_true, br_false, runW_skip, runW_seq, runW_ret, runW_exit, runW_block, runW_loop, runW_pass_ret, runW_pass_exit, runW_blk_normal, runW_blk_ret, runW_blk_exit, runW_region, runW_drawn, runW_cond, tstC_true, tstC_false, runO_nil, runO_cons, runO_guard, tstO_true, tstO_false, tstO_true', tstO_false', runP_nil, runP_cons, runP_guard, tstP_true, tstP_false, tstP_true', tstP_false', stE_some, stP_some, stE_ite, stP_ite, pickO_true, pickO_false, pickP_true, pickP_false, doO_pick, doP_pick, doO_move, doP_move, doO_assign, doP_assign, doO_binOp, doP_binOp, doO_unOp, doP_unOp, doO_load, doP_load, doO_store, doP_store, doO_nilCheck, doP_nilCheck, doO_fieldAddr, doP_fieldAddr, doO_field, doP_field, doO_indexAddr, doP_indexAddr, doO_index, doP_index, doO_slice, doP_slice, doO_build, doP_build, doO_buildSlice, doP_buildSlice, doO_makeSlice, doP_makeSlice, doO_alloc, doP_alloc, doO_box, doP_box, doO_convert, doP_convert, doO_extract, doP_extract, doO_call, doP_call, doO_builtin, doP_builtin, okD_some, onT_some, boxE_some, allocE_some, convE_int, extE_tup, dstAt_zero, dstAt_succ, hasAt_zero, hasAt_succ, runW_nil, endW_normal, endW_ret, obind_some, upd_app, argT_nil, argT_zero, argT_succ, noRow_app, ↓reduceIte, reduceCtorEq, Nat.reduceEqDiff, Nat.reduceLT, Nat.reduceLeDiff, Nat.reduceAdd, Nat.reduceSub, Nat.reduceMul, true_and, and_true, fits_none, fits_some, ev, ofV, putT, binD, isShift, intD, unD, Bool.false_eq_true, resL, resD, cleanArg, cleanArgs, clean1, resAll, cellsV, frz, applyH, effField, effLoad, live, loadD, Ds.isA, effBuiltin, effCall, flatD, flatL, lenD, alive, List.map_cons, List.map_nil, List.drop_succ_cons, List.drop_zero, List.take_succ_cons, List.take_zero, List.length_cons, List.length_nil, List.contains_nil, List.nil_append, List.cons_append, List.append_nil, List.getElem?_cons_zero, List.getElem?_cons_succ, decide_true, decide_false, beq_self_eq_true, touch_binOp, touch_unOp, touch_load, touch_store, touch_nilCheck, touch_fieldAddr, touch_field, touch_indexAddr, touch_index, touch_makeSlice, touch_alloc, touch_box, touch_convert, touch_extract, touch_build, touch_buildSlice, touch_slice, touch_call, touch_builtin, nms_nil, nms_cons, nm, Option.toList, List.isEmpty_nil, List.isEmpty_cons, Option.map_none, Option.map_some, effStore, effNil, effPart, partD, effIndexAddr, effIndex, effSlice, effBuild, fillD, fieldAt, effBuildSlice, effMake, effAppend, content, putCells, eqD, eqC, eqL, fieldsFlat, kindOk, scalarDs, strD, shiftD, List.all_cons, List.all_nil, Option.isSome_some, plainC, Bool.and_true, Bool.true_and, Bool.and_self, Bool.not_true, Bool.not_false, and_self, Nat.zero_add, Nat.add_zero, Nat.zero_mul, beq_iff_eq, natOf, bnds, Nat.sub_zero, Nat.zero_le, Int.natCast_nonneg, Int.ofNat_lt, Int.ofNat_le, Int.toNat_natCast, Nat.le_refl, Option.some.injEq, repD_zero, repD_succ, Nat.le_zero_eq, Nat.one_ne_zero, Bool.or_self, Bool.or_true, Bool.true_or, Bool.or_false, Bool.false_or, le_maxLen, Int.reduceBNe, Int.reduceBEq, Int.reduceLT, Int.reduceLE, Int.reduceGT, Int.reduceGE, bne_self_eq_false, tab_2, tab_3, tab_4, tab_5, tab_9, tab_12, tab_21, tab_22, tab_23, tab_24, tab_27, tab_35, tab_36, tab_37, tab_38, tab_39, tab_41, tab_44, tab_60]
            simp only [pairD, pairR, ha, hb', Th.zero, Th.cells]
          | some y =>
            obtain ⟨a1, a2, a3⟩ := atI_some ha
            obtain ⟨b1, b2, b3⟩ := atI_some hb'
            simp only [Γ5, Γ4, Γ3, Γ2, Γ1, ext, Gwithin, atI_in hlen, ha, hb', a1, a2, a3, b1, b2, b3, Option.isSome_none, Option.isSome_some, br_true, br_false, runW_skip, runW_seq, runW_ret, runW_exit, runW_block, runW_loop, runW_pass_ret, runW_pass_exit, runW_blk_normal, runW_blk_ret, runW_blk_exit, runW_region, runW_drawn, runW_cond, tstC_true, tstC_false, runO_nil, runO_cons, runO_guard, tstO_true, tstO_false, tstO_true', tstO_false', runP_nil, runP_cons, runP_guard, tstP_true, tstP_false, tstP_true', tstP_false', stE_some, stP_some, stE_ite, stP_ite, pickO_true, pickO_false, pickP_true, pickP_false, doO_pick, doP_pick, doO_move, doP_move, doO_assign, doP_assign, doO_binOp, doP_binOp, doO_unOp, doP_unOp, doO_load, doP_load, doO_store, doP_store, doO_nilCheck, doP_nilCheck, doO_fieldAddr, doP_fieldAddr, doO_field, doP_field, doO_indexAddr, doP_indexAddr, doO_index, doP_index, doO_slice, doP_slice, doO_build, doP_build, doO_buildSlice, doP_buildSlice, doO_makeSlice, doP_makeSlice, doO_alloc, doP_alloc, doO_box, doP_box, doO_convert, doP_convert, doO_extract, doP_extract, doO_call, doP_call, doO_builtin, doP_builtin, okD_some, onT_some, boxE_some, allocE_some, convE_int, extE_tup, dstAt_zero, dstAt_succ, hasAt_zero, hasAt_succ, runW_nil, endW_normal, endW_ret, obind_some, upd_app, argT_nil, argT_zero, argT_succ, noRow_app, ↓reduceIte, reduceCtorEq, Nat.reduceEqDiff, Nat.reduceLT, Nat.reduceLeDiff, Nat.reduceAdd, Nat.reduceSub, Nat.reduceMul, true_and, and_true, fits_none, fits_some, ev, ofV, putT, binD, isShift, intD, unD, Bool.false_eq_true, resL, resD, cleanArg, cleanArgs, clean1, resAll, cellsV, frz, applyH, effField, effLoad, live, loadD, Ds.isA, effBuiltin, effCall, flatD, flatL, lenD, alive, List.map_cons, List.map_nil, List.drop_succ_cons, List.drop_zero, List.take_succ_cons, List.take_zero, List.length_cons, List.length_nil, List.contains_nil, List.nil_append, List.cons_append, List.append_nil, List.getElem?_cons_zero, List.getElem?_cons_succ, decide_true, decide_false, beq_self_eq_true, touch_binOp, touch_unOp, touch_load, touch_store, touch_nilCheck, touch_fieldAddr, touch_field, touch_indexAddr, touch_index, touch_makeSlice, touch_alloc, touch_box, touch_convert, touch_extract, touch_build, touch_buildSlice, touch_slice, touch_call, touch_builtin, nms_nil, nms_cons, nm, Option.toList, List.isEmpty_nil, List.isEmpty_cons, Option.map_none, Option.map_some, effStore, effNil, effPart, partD, effIndexAddr, effIndex, effSlice, effBuild, fillD, fieldAt, effBuildSlice, effMake, effAppend, content, putCells, eqD, eqC, eqL, fieldsFlat, kindOk, scalarDs, strD, shiftD, List.all_cons, List.all_nil, Option.isSome_some, plainC, Bool.and_true, Bool.true_and, Bool.and_self, Bool.not_true, Bool.not_false, and_self, Nat.zero_add, Nat.add_zero, Nat.zero_mul, beq_iff_eq, natOf, bnds, Nat.sub_zero, Nat.zero_le, Int.natCast_nonneg, Int.ofNat_lt, Int.ofNat_le, Int.toNat_natCast, Nat.le_refl, Option.some.injEq, repD_zero, repD_succ, Nat.le_zero_eq, Nat.one_ne_zero, Bool.or_self, Bool.or_true, Bool.true_or, Bool.or_false, Bool.false_or, le_maxLen, Int.reduceBNe, Int.reduceBEq, Int.reduceLT, Int.reduceLE, Int.reduceGT, Int.reduceGE, bne_self_eq_false, tab_2, tab_3, tab_4, tab_5, tab_9, tab_12, tab_21, tab_22, tab_23, tab_24, tab_27, tab_35, tab_36, tab_37, tab_38, tab_39, tab_41, tab_44, tab_60]; repeat' (with_reducible (first | refine dyn_ok (by kernel_rfl) ?_ | exact dyn_alone (by kernel_rfl) | refine tstC_br (fun hb => ?_) (fun hb => ?_) | refine tstO_br (fun hb => ?_) (fun hb => ?_) | refine pickO_br (fun hb => ?_) (fun hb => ?_) | refine tstP_br (fun hb => ?_) (fun hb => ?_) | refine pickP_br (fun hb => ?_) (fun hb => ?_) | refine tstO_br' (fun hb => ?_) (fun hb => ?_) | refine tstP_br' (fun hb => ?_) (fun hb => ?_))) <;> (try simp only [hb, Γ5, Γ4, Γ3, Γ2, Γ1, ext, Gwithin, atI_in hlen, ha, hb', a1, a2, a3, b1, b2, b3, Option.isSome_none, Option.isSome_some, br_true, br_false, runW_skip, runW_seq, runW_ret, runW_exit, runW_block, runW_loop, runW_pass_ret, runW_pass_exit, runW_blk_normal, runW_blk_ret, runW_blk_exit, runW_region, runW_drawn, runW_cond, tstC_true, tstC_false, runO_nil, runO_cons, runO_guard, tstO_true, tstO_false, tstO_true', tstO_false', runP_nil, runP_cons, runP_guard, tstP_true, tstP_false, tstP_true', tstP_false', stE_some, stP_some, stE_ite, stP_ite, pickO_true, pickO_false, pickP_true, pickP_false, doO_pick, doP_pick, doO_move, doP_move, doO_assign, doP_assign, doO_binOp, doP_binOp, doO_unOp, doP_unOp, doO_load, doP_load, doO_store, doP_store, doO_nilCheck, doP_nilCheck, doO_fieldAddr, doP_fieldAddr, doO_field, doP_field, doO_indexAddr, doP_indexAddr, doO_index, doP_index, doO_slice, doP_slice, doO_build, doP_build, doO_buildSlice, doP_buildSlice, doO_makeSlice, doP_makeSlice, doO_alloc, doP_alloc, doO_box, doP_box, doO_convert, doP_convert, doO_extract, doP_extract, doO_call, doP_call, doO_builtin, doP_builtin, okD_some, onT_some, boxE_some, allocE_some, convE_int, extE_tup, dstAt_zero, dstAt_succ, hasAt_zero, hasAt_succ, runW_nil, endW_normal, endW_ret, obind_some, upd_app, argT_nil, argT_zero, argT_succ, noRow_app, ↓reduceIte, reduceCtorEq, Nat.reduceEqDiff, Nat.reduceLT, Nat.reduceLeDiff, Nat.reduceAdd, Nat.reduceSub, Nat.reduceMul, true_and, and_true, fits_none, fits_some, ev, ofV, putT, binD, isShift, intD, unD, Bool.false_eq_true, resL, resD, cleanArg, cleanArgs, clean1, resAll, cellsV, frz, applyH, effField, effLoad, live, loadD, Ds.isA, effBuiltin, effCall, flatD, flatL, lenD, alive, List.map_cons, List.map_nil, List.drop_succ_cons, List.drop_zero, List.take_succ_cons, List.take_zero, List.length_cons, List.length_nil, List.contains_nil, List.nil_append, List.cons_append, List.append_nil, List.getElem?_cons_zero, List.getElem?_cons_succ, decide_true, decide_false, beq_self_eq_true, touch_binOp, touch_unOp, touch_load, touch_store, touch_nilCheck, touch_fieldAddr, touch_field, touch_indexAddr, touch_index, touch_makeSlice, touch_alloc, touch_box, touch_convert, touch_extract, touch_build, touch_buildSlice, touch_slice, touch_call, touch_builtin, nms_nil, nms_cons, nm, Option.toList, List.isEmpty_nil, List.isEmpty_cons, Option.map_none, Option.map_some, effStore, effNil, effPart, partD, effIndexAddr, effIndex, effSlice, effBuild, fillD, fieldAt, effBuildSlice, effMake, effAppend, content, putCells, eqD, eqC, eqL, fieldsFlat, kindOk, scalarDs, strD, shiftD, List.all_cons, List.all_nil, Option.isSome_some, plainC, Bool.and_true, Bool.true_and, Bool.and_self, Bool.not_true, Bool.not_false, and_self, Nat.zero_add, Nat.add_zero, Nat.zero_mul, beq_iff_eq, natOf, bnds, Nat.sub_zero, Nat.zero_le, Int.natCast_nonneg, Int.ofNat_lt, Int.ofNat_le, Int.toNat_natCast, Nat.le_refl, Option.some.injEq, repD_zero, repD_succ, Nat.le_zero_eq, Nat.one_ne_zero, Bool.or_self, Bool.or_true, Bool.true_or, Bool.or_false, Bool.false_or, le_maxLen, Int.reduceBNe, Int.reduceBEq, Int.reduceLT, Int.reduceLE, Int.reduceGT, Int.reduceGE, bne_self_eq_false, tab_2, tab_3, tab_4, tab_5, tab_9, tab_12, tab_21, tab_22, tab_23, tab_24, tab_27, tab_35, tab_36, tab_37, tab_38, tab_39, tab_41, tab_44, tab_60])
            all_goals simp only [pairD, pairR, ha, hb', Th.zero, Th.cells, *, Bool.or_true, Bool.or_false, Bool.or_self, Bool.true_or, Bool.false_or, Bool.false_eq_true, ↓reduceIte]
      · cases h
    · cases h
  · cases h
end Go.Proofs.Ytcdckmfiknhiiaa.Vm
