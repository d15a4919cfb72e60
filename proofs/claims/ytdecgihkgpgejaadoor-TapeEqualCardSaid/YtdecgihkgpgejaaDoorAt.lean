/- The memory-free machine, part 7b: maps. -/
import Derived.Test.YtdecgihkgpgejaaDoorAs
import Derived.MapKept
namespace Go.Proofs.YtdecgihkgpgejaaDoor.Am
open Go.RowKit
set_option linter.unusedSimpArgs false
set_option linter.unusedVariables false

theorem findNow_int (n : Int) : ∀ (ks : List Int) (l : List MapEntry) (us : Nat → Value) (i : Nat), l.length = ks.length → (∀ j k, ks[j]? = some k → ∃ e : MapEntry, l[j]? = some e ∧ e.key = .int .i64 k ∧ e.val = us j) →
    Instr.findNow (.int .i64) (.int .i64 n) l i = some (if ks.contains n then some (i + ks.idxOf n, us (ks.idxOf n)) else none)
  | [], [], _, _, _, _ => by simp [Instr.findNow]
  | k :: ks, e :: l, us, i, hl, h => by
    obtain ⟨e', h1, h2, h3⟩ := h 0 k rfl
    simp only [List.getElem?_cons_zero, Option.some.injEq] at h1
    subst h1
    have ih := findNow_int n ks l (fun j => us (j + 1)) (i + 1) (by simpa using hl) (fun j k hj => by simpa using h (j + 1) k (by simpa using hj))
    by_cases hk : k = n
    · subst hk
      simp [Instr.findNow, h2, Instr.sameNow, h3, List.idxOf_cons]
    · have hk1 : (n == k) = false := by simp [Ne.symm hk]
      have hk2 : (k == n) = false := by simp [hk]
      simp only [Instr.findNow, h2, Instr.sameNow, if_true, hk1, ih, List.contains_cons, Bool.false_or, List.idxOf_cons, hk2, cond_false]
      have e1 : i + 1 + List.idxOf n ks = i + (List.idxOf n ks + 1) := by omega
      rw [e1]

theorem lookD_eq (z : D) (n : Int) : ∀ (ks : List Int) (vs : List D), vs.length = ks.length → lookD z ks vs n = if ks.contains n then vs.getD (ks.idxOf n) z else z
  | [], _, _ => by simp [lookD]
  | k :: ks, v :: vs, hl => by
    have ih := lookD_eq z n ks vs (by simpa using hl)
    by_cases hk : k = n
    · subst hk
      simp [lookD, List.idxOf_cons]
    · have hk1 : (n == k) = false := by simp [Ne.symm hk]
      have hk2 : (k == n) = false := by simp [hk]
      simp [lookD, hk, ih, List.idxOf_cons, hk1, hk2, Ne.symm hk]

section
variable {P : Program} {T : Nat → Option Ty} {N : Nat} {M : Nat → Prop} {L : Lent} {w0 : World} {blk : Nat → Option (Nat × Nat)} {V : Nat → Nat → Prop} {t : Nat → D} {h : Nat → Option Row} {a : Act} {w : World} {e : Nat} {o : Oper}

theorem mapTy_under (hT : TOk P T) {ty : Nat} {τ φ : Ty} (hτ : T ty = some τ) (hm : mapTy T τ = some φ) : ∃ kt et, P.underlying ty = some (.map kt et) ∧ P.underlying kt = some (.int .i64) ∧ T et = some φ := by
  unfold mapTy at hm
  split at hm
  · rename_i k el hds
    split at hm
    · rename_i κ φ' hκ hφ
      split at hm
      · rename_i hk
        simp only [Option.some.injEq] at hm
        subst hm
        obtain ⟨d, hd, hcv⟩ := under hT hτ
        obtain ⟨d2, hd2, hcv2⟩ := under hT hκ
        rw [hds] at hcv
        rw [hk] at hcv2
        refine ⟨k, el, ?_, ?_, hφ⟩
        · cases d <;> simp [conv] at hcv
          obtain ⟨rfl, rfl⟩ := hcv
          exact hd
        · cases d2 <;> simp [conv] at hcv2
          subst hcv2
          exact hd2
      · cases hm
    · cases hm
  · cases hm

theorem zeroV (hT : TOk P T) {ty : Nat} {φ : Ty} {z : D} (hφ : T ty = some φ) (hz : loadD φ (φ.zero.map ofV) = some z) (hp : (φ.zero.map ofV).all plainC = true) (w : World) (M : Nat → Prop) : ∃ zv, (zeroValue ty).run P w = .ok zv w ∧ RP w M z zv := by
  have hτ := hT ty φ hφ
  obtain ⟨d, i, zv, h1, h2, h3, h4, h5, h6, h7⟩ := hτ.get
  have ha := hτ.agg
  rw [h3] at ha
  simp only [Option.map_some, h6, Option.some.injEq] at ha
  refine ⟨zv, by simp [zeroValue, typeInfo, h3, h6], ?_⟩
  have hc := fun j x hj => zeros_ok φ.zero hp (w := w) (M := M) j x hj
  unfold loadD at hz
  rw [← ha] at hz
  cases zv with
  | agg cs =>
    simp only [isAggV, if_true, Option.some.injEq] at hz
    subst hz
    simp only [Value.cells] at h7
    subst h7
    refine .agg _ φ.zero (by simp) (fun j x hj => ?_) (fun x hx => ?_)
    · have := (hc j x hj).2
      simpa [Array.getD_eq_getD_getElem?, List.getD_eq_getElem?_getD] using this
    · obtain ⟨j, hj⟩ := List.getElem?_of_mem hx
      exact (hc j x hj).1
  | _ =>
    simp only [isAggV, Bool.false_eq_true, if_false] at hz
    split at hz
    · rename_i d hd
      simp only [Option.some.injEq] at hz
      subst hz
      have hc0 := (hc 0 d (by rw [hd]; rfl)).2
      rw [← h7] at hc0
      simpa [Value.cells] using hc0
    · cases hz

theorem Inv.mapRead (hI : Inv N M L w0 blk V t h a w) {m : D} {u : Value} {ks : List Int} {vs : List D} (hm : mapOf h m = some (ks, vs)) (hr : RT w (Own M h blk) h blk V m u) :
    vs.length = ks.length ∧ ∃ (ents : Array MapEntry) (us : Nat → Value), ents.size = ks.length ∧ ((u = .map none ∧ ents = #[]) ∨ ∃ b clock, u = .map (some b) ∧ w.heap[b]? = some (.map ents clock)) ∧ (∀ j k, ks[j]? = some k → ∃ e : MapEntry, ents[j]? = some e ∧ e.key = .int .i64 k ∧ e.val = us j) ∧ ∀ j x, vs[j]? = some x → RP w (Own M h blk) x (us j) := by
  cases m with
  | mp x v =>
    simp only [mapOf] at hm
    obtain ⟨g, r, h1, h2, h3, h4, h5, rfl, h6, ents, clock, h7, h8, us, h9, h10⟩ := hI.mapAt hm hr
    exact ⟨h6, ents, us, h8, .inr ⟨g.1, clock, rfl, h7⟩, h9, h10⟩
  | mpc ks' vs' =>
    simp only [mapOf, Option.some.injEq, Prod.mk.injEq] at hm
    obtain ⟨rfl, rfl⟩ := hm
    have hr' : RP w (Own M h blk) (.mpc ks' vs') u := hr
    cases hr' with
    | mpc _ _ mb us h1 h2 h3 h4 =>
      refine ⟨h1, ?_⟩
      cases mb with
      | none =>
        have := h2 rfl
        subst this
        exact ⟨#[], us, rfl, .inl ⟨rfl, rfl⟩, fun j k hj => by simp at hj, h4⟩
      | some b =>
        obtain ⟨k1, k2, ents, clock, k3, k4, k5⟩ := h3 b rfl
        exact ⟨ents, us, k4, .inr ⟨b, clock, rfl, k3⟩, k5, h4⟩
  | _ => simp [mapOf] at hm

theorem does_makeMap (hT : TOk P T) (hI : Inv N M L w0 blk V t h a w) {ty d : Nat} {τ : Ty} {E : Eff} (ho : o.op = .makeMap ty none) (hd : o.dst = some d) (hV : ¬ V d e) (hτ : T ty = some τ) (hE : effMakeMap T ty τ e d = some E) : Does P o a w (After N M L w0 V t h a e o.dst E) := by
  unfold effMakeMap at hE
  split at hE
  · simp only [Option.some.injEq] at hE
    subst hE
    have hb := (Below.refl w.heap.size w).alloc (Nat.le_refl _) (.map #[] 0)
    have hI' := hI.adoptG (w' := w.alloc (.map #[] 0)) (h1 := h) (old := none) (d := d) (e := e) (r0 := ⟨e, ty, [.mpc [] []], false, true, true⟩) (go := some (w.heap.size, 0)) hb.os hb.tape hb.output hb.size (fun k hk _ => Below.heap_alloc w _ k hk) (fun y hy => by cases hy) rfl hV
      ⟨.inl (Nat.le_refl _), by
        show MapLies _ _ _ _
        exact ⟨[], [], rfl, rfl, #[], 0, heap_alloc_new w _, rfl, fun _ => undef, fun j k hj => by simp at hj, fun j x hj => by simp at hj⟩⟩ rfl rfl
    refine does_value (v := .map (some w.heap.size)) (w' := w.alloc (.map #[] 0)) ?_ ⟨upd blk d (some (w.heap.size, 0)), ?_, ?_⟩
    · simp [execOp, ho, Instr.makeMap, Result.andThen]
    · refine hI'.weaken fun x v hx => ?_
      rcases hx with hx | ⟨rfl, rfl⟩
      · exact .inl hx
      · exact .inr ⟨hd, rfl⟩
    · exact ⟨.inr ⟨hd, rfl⟩, fun _ _ _ => ⟨(w.heap.size, 0), upd_same _ _ _, rfl⟩⟩
  · cases hE

theorem does_lookup (hT : TOk P T) (hI : Inv N M L w0 blk V t h a w) {ty : Nat} {m i : Operand} {ok : Bool} {τ : Ty} {E : Eff} (ho : o.op = .lookup ty m i ok) (hτ : T ty = some τ) (hE : effLookup T τ h (ev t m) (ev t i) ok = some E) : Does P o a w (After N M L w0 V t h a e o.dst E) := by
  unfold effLookup at hE
  split at hE
  · rename_i φ ks vs n hmt hmo hi
    split at hE
    · rename_i z hz
      split at hE
      · rename_i hpl
        simp only [Option.some.injEq] at hE
        subst hE
        obtain ⟨kt, et, hu1, hu2, hφ⟩ := mapTy_under hT hτ hmt
        obtain ⟨hlen, ents, us, hsz, hmap, hk, hv⟩ := hI.mapRead hmo (hI.ev m)
        have hiu : a.eval i = .int .i64 n := by have := hI.ev i; rw [hi] at this; exact RT_int this
        obtain ⟨zv, hzr, hzp⟩ := zeroV hT hφ hz hpl w (Own M h blk)
        have hfind := findNow_int n ks ents.toList us 0 (by simpa using hsz) (fun j k hj => by simpa using hk j k hj)
        rw [Nat.zero_add] at hfind
        have hkey : MapKept.IsKey (.int .i64) (.int .i64 n) := rfl
        have hck := MapKept.run_checkKey (w := w) hu2 hkey ents.isEmpty 9999
        have hfk := MapKept.run_findKey (w := w) hu2 hfind
        have hl := lookD_eq (canonA z) n ks vs hlen
        have hrun : (execOp a.eval o).run P w = .ok (.value (if ok then .tuple #[if ks.contains n then us (ks.idxOf n) else zv, .bool (ks.contains n)] else if ks.contains n then us (ks.idxOf n) else zv)) w := by
          rcases hmap with ⟨hm0, rfl⟩ | ⟨b, clock, hmb, hheap⟩
          · have hk0 : ks = [] := by simpa using hsz.symm
            subst hk0
            simp only [List.contains_nil, Bool.false_eq_true, if_false] at hfk ⊢
            cases ok <;> simp [execOp, ho, Instr.lookup, run_underlying hu1, hm0, hiu, hck, hfk, hzr, Result.andThen] <;> simp_all
          · have hgo := MapKept.run_getObj_map (P := P) hheap
            cases hc : ks.contains n with
            | true =>
              rw [hc] at hfk
              simp only [if_true] at hfk
              cases ok <;> simp [execOp, ho, Instr.lookup, run_underlying hu1, hmb, hiu, hgo, hck, hfk, Result.andThen]
            | false =>
              rw [hc] at hfk
              simp only [Bool.false_eq_true, if_false] at hfk
              cases ok <;> simp [execOp, ho, Instr.lookup, run_underlying hu1, hmb, hiu, hgo, hck, hfk, hzr, Result.andThen]
        have hres : RP w (Own M h blk) (lookD (canonA z) ks vs n) (if ks.contains n then us (ks.idxOf n) else zv) := by
          rw [hl]
          split
          · rename_i hc
            have hlt : ks.idxOf n < vs.length := by rw [hlen]; exact List.idxOf_lt_length_of_mem (by simpa using hc)
            refine hv _ _ ?_
            simp [List.getD_eq_getElem?_getD, hlt]
          · exact hzp.canonA
        refine does_value hrun (After.pure_ hI ?_)
        cases ok with
        | false => exact RT_of_RP hres
        | true =>
          refine RT_of_RP (.tup _ [_, _] rfl fun j x hj => ?_)
          match j, hj with
          | 0, hj => simp only [List.getElem?_cons_zero, Option.some.injEq] at hj; subst hj; exact hres
          | 1, hj => simp only [List.getElem?_cons_succ, List.getElem?_cons_zero, Option.some.injEq] at hj; subst hj; exact .bool _
          | j + 2, hj => simp at hj
      · cases hE
    · cases hE
  · cases hE

theorem Inv.valM (hI : Inv N M L w0 blk V t h a w) {d d' : D} {fr : List Nat} {u : Value} {M' : Nat → Prop} (hc : valM h d = some (d', fr)) (hl : Less M h blk fr M') (hr : RT w (Own M h blk) h blk V d u) : RP w M' d' u := by
  have hk : ∀ b, b < w.heap.size → ¬ Own M h blk b → b < w.heap.size ∧ ¬ M' b ∧ w.heap[b]? = w.heap[b]? := fun b h1 h2 => ⟨h1, fun hb => h2 (hl.le b hb), rfl⟩
  have one : ∀ d, Am.valM h d = (match Am.clean1 h d with | some (d', fr) => some (canon d', fr) | none => none) → Am.valM h d = some (d', fr) → RT w (Own M h blk) h blk V d u → RP w M' d' u := by
    intro d he hc hr
    rw [he] at hc
    split at hc
    · rename_i d1 fr1 h1
      simp only [Option.some.injEq, Prod.mk.injEq] at hc
      obtain ⟨rfl, rfl⟩ := hc
      exact (hI.clean1 h1 hl hr).1.canon
    · cases hc
  cases d with
  | agg xs =>
    simp only [Am.valM, Option.some.injEq, Prod.mk.injEq] at hc
    obtain ⟨rfl, rfl⟩ := hc
    exact (RP.keep hk (show RP w (Own M h blk) (.agg xs) u from hr)).canonA
  | _ => exact one _ rfl hc hr

theorem putK_len (ks : List Int) (vs : List D) (n : Int) (d : D) (h : vs.length = ks.length) : (putV ks vs n d).length = (putK ks n).length := by
  unfold putV putK
  split <;> simp [h]

theorem does_mapUpdate (hT : TOk P T) (hI : Inv N M L w0 blk V t h a w) {ty : Nat} {m i x : Operand} {τ : Ty} {E : Eff} (ho : o.op = .mapUpdate ty m i x ∨ o.op = .insert ty m i x) (hτ : T ty = some τ) (hE : effMapUpdate T τ h (ev t m) (ev t i) (ev t x) = some E) : Does P o a w (After N M L w0 V t h a e o.dst E) := by
  have hm := hI.ev m
  unfold effMapUpdate at hE
  split at hE
  · rename_i φ y v n d fr hmt hmo hi hval
    rw [hmo] at hm
    split at hE
    · rename_i r hr
      split at hE
      · rename_i ks vs hlm
        split at hE
        · rename_i hcond
          obtain ⟨hfz, hnf⟩ := hcond
          simp only [Option.some.injEq] at hE
          subst hE
          obtain ⟨kt, et, hu1, hu2, hφ⟩ := mapTy_under hT hτ hmt
          have hiu : a.eval i = .int .i64 n := by have := hI.ev i; rw [hi] at this; exact RT_int this
          have hIf := hI.freeze fr
          have hvp := hI.valM hval (hI.less_freeze fr) (hI.ev x)
          obtain ⟨g, r', h1, h2, h3, h4, h5, hmu, _⟩ := hI.mapAt hlm hm
          rw [hr] at h1
          simp only [Option.some.injEq] at h1
          subst h1
          have hr1 : applyH h (frz h fr) y = some r := by rw [frz_notin hnf]; exact hr
          have hi2 := hIf.rowIs hr1 h5
          unfold RowIs at hi2
          rw [h3] at hi2
          obtain ⟨ks', vs', i1, hlen, ents, clock, hheap, hsz, us, hk, hv⟩ := hi2
          rw [h4] at i1
          simp only [List.cons.injEq, D.mpc.injEq, and_true] at i1
          obtain ⟨rfl, rfl⟩ := i1
          have hfind := findNow_int n ks ents.toList us 0 (by simpa using hsz) (fun j k hj => by simpa using hk j k hj)
          rw [Nat.zero_add] at hfind
          have hkey : MapKept.IsKey (.int .i64) (.int .i64 n) := rfl
          have hck := MapKept.run_checkKey (w := w) hu2 hkey false 9999
          have hfk := MapKept.run_findKey (w := w) hu2 hfind
          have hgo := MapKept.run_getObj_map (P := P) hheap
          have hlt : g.1 < w.heap.size := (Array.getElem?_eq_some_iff.1 hheap).1
          -- what the new entries are
          have key : ∃ (ents' : Array MapEntry) (clock' : Nat) (us' : Nat → Value), (execOp a.eval o).run P w = .ok .skip { w with heap := w.heap.setIfInBounds g.1 (.map ents' clock') } ∧ ents'.size = (putK ks n).length ∧ (∀ j k, (putK ks n)[j]? = some k → ∃ e : MapEntry, ents'[j]? = some e ∧ e.key = .int .i64 k ∧ e.val = us' j) ∧ ∀ j z, (putV ks vs n d)[j]? = some z → RP w (Own M (applyH h (frz h fr)) blk) z (us' j) := by
            cases hc : ks.contains n with
            | true =>
              rw [hc] at hfk
              simp only [if_true] at hfk
              have hj : ks.idxOf n < ks.length := List.idxOf_lt_length_of_mem (by simpa using hc)
              have hkn : ks[ks.idxOf n]? = some n := by rw [List.getElem?_eq_getElem hj]; simp
              obtain ⟨e0, q1, q2, q3⟩ := hk _ _ hkn
              have hgk : (((ents[ks.idxOf n]?).map (·.key)).getD (.int .i64 n)) = .int .i64 n := by rw [q1]; exact q2
              have hks := MapKept.run_keyThatStays (P := P) (w := w) hkey
              refine ⟨ents.modify (ks.idxOf n) (fun e => { e with key := .int .i64 n, val := a.eval x }), clock, fun j => if j = ks.idxOf n then a.eval x else us j, ?_, ?_, fun j k hjk => ?_, fun j z hjz => ?_⟩
              · have hset := fun ob => MapKept.run_setObj_map (P := P) ob hheap
                rcases ho with ho | ho <;> simp [execOp, ho, Instr.mapUpdate, run_underlying hu1, hmu, hiu, hgo, hck, hfk, hgk, hks, hset, Result.andThen]
              · simp only [Array.size_modify, putK, hc, if_true]; exact hsz
              · simp only [putK, hc, if_true] at hjk
                obtain ⟨e1, p1, p2, p3⟩ := hk j k hjk
                by_cases hje : ks.idxOf n = j
                · subst hje
                  rw [hkn] at hjk
                  simp only [Option.some.injEq] at hjk
                  subst hjk
                  exact ⟨{ e1 with key := .int .i64 n, val := a.eval x }, by simp [Array.getElem?_modify, p1], rfl, by simp⟩
                · exact ⟨e1, by simp [Array.getElem?_modify, hje, p1], p2, by rw [p3]; exact (if_neg (Ne.symm hje)).symm⟩
              · simp only [putV, hc, if_true] at hjz
                rw [List.getElem?_set] at hjz
                by_cases hje : ks.idxOf n = j
                · subst hje
                  simp only [if_true] at hjz
                  split at hjz
                  · simp only [Option.some.injEq] at hjz
                    subst hjz
                    simp only [if_true]
                    exact hvp
                  · cases hjz
                · rw [if_neg hje] at hjz
                  simp only [if_neg (Ne.symm hje)]
                  exact hv j z hjz
            | false =>
              rw [hc] at hfk
              simp only [Bool.false_eq_true, if_false] at hfk
              refine ⟨ents.push { key := .int .i64 n, val := a.eval x, born := clock }, clock + 1, fun j => if j < ks.length then us j else a.eval x, ?_, ?_, fun j k hjk => ?_, fun j z hjz => ?_⟩
              · have hset := fun ob => MapKept.run_setObj_map (P := P) ob hheap
                rcases ho with ho | ho <;> simp [execOp, ho, Instr.mapUpdate, run_underlying hu1, hmu, hiu, hgo, hck, hfk, hset, Result.andThen]
              · simp only [Array.size_push, putK, hc, Bool.false_eq_true, if_false, List.length_append, List.length_cons, List.length_nil]; omega
              · simp only [putK, hc, Bool.false_eq_true, if_false] at hjk
                by_cases hje : j < ks.length
                · rw [List.getElem?_append_left hje] at hjk
                  obtain ⟨e1, p1, p2, p3⟩ := hk j k hjk
                  exact ⟨e1, by rw [Array.getElem?_push_lt (by omega)]; rw [← p1]; exact (Array.getElem?_eq_getElem (by omega)).symm, p2, by rw [p3]; exact (if_pos hje).symm⟩
                · rw [List.getElem?_append_right (by omega)] at hjk
                  have hj0 : j = ks.length := by
                    have := (List.getElem?_eq_some_iff.1 hjk).1
                    simp at this
                    omega
                  subst hj0
                  simp only [Nat.sub_self, List.getElem?_cons_zero, Option.some.injEq] at hjk
                  subst hjk
                  exact ⟨_, by rw [← hsz]; exact Array.getElem?_push_size, rfl, by simp⟩
              · simp only [putV, hc, Bool.false_eq_true, if_false] at hjz
                by_cases hje : j < ks.length
                · rw [List.getElem?_append_left (by omega)] at hjz
                  simp only [if_pos hje]
                  exact hv j z hjz
                · rw [List.getElem?_append_right (by omega)] at hjz
                  have hj0 : j = vs.length := by
                    have := (List.getElem?_eq_some_iff.1 hjz).1
                    simp at this
                    omega
                  subst hj0
                  simp only [Nat.sub_self, List.getElem?_cons_zero, Option.some.injEq] at hjz
                  subst hjz
                  simp only [if_neg hje]
                  exact hvp
          obtain ⟨ents', clock', us', hrun, hsz', hk', hv'⟩ := key
          have hset := MapKept.heap_set (o' := .map ents' clock') hheap
          have hhs : (w.heap.setIfInBounds g.1 (.map ents' clock')).size = w.heap.size := by simp
          have hfin := hIf.rewriteG (r0 := ⟨r.v, r.ty, [.mpc (putK ks n) (putV ks vs n d)], false, true, true⟩) (w' := { w with heap := w.heap.setIfInBounds g.1 (.map ents' clock') }) hr1 hfz rfl rfl rfl rfl (by show w.heap.size ≤ (w.heap.setIfInBounds g.1 _).size; rw [hhs]; exact Nat.le_refl _)
            (fun b _ hb => hset.2 b (hb g h5)) (by
              rw [h5]
              refine ⟨by simp [World.shape?, hset.1, hheap], ?_⟩
              show MapLies _ _ _ _
              refine ⟨_, _, rfl, putK_len ks vs n d hlen, ents', clock', hset.1, hsz', us', hk', fun j z hjz => (hv' j z hjz).keep fun b q1 q2 => ⟨by show b < (w.heap.setIfInBounds g.1 _).size; rw [hhs]; exact q1, q2, hset.2 b (fun e => q2 (.inr ⟨y, r, g, hr1, hfz, h5, e.symm⟩))⟩⟩) (fun hh => by cases hh)
          refine .inr (.inl ⟨_, hrun, blk, ?_, trivial⟩)
          rw [applyH_one]
          exact hfin.weaken fun _ _ h => .inl h
        · cases hE
      · cases hE
    · cases hE
  · cases hE
end
end Go.Proofs.YtdecgihkgpgejaaDoor.Am
