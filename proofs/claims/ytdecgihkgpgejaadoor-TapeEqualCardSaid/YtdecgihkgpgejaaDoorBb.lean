/- The memory-free machine, part 15: regions, code, functions. -/
import Derived.Test.YtdecgihkgpgejaaDoorBa
import Derived.Deep.LoopGhost
namespace Go.Proofs.YtdecgihkgpgejaaDoor.Am
open Go.RowKit
set_option linter.unusedSimpArgs false
set_option linter.unusedVariables false

def runL (T : Nat → Option Ty) (Γ : Env) (N e : Nat) (ops : Array Oper) : List Oper → (Nat → D) → (Nat → Option Row) → Option ((Nat → D) × (Nat → Option Row) × List Foot)
  | [], t, h => some (t, h, [])
  | o :: l, t, h =>
    match step1 T Γ N e ops o t h with
    | some (t1, h1, f) =>
      match runL T Γ N e ops l t1 h1 with
      | some (t2, h2, fs) => some (t2, h2, f :: fs)
      | none => none
    | none => none

/-- The static checks of a region. -/
def nodupB : List Nat → Bool
  | [] => true
  | x :: l => !l.contains x && nodupB l

def dstsOk (ops : Array Oper) : Bool := nodupB (ops.toList.filterMap (·.dst))

def apartAt (ops : Array Oper) (j i : Nat) : Bool :=
  match ops[j]?, ops[i]? with
  | some oj, some oi => oj.apart ops oi
  | _, _ => true

def drawOk (ops : Array Oper) : Bool :=
  (ops.toList.zipIdx.all fun p => (direct p.1).all fun d => decide (d < p.2)) &&
  ((List.range ops.size).all fun i => (List.range i).all fun j => ((clos ops).getD i []).contains j || apartAt ops j i)

/-- The pairs of operations of which the order is open. -/
def openPairs (ops : Array Oper) : List (Nat × Nat) := (List.range ops.size).flatMap fun i => ((List.range i).filter fun j => !((clos ops).getD i []).contains j).map fun j => (j, i)

def pairOk (fs : List Foot) (p : Nat × Nat) : Bool :=
  match fs[p.1]?, fs[p.2]? with
  | some f, some g => f.q && g.q || disj f.tc g.tc
  | _, _ => false

def dynOk (ops : Array Oper) (fs : List Foot) : Bool := (openPairs ops).all (pairOk fs)

inductive Ex where
  | normal
  | exit (n : Nat)
  | ret

structure St where
  t : Nat → D
  h : Nat → Option Row
  e : Nat

def iter (f : St → Option (Ex × St)) : Nat → St → Option (Ex × St)
  | 0, _ => none
  | n + 1, s =>
    match f s with
    | some (.normal, s1) => iter f n s1
    | r => r

def vregion (T : Nat → Option Ty) (Γ : Env) (N : Nat) (ops : Array Oper) (draw : Bool) (s : St) : Option (Ex × St) :=
  match runL T Γ N s.e ops ops.toList s.t s.h with
  | some (t, h, fs) => if !draw || dynOk ops fs then some (.normal, ⟨t, h, s.e + 1⟩) else none
  | none => none

def vcond (d : D) (x y : Option (Ex × St)) : Option (Ex × St) :=
  match d with
  | .bool b => if b then x else y
  | _ => none

def vseq (r : Option (Ex × St)) (k : St → Option (Ex × St)) : Option (Ex × St) :=
  match r with
  | some (.normal, s) => k s
  | r => r

def vblock (id : Nat) (r : Option (Ex × St)) : Option (Ex × St) :=
  match r with
  | some (.exit n, s) => if n = id then some (.normal, s) else some (.exit n, s)
  | r => r

def vcode (T : Nat → Option Ty) (Γ : Env) (N F : Nat) : Code → St → Option (Ex × St)
  | .skip, s => some (.normal, s)
  | .region _ ops draw, s => vregion T Γ N ops draw s
  | .seq a b, s => vseq (vcode T Γ N F a s) (vcode T Γ N F b)
  | .cond c x y, s => vcond (ev s.t c) (vcode T Γ N F x s) (vcode T Γ N F y s)
  | .block id b, s => vblock id (vcode T Γ N F b s)
  | .loop b, s => iter (vcode T Γ N F b) F s
  | .exit id, s => some (.exit id, s)
  | .ret, s => some (.ret, s)
  | _, _ => none

def codeOk : Code → Bool
  | .region _ ops draw => dstsOk ops && (!draw || drawOk ops)
  | .seq a b => codeOk a && codeOk b
  | .cond _ x y => codeOk x && codeOk y
  | .block _ b => codeOk b
  | .loop b => codeOk b
  | _ => true

section
variable {P : Program} {T : Nat → Option Ty} {N : Nat} {M : Nat → Prop} {L : Lent} {w0 : World} {blk : Nat → Option (Nat × Nat)} {t : Nat → D} {h : Nat → Option Row} {a : Act} {w : World} {e : Nat} {o : Oper} {Γ : Env} {ops : Array Oper}

theorem nodupB_ok : ∀ {l : List Nat}, nodupB l = true → l.Nodup
  | [], _ => List.nodup_nil
  | x :: l, h => by
    simp only [nodupB, Bool.and_eq_true, Bool.not_eq_true', List.contains_eq_mem, decide_eq_false_iff_not] at h
    exact List.nodup_cons.2 ⟨h.1, nodupB_ok h.2⟩

theorem dsts_disjoint : ∀ {l : List Oper} {done : List Nat}, (l.filterMap (·.dst)).Nodup → (∀ o ∈ l, ∀ d, o.dst = some d → d ∉ done) → ∀ o l', l = o :: l' → (l'.filterMap (·.dst)).Nodup ∧ ∀ o' ∈ l', ∀ d, o'.dst = some d → d ∉ o.dst.toList ++ done := by
  intro l done hn hd o l' he
  subst he
  cases ho : o.dst with
  | none =>
    rw [List.filterMap_cons_none ho] at hn
    exact ⟨hn, fun o' ho' d hd' => by simpa using hd o' (by simp [ho']) d hd'⟩
  | some x =>
    rw [List.filterMap_cons_some ho] at hn
    obtain ⟨h1, h2⟩ := List.nodup_cons.1 hn
    refine ⟨h2, fun o' ho' d hd' hm => ?_⟩
    simp only [Option.toList_some, List.singleton_append, List.mem_cons] at hm
    rcases hm with rfl | hm
    · exact h1 (List.mem_filterMap.2 ⟨o', ho', hd'⟩)
    · exact hd o' (by simp [ho']) d hd' hm

theorem wpList_run (hT : TOk P T) (hΓ : GOk P Γ) {Q : Exit → Act → World → Prop} : ∀ {l : List Oper} {t t' : Nat → D} {h h' : Nat → Option Row} {fs : List Foot} {a : Act} {w : World} {blk : Nat → Option (Nat × Nat)} {done : List Nat},
    runL T Γ N e ops l t h = some (t', h', fs) → (l.filterMap (·.dst)).Nodup → (∀ o ∈ l, ∀ d, o.dst = some d → d ∉ done) → Inv N M L w0 blk (Vd e done) t h a w →
    (∀ a' w' blk' done, Inv N M L w0 blk' (Vd e done) t' h' a' w' → Q .normal a' w') → wpList P ops Q l a w
  | [], t, t', h, h', fs, a, w, blk, done, hr, _, _, hI, hQ => by
    simp only [runL, Option.some.injEq, Prod.mk.injEq] at hr
    obtain ⟨rfl, rfl, _⟩ := hr
    exact hQ a w blk done hI
  | o :: l, t, t', h, h', fs, a, w, blk, done, hr, hn, hd, hI, hQ => by
    simp only [runL] at hr
    split at hr
    · rename_i t1 h1 f hs
      split at hr
      · rename_i t2 h2 fs2 hr2
        simp only [Option.some.injEq, Prod.mk.injEq] at hr
        obtain ⟨rfl, rfl, _⟩ := hr
        obtain ⟨hn', hd'⟩ := dsts_disjoint hn hd o l rfl
        have := step_wp (K := wpList P ops Q l) (Q := Q) hT hΓ hI hs (hd o (by simp)) (fun a' w' blk' hI' => wpList_run hT hΓ hr2 hn' hd' hI' hQ)
        unfold wpList
        exact this
      · cases hr
    · cases hr

theorem runI_of_runL {F : Nat → Foot} : ∀ {l : List Oper} {k : Nat} {t t' : Nat → D} {h h' : Nat → Option Row} {fs : List Foot}, runL T Γ N e ops l t h = some (t', h', fs) → (∀ j, l[j]? = ops[k + j]?) → (∀ j f, fs[j]? = some f → F (k + j) = f) →
    fs.length = l.length ∧ RunI T Γ N e ops F (List.range' k l.length) t h t' h'
  | [], k, t, t', h, h', fs, hr, _, _ => by
    simp only [runL, Option.some.injEq, Prod.mk.injEq] at hr
    obtain ⟨rfl, rfl, rfl⟩ := hr
    exact ⟨rfl, rfl, rfl⟩
  | o :: l, k, t, t', h, h', fs, hr, hl, hF => by
    simp only [runL] at hr
    split at hr
    · rename_i t1 h1 f hs
      split at hr
      · rename_i t2 h2 fs2 hr2
        simp only [Option.some.injEq, Prod.mk.injEq] at hr
        obtain ⟨rfl, rfl, rfl⟩ := hr
        obtain ⟨i1, i2⟩ := runI_of_runL (k := k + 1) hr2 (fun j => by have := hl (j + 1); simpa [Nat.add_assoc, Nat.add_comm 1 j] using this) (fun j f' hj => by have := hF (j + 1) f' (by simpa using hj); rwa [show k + (j + 1) = k + 1 + j by omega] at this)
        refine ⟨by simp [i1], o, t1, h1, by have := hl 0; simpa using this.symm, ?_, i2⟩
        have := hF 0 f rfl
        rw [Nat.add_zero] at this
        rw [this]
        exact hs
      · cases hr
    · cases hr

def Holds (N : Nat) (M : Nat → Prop) (L : Lent) (w0 : World) (s : St) (a : Act) (w : World) : Prop := ∃ blk, Inv N M L w0 blk (fun _ v => v < s.e) s.t s.h a w

theorem vregion_sound (hT : TOk P T) (hΓ : GOk P Γ) (hm : P.follows .mixedOrders = true) {id : Nat} {draw : Bool} {s : St} {x : Ex} {s' : St} {Q : Exit → Act → World → Prop} (hr : vregion T Γ N ops draw s = some (x, s')) (hok : (dstsOk ops && (!draw || drawOk ops)) = true)
    (hH : Holds N M L w0 s a w) (hQ : ∀ a' w', Holds N M L w0 s' a' w' → Q .normal a' w') : x = .normal ∧ (Code.region id ops draw).wp P Q a w := by
  unfold vregion at hr
  split at hr
  · rename_i t h fs hrun
    split at hr
    · rename_i hdyn
      simp only [Option.some.injEq, Prod.mk.injEq] at hr
      obtain ⟨rfl, rfl⟩ := hr
      refine ⟨rfl, ?_⟩
      simp only [Bool.and_eq_true] at hok
      have hnd : (ops.toList.filterMap (·.dst)).Nodup := nodupB_ok hok.1
      obtain ⟨blk, hI⟩ := hH
      have hfin : ∀ a' w' blk' done, Inv N M L w0 blk' (Vd s.e done) t h a' w' → Q .normal a' w' := by
        intro a' w' blk' done hI'
        refine hQ a' w' ⟨blk', hI'.weaken fun x v hx => ?_⟩
        rcases hx with hx | ⟨hx, _⟩
        · simp only; omega
        · simp only; omega
      cases draw with
      | false =>
        refine wp_region_list ?_
        exact wpList_run hT hΓ hrun hnd (done := []) (fun o _ d _ => by simp) (hI.weaken fun x v hx => .inl hx) hfin
      | true =>
        simp only [Bool.not_true, Bool.false_or] at hdyn hok
        refine wp_region_any hm ?_
        have hdr := hok.2
        simp only [drawOk, Bool.and_eq_true] at hdr
        let F : Nat → Foot := fun i => fs.getD i ⟨[], true⟩
        obtain ⟨hlen, hRun⟩ := runI_of_runL (F := F) (k := 0) hrun (fun j => by simp) (fun j f hj => by simp [F, List.getD, hj])
        have hedge : ∀ i o, ops[i]? = some o → ∀ d ∈ direct o, d < i := by
          intro i o ho d hd
          have h1 := hdr.1
          rw [List.all_eq_true] at h1
          have hmem : (o, i) ∈ ops.toList.zipIdx := by
            rw [List.mem_zipIdx_iff_getElem?]
            simpa using ho
          have := h1 _ hmem
          rw [List.all_eq_true] at this
          simpa using this d hd
        have hdst : ∀ (i j : Nat) (oi oj : Oper) (d : Nat), ops[i]? = some oi → ops[j]? = some oj → oi.dst = some d → oj.dst = some d → i = j := by
          have key : ∀ (l : List Oper), (l.filterMap (·.dst)).Nodup → ∀ (i j : Nat) (oi oj : Oper) (d : Nat), l[i]? = some oi → l[j]? = some oj → oi.dst = some d → oj.dst = some d → i = j := by
            intro l
            induction l with
            | nil => intro _ i j oi oj d hi; simp at hi
            | cons o l ih =>
              intro hn i j oi oj d hi hj hdi hdj
              have hn' : (l.filterMap (·.dst)).Nodup := by
                cases ho : o.dst with
                | none => rw [List.filterMap_cons_none ho] at hn; exact hn
                | some x => rw [List.filterMap_cons_some ho] at hn; exact (List.nodup_cons.1 hn).2
              have hnot : ∀ (k : Nat) (ok : Oper), l[k]? = some ok → o.dst = some d → ok.dst = some d → False := by
                intro k ok hk ho hkd
                rw [List.filterMap_cons_some ho] at hn
                exact (List.nodup_cons.1 hn).1 (List.mem_filterMap.2 ⟨ok, List.mem_of_getElem? hk, hkd⟩)
              cases i with
              | zero =>
                simp only [List.getElem?_cons_zero, Option.some.injEq] at hi
                subst hi
                cases j with
                | zero => rfl
                | succ j => exact (hnot j oj (by simpa using hj) hdi hdj).elim
              | succ i =>
                cases j with
                | zero =>
                  simp only [List.getElem?_cons_zero, Option.some.injEq] at hj
                  subst hj
                  exact (hnot i oi (by simpa using hi) hdj hdi).elim
                | succ j => rw [ih hn' i j oi oj d (by simpa using hi) (by simpa using hj) hdi hdj]
          intro i j oi oj d hi hj
          exact key ops.toList hnd i j oi oj d (by simpa using hi) (by simpa using hj)
        have hpairs : PairsOk ops F := by
          intro j i hji hi
          by_cases hc : j ∈ (clos ops).getD i []
          · exact .inl hc
          · refine .inr ⟨fun oj oi hoj hoi => ?_, ?_⟩
            · have h2 := hdr.2
              rw [List.all_eq_true] at h2
              have := h2 i (List.mem_range.2 hi)
              rw [List.all_eq_true] at this
              have := this j (List.mem_range.2 hji)
              simp only [Bool.or_eq_true, List.contains_eq_mem, decide_eq_true_eq] at this
              rcases this with h' | h'
              · exact absurd h' hc
              · simpa [apartAt, hoj, hoi] using h'
            · rw [dynOk, List.all_eq_true] at hdyn
              have hmem : (j, i) ∈ openPairs ops := by
                refine List.mem_flatMap.2 ⟨i, List.mem_range.2 hi, List.mem_map.2 ⟨j, List.mem_filter.2 ⟨List.mem_range.2 hji, ?_⟩, rfl⟩⟩
                simpa using hc
              have := hdyn _ hmem
              have hi' : i < fs.length := by rw [hlen]; simpa using hi
              have hj' : j < fs.length := by omega
              simp only [pairOk, List.getElem?_eq_getElem hj', List.getElem?_eq_getElem hi'] at this
              simp only [F, List.getD_eq_getElem?_getD, List.getElem?_eq_getElem hj', List.getElem?_eq_getElem hi', Option.getD_some]
              exact this
        rw [Array.length_toList, ← List.range_eq_range'] at hRun
        have hrep : ∀ i, (Array.replicate ops.size false).getD i false = false := by
          intro i
          by_cases hi : i < ops.size
          · simp [Array.getD, hi]
          · simp [Array.getD, hi]
        have hrept : ∀ i, (Array.replicate ops.size false).getD i true = false ↔ i < ops.size := by
          intro i
          by_cases hi : i < ops.size
          · simp [Array.getD, hi]
          · simp [Array.getD, hi]
        exact wpAny_run hT hΓ hpairs hedge hdst hfin ops.size (List.range ops.size) (Array.replicate ops.size false) s.t s.h a _ blk [] (by simp) (fun i => by rw [hrept]; exact List.mem_range) List.pairwise_lt_range (fun i hi => List.mem_range.1 hi) (by simp)
          (fun i o _ hl => by rw [hrep] at hl; cases hl) (fun d hd => by simp at hd) hRun ((hI.weaken fun x v hx => .inl hx).drew)
    · cases hr
  · cases hr

def exitOf : Ex → Exit
  | .normal => .normal
  | .exit n => .exit n
  | .ret => .ret

theorem vcode_sound (hT : TOk P T) (hΓ : GOk P Γ) (hm : P.follows .mixedOrders = true) {F : Nat} : ∀ (c : Code) (s : St) (x : Ex) (s' : St) (Q : Exit → Act → World → Prop) (a : Act) (w : World), vcode T Γ N F c s = some (x, s') → codeOk c = true → Holds N M L w0 s a w →
    (∀ a' w', Holds N M L w0 s' a' w' → Q (exitOf x) a' w') → c.wp P Q a w := by
  intro c
  induction c with
  | skip =>
    intro s x s' Q a w hr _ hH hQ
    simp only [vcode, Option.some.injEq, Prod.mk.injEq] at hr
    obtain ⟨rfl, rfl⟩ := hr
    exact wp_skip (hQ a w hH)
  | region id ops draw =>
    intro s x s' Q a w hr hok hH hQ
    simp only [vcode] at hr
    have hx : x = .normal := by
      unfold vregion at hr
      split at hr
      · split at hr
        · simp only [Option.some.injEq, Prod.mk.injEq] at hr; exact hr.1.symm
        · cases hr
      · cases hr
    subst hx
    exact (vregion_sound hT hΓ hm hr hok hH hQ).2
  | seq b c ihb ihc =>
    intro s x s' Q a w hr hok hH hQ
    simp only [codeOk, Bool.and_eq_true] at hok
    simp only [vcode, vseq] at hr
    refine wp_seq ?_
    split at hr
    · rename_i s1 h1
      exact ihb s .normal s1 _ a w h1 hok.1 hH (fun a' w' hH' => ihc s1 x s' Q a' w' hr hok.2 hH' hQ)
    · rename_i r hne
      refine ihb s x s' _ a w hr hok.1 hH (fun a' w' hH' => ?_)
      cases x with
      | normal => exact absurd hr (fun h => hne s' h)
      | exit n => exact hQ a' w' hH'
      | ret => exact hQ a' w' hH'
  | cond c b d ihb ihd =>
    intro s x s' Q a w hr hok hH hQ
    simp only [codeOk, Bool.and_eq_true] at hok
    simp only [vcode] at hr
    unfold vcond at hr
    split at hr
    · rename_i bb hb
      obtain ⟨blk, hI⟩ := hH
      have hv := hI.ev c
      rw [hb] at hv
      refine wp_cond (t := bb) (RT_bool hv) ?_
      cases bb with
      | true => exact ihb s x s' Q a w hr hok.1 ⟨blk, hI⟩ hQ
      | false => exact ihd s x s' Q a w hr hok.2 ⟨blk, hI⟩ hQ
    · cases hr
  | block id b ih =>
    intro s x s' Q a w hr hok hH hQ
    simp only [vcode] at hr
    refine wp_block ?_
    unfold vblock at hr
    split at hr
    · rename_i n s1 h1
      refine ih s (.exit n) s1 _ a w h1 hok hH (fun a' w' hH' => ?_)
      split at hr
      · rename_i hn
        simp only [Option.some.injEq, Prod.mk.injEq] at hr
        obtain ⟨rfl, rfl⟩ := hr
        simp only [exitOf, Exit.inBlock, hn, if_true]
        exact hQ a' w' hH'
      · rename_i hn
        simp only [Option.some.injEq, Prod.mk.injEq] at hr
        obtain ⟨rfl, rfl⟩ := hr
        simp only [exitOf, Exit.inBlock, hn, if_false]
        exact hQ a' w' hH'
    · rename_i r hne
      refine ih s x s' _ a w hr hok hH (fun a' w' hH' => ?_)
      cases x with
      | normal => exact hQ a' w' hH'
      | exit n => exact absurd hr (fun h => hne n s' h)
      | ret => exact hQ a' w' hH'
  | loop b ih =>
    intro s x s' Q a w hr hok hH hQ
    simp only [vcode] at hr
    refine wp_loop_ghost (fun n a w => ∃ s, Holds N M L w0 s a w ∧ iter (vcode T Γ N F b) n s = some (x, s')) F ⟨s, hH, hr⟩ ?_
    intro n a w ⟨s1, hH1, h1⟩
    cases n with
    | zero => simp [iter] at h1
    | succ n =>
      simp only [iter] at h1
      split at h1
      · rename_i s2 h2
        exact ih s1 .normal s2 _ a w h2 hok hH1 (fun a' w' hH' => ⟨n, by omega, s2, hH', h1⟩)
      · rename_i r hne
        refine ih s1 x s' _ a w h1 hok hH1 (fun a' w' hH' => ?_)
        cases x with
        | normal => exact absurd h1 (fun h => hne s' h)
        | exit n => exact hQ a' w' hH'
        | ret => exact hQ a' w' hH'
  | exit id =>
    intro s x s' Q a w hr _ hH hQ
    simp only [vcode, Option.some.injEq, Prod.mk.injEq] at hr
    obtain ⟨rfl, rfl⟩ := hr
    exact wp_exit (hQ a w hH)
  | ret =>
    intro s x s' Q a w hr _ hH hQ
    simp only [vcode, Option.some.injEq, Prod.mk.injEq] at hr
    obtain ⟨rfl, rfl⟩ := hr
    exact wp_ret (hQ a w hH)
  | _ => intro s x s' Q a w hr; simp [vcode] at hr
end
end Go.Proofs.YtdecgihkgpgejaaDoor.Am
