/- The memory-free machine, part 14: the steps of a region, in whatever order. -/
import Derived.Test.YtdecgihkgpgejaaDoorAz
namespace Go.Proofs.YtdecgihkgpgejaaDoor.Am
open Go.RowKit
set_option linter.unusedSimpArgs false
set_option linter.unusedVariables false

structure Foot where
  tc : List Nat
  q : Bool

def guardB (ops : Array Oper) (t : Nat → D) (o : Oper) : Option Bool :=
  match o.guard with
  | none => some true
  | some (j, want) =>
    match (ops[j]?).bind (·.dst) with
    | some g => match t g with | .bool b => some (b == want) | .skp => some false | _ => none
    | none => none

def putT (t : Nat → D) (dst : Option Nat) (d : D) : Nat → D :=
  match dst with
  | none => t
  | some i => upd t i d

def fits (N : Nat) (dst : Option Nat) : Bool :=
  match dst with
  | none => true
  | some i => decide (i < N)

def step1 (T : Nat → Option Ty) (Γ : Env) (N e : Nat) (ops : Array Oper) (o : Oper) (t : Nat → D) (h : Nat → Option Row) : Option ((Nat → D) × (Nat → Option Row) × Foot) :=
  if fits N o.dst then
    match guardB ops t o with
    | some true =>
      match eff T Γ e o (ev t) h with
      | some E => some (putT t o.dst E.val, applyH h E.hw, ⟨touch o (ev t), E.hw.isEmpty⟩)
      | none => none
    | some false => some (putT t o.dst .skp, h, ⟨[], true⟩)
    | none => none
  else none

section
variable {P : Program} {T : Nat → Option Ty} {N : Nat} {M : Nat → Prop} {L : Lent} {w0 : World} {blk : Nat → Option (Nat × Nat)} {t : Nat → D} {h : Nat → Option Row} {a : Act} {w : World} {e : Nat} {o : Oper} {Γ : Env} {ops : Array Oper}

def Vd (e : Nat) (done : List Nat) (x v : Nat) : Prop := v < e ∨ (v = e ∧ x ∈ done)

theorem guard_wanted {V : Nat → Nat → Prop} (hI : Inv N M L w0 blk V t h a w) {b : Bool} (hg : guardB ops t o = some b) : Region.wanted o (yielded ops a.tmps) = b := by
  unfold guardB at hg
  split at hg
  · rename_i ho
    simp only [Option.some.injEq] at hg
    subst hg
    simp [Region.wanted, ho]
  · rename_i j want ho
    split at hg
    · rename_i g hgd
      split at hg
      · rename_i b' hb
        simp only [Option.some.injEq] at hg
        subst hg
        have hs := hI.slots g
        rw [hb] at hs
        have hv := RT_bool hs
        have hget : a.tmps[g]? = some (.bool b') := by
          simp only [Array.getD_eq_getD_getElem?] at hv
          cases hx : a.tmps[g]? with
          | none => rw [hx] at hv; cases hv
          | some v => rw [hx] at hv; simp only [Option.getD_some] at hv; rw [hv]
        have hy : yielded ops a.tmps j = some b' := by
          unfold yielded
          rw [hgd]
          simp [hget]
        simp only [Region.wanted, ho, hy]
        cases b' <;> cases want <;> rfl
      · rename_i hb
        simp only [Option.some.injEq] at hg
        subst hg
        have hs := hI.slots g
        rw [hb] at hs
        have hv : a.tmps.getD g undef = undef := hs
        have hy : yielded ops a.tmps j = none := by
          unfold yielded
          rw [hgd]
          simp only [Array.getD_eq_getD_getElem?] at hv
          cases hx : a.tmps[g]? with
          | none => simp only [Option.bind_some, hx]
          | some v => rw [hx] at hv; simp only [Option.getD_some] at hv; subst hv; simp only [Option.bind_some, hx]; rfl
        simp only [Region.wanted, ho, hy]
        cases want <;> rfl
      · cases hg
    · cases hg

theorem Inv.putU {V : Nat → Nat → Prop} (hI : Inv N M L w0 blk V t h a w) (hf : fits N o.dst = true) {d : D} {v : Value} (hx : RT w (Own M h blk) h blk V d v) : Inv N M L w0 blk V (putT t o.dst d) h (a.put o.dst v) w := by
  cases hd : o.dst with
  | none => simpa [putT, Act.put] using hI
  | some i =>
    rw [hd] at hf
    exact hI.put (by simpa [fits] using hf) hx

/-- One step of a region. -/
theorem step_wp (hT : TOk P T) (hΓ : GOk P Γ) {done : List Nat} {t' : Nat → D} {h' : Nat → Option Row} {f : Foot} {K : Act → World → Prop} {Q : Exit → Act → World → Prop} (hI : Inv N M L w0 blk (Vd e done) t h a w)
    (hs : step1 T Γ N e ops o t h = some (t', h', f)) (hd : ∀ d, o.dst = some d → d ∉ done) (hK : ∀ a' w' blk', Inv N M L w0 blk' (Vd e (o.dst.toList ++ done)) t' h' a' w' → K a' w') :
    if Region.wanted o (yielded ops a.tmps) then o.wp P a w K Q ∨ (o.asks P a w ∧ LetsOut Q) else K (a.put o.dst undef) w := by
  unfold step1 at hs
  split at hs
  · rename_i hf
    split at hs
    · rename_i hg
      rw [guard_wanted hI hg]
      simp only [if_true]
      split at hs
      · rename_i E hE
        simp only [Option.some.injEq, Prod.mk.injEq] at hs
        obtain ⟨rfl, rfl, _⟩ := hs
        have hV : ∀ d, o.dst = some d → ¬ Vd e done d e := by
          intro d hd' hv
          rcases hv with hv | ⟨_, hv⟩
          · omega
          · exact hd d hd' hv
        have := eff_sound hT hΓ hI hV hE
        refine .inl (this.wp fun v w' hA => ?_)
        obtain ⟨blk', hI', hR⟩ := hA
        refine hK _ _ blk' (Inv.weaken (hI'.putU hf hR) fun x n hx => ?_)
        rcases hx with (hx | ⟨hx, hx'⟩) | ⟨hx, hx'⟩
        · exact .inl hx
        · exact .inr ⟨hx, List.mem_append_right _ hx'⟩
        · exact .inr ⟨hx', List.mem_append_left _ (by rw [hx]; simp)⟩
      · cases hs
    · rename_i hg
      rw [guard_wanted hI hg]
      simp only [Bool.false_eq_true, if_false]
      simp only [Option.some.injEq, Prod.mk.injEq] at hs
      obtain ⟨rfl, rfl, _⟩ := hs
      refine hK _ _ blk (Inv.weaken (hI.putU hf (d := .skp) (v := undef) rfl) fun x n hx => ?_)
      rcases hx with hx | ⟨hx, hx'⟩
      · exact .inl hx
      · exact .inr ⟨hx, List.mem_append_right _ hx'⟩
    · cases hs
  · cases hs

theorem applyH_notin {x : Nat} : ∀ {l : List (Nat × Option Row)} {h : Nat → Option Row}, (∀ p ∈ l, p.1 ≠ x) → applyH h l x = h x
  | [], _, _ => rfl
  | (y, r) :: l, h, hn => by
    simp only [applyH]
    rw [applyH_notin (fun p hp => hn p (by simp [hp]))]
    exact upd_ne _ _ (fun e => hn (y, r) (by simp) e.symm)
theorem applyH_in {x : Nat} : ∀ {l : List (Nat × Option Row)} {h h' : Nat → Option Row}, (∃ p ∈ l, p.1 = x) → applyH h l x = applyH h' l x
  | [], _, _, he => by obtain ⟨p, hp, _⟩ := he; simp at hp
  | (y, r) :: l, h, h', he => by
    simp only [applyH]
    by_cases hl : ∃ p ∈ l, p.1 = x
    · exact applyH_in hl
    · have hn : ∀ p ∈ l, p.1 ≠ x := fun p hp hpx => hl ⟨p, hp, hpx⟩
      rw [applyH_notin hn, applyH_notin hn]
      obtain ⟨p, hp, hpx⟩ := he
      rcases List.mem_cons.1 hp with rfl | hp
      · simp only at hpx; subst hpx; rw [upd_same, upd_same]
      · exact absurd hpx (hn p hp)
theorem applyH_comm {l l' : List (Nat × Option Row)} {h : Nat → Option Row} (hd : ∀ p ∈ l, ∀ q ∈ l', p.1 ≠ q.1) : applyH (applyH h l) l' = applyH (applyH h l') l := by
  funext x
  by_cases h1 : ∃ p ∈ l, p.1 = x
  · obtain ⟨p, hp, rfl⟩ := h1
    rw [applyH_notin (fun q hq e => hd p hp q hq e.symm)]
    exact applyH_in ⟨p, hp, rfl⟩
  · have hn : ∀ p ∈ l, p.1 ≠ x := fun p hp hpx => h1 ⟨p, hp, hpx⟩
    rw [applyH_notin hn]
    by_cases h2 : ∃ p ∈ l', p.1 = x
    · exact applyH_in h2
    · have hn' : ∀ p ∈ l', p.1 ≠ x := fun p hp hpx => h2 ⟨p, hp, hpx⟩
      rw [applyH_notin hn', applyH_notin hn', applyH_notin hn]

theorem putT_comm {t : Nat → D} {x y : Option Nat} {v u : D} (hne : ∀ d, x = some d → y ≠ some d) : putT (putT t x v) y u = putT (putT t y u) x v := by
  cases x with
  | none => rfl
  | some i =>
    cases y with
    | none => rfl
    | some j => exact upd_comm t v u (fun e => hne i rfl (by rw [e]))

theorem putT_at {t : Nat → D} {x : Option Nat} {v : D} {s : Nat} (hne : x ≠ some s) : putT t x v s = t s := by
  cases x with
  | none => rfl
  | some i => exact upd_ne _ _ (fun e => hne (by rw [e]))

/-- A step hangs on the slots and rows that it looks at. -/
theorem step_loc {t t1 : Nat → D} {h h1 : Nat → Option Row} {f : Foot} (hs : step1 T Γ N e ops o t h = some (t1, h1, f)) :
    ∃ v hw, t1 = putT t o.dst v ∧ h1 = applyH h hw ∧ (∀ p ∈ hw, p.1 ∈ f.tc) ∧ (f.q = true → hw = []) ∧
      ∀ t' h', (∀ s ∈ o.looksAt ops, t s = t' s) → (∀ x ∈ f.tc, h x = h' x) → step1 T Γ N e ops o t' h' = some (putT t' o.dst v, applyH h' hw, f) := by
  have hgd : ∀ t' : Nat → D, (∀ s ∈ o.looksAt ops, t s = t' s) → guardB ops t o = guardB ops t' o := by
    intro t' ht
    unfold guardB
    split
    · rfl
    · rename_i j want ho
      split
      · rename_i g hg
        rw [ht g (by simp [Oper.looksAt, ho, hg])]
      · rfl
  have hvs : ∀ t' : Nat → D, (∀ s ∈ o.looksAt ops, t s = t' s) → ∀ y ∈ o.op.operands.toList, ev t y = ev t' y := by
    intro t' ht y hy
    cases y with
    | tmp i => exact ht i (by unfold Oper.looksAt; exact List.mem_append_left _ (List.mem_filterMap.2 ⟨_, hy, rfl⟩))
    | const v => rfl
    | global g => rfl
    | func f => rfl
  unfold step1 at hs
  split at hs
  · rename_i hf
    split at hs
    · rename_i hg
      split at hs
      · rename_i E hE
        simp only [Option.some.injEq, Prod.mk.injEq] at hs
        obtain ⟨rfl, rfl, rfl⟩ := hs
        refine ⟨E.val, E.hw, rfl, rfl, eff_names hE, fun hq => by simpa using hq, fun t' h' ht hh => ?_⟩
        obtain ⟨e1, e2⟩ := eff_vs (T := T) (Γ := Γ) (e := e) (h := h) (hvs t' ht)
        have e3 : eff T Γ e o (ev t') h' = some E := by
          rw [← hE, e1]
          exact (eff_congr (fun x hx => hh x (by rw [e2]; exact hx))).symm
        unfold step1
        rw [if_pos hf, ← hgd t' ht, hg]
        simp only [e3, e2]
      · cases hs
    · rename_i hg
      simp only [Option.some.injEq, Prod.mk.injEq] at hs
      obtain ⟨rfl, rfl, rfl⟩ := hs
      refine ⟨.skp, [], rfl, rfl, fun p hp => by simp at hp, fun _ => rfl, fun t' h' ht hh => ?_⟩
      unfold step1
      rw [if_pos hf, ← hgd t' ht, hg]
      rfl
    · cases hs
  · cases hs

/-- The run of some operations, by their numbers. -/
def RunI (T : Nat → Option Ty) (Γ : Env) (N e : Nat) (ops : Array Oper) (F : Nat → Foot) : List Nat → (Nat → D) → (Nat → Option Row) → (Nat → D) → (Nat → Option Row) → Prop
  | [], t, h, t', h' => t = t' ∧ h = h'
  | i :: L, t, h, t', h' => ∃ o t1 h1, ops[i]? = some o ∧ step1 T Γ N e ops o t h = some (t1, h1, F i) ∧ RunI T Γ N e ops F L t1 h1 t' h'

def disj (l l' : List Nat) : Bool := l.all fun x => !l'.contains x

structure Indep (ops : Array Oper) (F : Nat → Foot) (j i : Nat) : Prop where
  apart : ∀ oj oi, ops[j]? = some oj → ops[i]? = some oi → oj.apart ops oi = true
  foot : ((F j).q && (F i).q || disj (F j).tc (F i).tc) = true

theorem swap {F : Nat → Foot} {i j : Nat} {L : List Nat} {t t' : Nat → D} {h h' : Nat → Option Row} (hr : RunI T Γ N e ops F (j :: i :: L) t h t' h') (hi : Indep ops F j i) : RunI T Γ N e ops F (i :: j :: L) t h t' h' := by
  obtain ⟨oj, t1, h1, hoj, hsj, oi, t2, h2, hoi, hsi, hrest⟩ := hr
  obtain ⟨a1, a2, a3⟩ := Oper.apart_spec (hi.apart oj oi hoj hoi)
  obtain ⟨vj, wj, rfl, rfl, nj, qj, locj⟩ := step_loc hsj
  obtain ⟨vi, wi, rfl, rfl, ni, qi, loci⟩ := step_loc hsi
  have hfoot := hi.foot
  simp only [Bool.or_eq_true, Bool.and_eq_true] at hfoot
  have d1 : ∀ x ∈ (F i).tc, ∀ p ∈ wj, p.1 ≠ x := by
    intro x hx p hp he
    rcases hfoot with ⟨h1, _⟩ | h1
    · rw [qj h1] at hp; simp at hp
    · simp only [disj, List.all_eq_true] at h1
      have := h1 p.1 (nj p hp)
      rw [he] at this
      simp [hx] at this
  have d2 : ∀ x ∈ (F j).tc, ∀ p ∈ wi, p.1 ≠ x := by
    intro x hx p hp he
    rcases hfoot with ⟨_, h1⟩ | h1
    · rw [qi h1] at hp; simp at hp
    · simp only [disj, List.all_eq_true] at h1
      have := h1 x hx
      have hm := ni p hp
      rw [he] at hm
      simp [hm] at this
  have hsi' := loci t h (fun s hs => putT_at (fun hd => a1 s hd hs)) (fun x hx => applyH_notin (d1 x hx))
  have hsj' := locj (putT t oi.dst vi) (applyH h wi) (fun s hs => (putT_at (fun hd => a3 s hd hs)).symm) (fun x hx => (applyH_notin (d2 x hx)).symm)
  refine ⟨oi, _, _, hoi, hsi', oj, _, _, hoj, hsj', ?_⟩
  rw [putT_comm (x := oi.dst) (y := oj.dst) (fun d hd hd' => a2 d hd' hd), applyH_comm (l := wi) (l' := wj) (fun p hp q hq he => d1 p.1 (ni p hp) q hq he.symm)]
  exact hrest

/-- An operation that waits for none of those ahead of it may come first. -/
theorem front {F : Nat → Foot} {i : Nat} {post : List Nat} : ∀ {pre : List Nat} {t t' : Nat → D} {h h' : Nat → Option Row}, RunI T Γ N e ops F (pre ++ i :: post) t h t' h' → (∀ j ∈ pre, Indep ops F j i) → RunI T Γ N e ops F (i :: (pre ++ post)) t h t' h'
  | [], _, _, _, _, hr, _ => hr
  | j :: pre, t, t', h, h', hr, hi => by
    obtain ⟨oj, t1, h1, hoj, hsj, hrest⟩ := hr
    have ih := front (pre := pre) hrest (fun k hk => hi k (by simp [hk]))
    exact swap ⟨oj, t1, h1, hoj, hsj, ih⟩ (hi j (by simp))

/-- The direct needs of an operation; whatever it needs. -/
def direct (o : Oper) : List Nat := (o.after.toList.filter (Region.binds .any)).map (·.on)

def closAux : List Oper → List (List Nat) → List (List Nat)
  | [], acc => acc
  | o :: l, acc => closAux l (acc ++ [direct o ++ (direct o).flatMap fun k => acc.getD k []])

def clos (ops : Array Oper) : List (List Nat) := closAux ops.toList []

theorem closAux_ok (S : Nat → Prop) : ∀ (l : List Oper) (acc : List (List Nat)) (k : Nat), k = acc.length → (∀ i j, j ∈ acc.getD i [] → i < k → (∀ m o, ops[m]? = some o → S m → ∀ d ∈ direct o, S d) → (∀ o, ops[i]? = some o → ∀ d ∈ direct o, S d) → S j) →
    (∀ j, l[j]? = ops[k + j]?) → ∀ i j, j ∈ (closAux l acc).getD i [] → (∀ m o, ops[m]? = some o → S m → ∀ d ∈ direct o, S d) → (∀ o, ops[i]? = some o → ∀ d ∈ direct o, S d) → S j
  | [], acc, k, hk, hacc, hl, i, j, hj, hS, hi => by
    simp only [closAux] at hj
    by_cases hik : i < k
    · exact hacc i j hj hik hS hi
    · have : acc.getD i [] = [] := by simp [List.getD, List.getElem?_eq_none (show acc.length ≤ i by omega)]
      rw [this] at hj
      simp at hj
  | o :: l, acc, k, hk, hacc, hl, i, j, hj, hS, hi => by
    simp only [closAux] at hj
    refine closAux_ok S l _ (k + 1) (by simp [hk]) ?_ (fun j => by have := hl (j + 1); simpa [Nat.add_assoc, Nat.add_comm 1 j] using this) i j hj hS hi
    intro i' j' hj' hik' hS' hi'
    by_cases hlt : i' < k
    · have : (acc ++ [direct o ++ (direct o).flatMap fun k => acc.getD k []]).getD i' [] = acc.getD i' [] := by
        simp [List.getD, List.getElem?_append_left (show i' < acc.length by omega)]
      rw [this] at hj'
      exact hacc i' j' hj' hlt hS' hi'
    · obtain rfl : i' = k := by omega
      have : (acc ++ [direct o ++ (direct o).flatMap fun k => acc.getD k []]).getD i' [] = direct o ++ (direct o).flatMap fun k => acc.getD k [] := by
        simp [List.getD, List.getElem?_append_right (show acc.length ≤ i' by omega), hk]
      rw [this] at hj'
      have ho : ops[i']? = some o := by have := hl 0; simpa using this.symm
      rcases List.mem_append.1 hj' with hd | hd
      · exact hi' o ho j' hd
      · obtain ⟨m, hm, hmj⟩ := List.mem_flatMap.1 hd
        have hSm := hi' o ho m hm
        by_cases hmk : m < i'
        · exact hacc m j' hmj hmk hS' (fun o' ho' d hd' => hS' m o' ho' hSm d hd')
        · have : acc.getD m [] = [] := by simp [List.getD, List.getElem?_eq_none (show acc.length ≤ m by omega)]
          rw [this] at hmj
          simp at hmj

theorem clos_ok {S : Nat → Prop} {i j : Nat} (hj : j ∈ (clos ops).getD i []) (hS : ∀ m o, ops[m]? = some o → S m → ∀ d ∈ direct o, S d) (hi : ∀ o, ops[i]? = some o → ∀ d ∈ direct o, S d) : S j :=
  closAux_ok S ops.toList [] 0 rfl (fun i j hj _ _ _ => by simp at hj) (fun j => by simp) i j hj hS hi

/-- Every two operations: the later one waits for the earlier one, or they don't touch. -/
def PairsOk (ops : Array Oper) (F : Nat → Foot) : Prop := ∀ j i, j < i → i < ops.size → j ∈ (clos ops).getD i [] ∨ Indep ops F j i

theorem wpAny_run (hT : TOk P T) (hΓ : GOk P Γ) {F : Nat → Foot} {Q : Exit → Act → World → Prop} {t' : Nat → D} {h' : Nat → Option Row} (hp : PairsOk ops F) (hedge : ∀ i o, ops[i]? = some o → ∀ d ∈ direct o, d < i)
    (hdst : ∀ (i j : Nat) (oi oj : Oper) (d : Nat), ops[i]? = some oi → ops[j]? = some oj → oi.dst = some d → oj.dst = some d → i = j) (hQ : ∀ a' w' blk' done, Inv N M L w0 blk' (Vd e done) t' h' a' w' → Q .normal a' w') :
    ∀ (n : Nat) (LL : List Nat) (listed : Array Bool) (t : Nat → D) (h : Nat → Option Row) (a : Act) (w : World) (blk : Nat → Option (Nat × Nat)) (done : List Nat), LL.length = n → (∀ i, i ∈ LL ↔ listed.getD i true = false) → LL.Pairwise (· < ·) → (∀ i ∈ LL, i < ops.size) → listed.size = ops.size →
      (∀ i o, ops[i]? = some o → listed.getD i false = true → ∀ d ∈ direct o, listed.getD d false = true) → (∀ d ∈ done, ∃ i o, ops[i]? = some o ∧ o.dst = some d ∧ listed.getD i false = true) →
      RunI T Γ N e ops F LL t h t' h' → Inv N M L w0 blk (Vd e done) t h a w → wpAny P .any ops Q n listed a w := by
  intro n
  induction n with
  | zero =>
    intro LL listed t h a w blk done hn hL hs hlt hsz hdown hdone hr hI
    have : LL = [] := List.eq_nil_of_length_eq_zero hn
    subst this
    obtain ⟨rfl, rfl⟩ := hr
    refine ⟨?_, hQ a w blk done hI⟩
    refine List.eq_nil_iff_forall_not_mem.2 fun i hi => ?_
    have := (mem_ready.1 hi).1
    exact absurd ((hL i).2 this) (by simp)
  | succ n ih =>
    intro LL listed t h a w blk done hn hL hs hlt hsz hdown hdone hr hI
    refine ⟨fun hempty => ?_, fun i hi => ?_⟩
    · -- the first that is left is ready
      cases LL with
      | nil => simp at hn
      | cons i LL =>
        obtain ⟨o, t1, h1, ho, _⟩ := hr
        have hready : i ∈ Region.ready .any ops listed := by
          refine mem_ready.2 ⟨(hL i).1 (by simp), o, ho, fun ed hed hb => ?_⟩
          have hd : ed.on ∈ direct o := List.mem_map.2 ⟨ed, List.mem_filter.2 ⟨by simpa using hed, hb⟩, rfl⟩
          have hlt' := hedge i o ho _ hd
          by_cases hm : ed.on ∈ i :: LL
          · rcases List.mem_cons.1 hm with hm | hm
            · omega
            · have := (List.pairwise_cons.1 hs).1 _ hm
              omega
          · have h1 : ¬ listed.getD ed.on true = false := fun hf => hm ((hL _).2 hf)
            have h2 : ed.on < listed.size := by rw [hsz]; have := hlt i (by simp); omega
            have : listed.getD ed.on true = listed.getD ed.on false := by simp [Array.getD, h2]
            rw [← this]
            simpa using h1
        rw [hempty] at hready
        simp at hready
    · obtain ⟨hi0, o, ho, hneeds⟩ := mem_ready.1 hi
      have hiL : i ∈ LL := (hL i).2 hi0
      obtain ⟨pre, post, rfl⟩ := List.append_of_mem hiL
      have hisz : i < listed.size := by rw [hsz]; exact hlt i hiL
      have hdirect : ∀ d ∈ direct o, listed.getD d false = true := by
        intro d hd
        obtain ⟨ed, hed, rfl⟩ := List.mem_map.1 hd
        obtain ⟨h1, h2⟩ := List.mem_filter.1 hed
        exact hneeds ed (by simpa using h1) h2
      have hind : ∀ j ∈ pre, Indep ops F j i := by
        intro j hj
        have hji : j < i := by
          have := List.pairwise_append.1 hs
          exact this.2.2 j hj i (by simp)
        rcases hp j i hji (hlt i hiL) with hc | hc
        · have hjl : listed.getD j false = true := clos_ok (S := fun m => listed.getD m false = true) hc (fun m om hm hSm d hd => hdown m om hm hSm d hd) (fun o' ho' d hd => by
            rw [ho] at ho'
            cases ho'
            exact hdirect d hd)
          have hjt := (hL j).1 (by simp [hj])
          have hjs : j < listed.size := by omega
          have : listed.getD j true = listed.getD j false := by simp [Array.getD, hjs]
          rw [this, hjl] at hjt
          cases hjt
        · exact hc
      obtain ⟨o', t1, h1, ho', hstep, hrest⟩ := front hr hind
      rw [ho] at ho'
      cases ho'
      unfold wpOp
      simp only [ho]
      refine step_wp hT hΓ hI hstep (fun d hd hdd => ?_) (fun a' w' blk' hI' => ?_)
      · obtain ⟨k, ok, hk, hkd, hkl⟩ := hdone d hdd
        have := hdst i k o ok d ho hk hd hkd
        subst this
        have : listed.getD i true = listed.getD i false := by simp [Array.getD, hisz]
        rw [this, hkl] at hi0
        cases hi0
      · have hset : ∀ k, (listed.setIfInBounds i true).getD k false = true ↔ k = i ∨ listed.getD k false = true := by
          intro k
          by_cases hki : k = i
          · subst hki; simp [hisz]
          · rw [getD_set_ne false (Ne.symm hki)]; simp [hki]
        have hset2 : ∀ k, (listed.setIfInBounds i true).getD k true = false ↔ k ≠ i ∧ listed.getD k true = false := by
          intro k
          by_cases hki : k = i
          · subst hki; simp [hisz]
          · rw [getD_set_ne true (Ne.symm hki)]; simp [hki]
        have hnd : (pre ++ i :: post).Nodup := hs.imp (fun h => Nat.ne_of_lt h)
        refine ih (pre ++ post) (listed.setIfInBounds i true) t1 h1 a' w' blk' _ (by simp at hn ⊢; omega) (fun k => ?_) ?_ (fun k hk => hlt k (by simp at hk ⊢; rcases hk with hk | hk <;> simp [hk])) (by simpa using hsz) (fun k ok hk hkl d hd => ?_) (fun d hd => ?_) hrest hI'
        · rw [hset2]
          constructor
          · intro hk
            have hkL : k ∈ pre ++ i :: post := by simp at hk ⊢; rcases hk with hk | hk <;> simp [hk]
            refine ⟨fun e => ?_, (hL k).1 hkL⟩
            subst e
            have := List.nodup_append.1 hnd
            simp only [List.nodup_cons] at this
            rcases List.mem_append.1 hk with hk | hk
            · exact this.2.2 k hk k (by simp) rfl
            · exact this.2.1.1 hk
          · rintro ⟨hk, hkl⟩
            have := (hL k).2 hkl
            simp only [List.mem_append, List.mem_cons] at this ⊢
            rcases this with h | h | h
            · exact .inl h
            · exact absurd h hk
            · exact .inr h
        · refine List.Pairwise.sublist ?_ hs
          exact List.Sublist.append_left (List.sublist_cons_self _ _) _
        · rw [hset]
          rcases (hset k).1 hkl with rfl | hkl
          · rw [ho] at hk; cases hk; exact .inr (hdirect d hd)
          · exact .inr (hdown k ok hk hkl d hd)
        · rcases List.mem_append.1 hd with hd | hd
          · exact ⟨i, o, ho, by simpa using hd, (hset i).2 (.inl rfl)⟩
          · obtain ⟨k, ok, hk, hkd, hkl⟩ := hdone d hd
            exact ⟨k, ok, hk, hkd, (hset k).2 (.inr hkl)⟩
end
end Go.Proofs.YtdecgihkgpgejaaDoor.Am
