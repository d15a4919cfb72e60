/- The memory-free machine, part 19: a row's opened arguments as clean data. -/
import Derived.Test.YtdecgihkgpgejaaDoorBe
import Derived.OpenShut
import Derived.Deep.Slices
import Derived.WideKeyArgs
import Derived.SizedLaws
namespace Go.Proofs.YtdecgihkgpgejaaDoor.Am
open Go.RowKit Go.Deep Go.ChangeShapes Go.WideShapes
set_option linter.unusedSimpArgs false
set_option linter.unusedVariables false

/-- The shape of data of a type. -/
def TyD (T : Nat → Option Ty) : Nat → Nat → List D → Prop
  | 0, _, _ => False
  | n + 1, t, xs =>
    match T t with
    | none => False
    | some τ => xs.length = τ.size ∧
      match τ.ds with
      | .int k => ∃ i, xs = [.int k i] ∧ (Lit.int k i).wf = true
      | .bool => ∃ b, xs = [.bool b]
      | .str => ∃ s : ByteArray, xs = [.str s] ∧ s.size ≤ 140737488351232
      | .slice e => ∃ len ys φ, xs = [.sl false false len ys] ∧ len * φ.bytes ≤ 140737488351232 ∧ T e = some φ ∧ ys.length = len * φ.size ∧ ∀ i, i < len → TyD T n e ((ys.drop (i * φ.size)).take φ.size)
      | .struct fs => ∀ f ∈ fs, ∃ φ, T f.1 = some φ ∧ TyD T n f.1 ((xs.drop f.2).take φ.size)
      | .arr m e => ∃ φ, T e = some φ ∧ ∀ i, i < m → TyD T n e ((xs.drop (i * φ.size)).take φ.size)
      | .map _ _ => False
      | .other => False

/-- Fields side by side, from o on, to the end. -/
def laysB (T : Nat → Option Ty) : Nat → List (Nat × Nat) → Nat → Bool
  | o, [], z => o == z
  | o, (ft, off) :: fs, z => off == o && match T ft with | some φ => laysB T (o + φ.size) fs z | none => false

def okT (T : Nat → Option Ty) : Nat → Nat → Bool
  | 0, _ => false
  | n + 1, t =>
    match T t with
    | none => false
    | some τ =>
      match τ.ds with
      | .int _ | .bool | .str => τ.size == 1
      | .slice e => τ.size == 1 && okT T n e && (match T e with | some φ => decide (0 < φ.size) | none => false)
      | .struct fs => laysB T 0 fs τ.size && fs.all fun f => okT T n f.1
      | .arr m e => okT T n e && (match T e with | some φ => τ.size == m * φ.size | none => false)
      | .map _ _ => false
      | .other => false

def AllR (w : World) (M : Nat → Prop) (xs : List D) (cs : List Value) : Prop := xs.length = cs.length ∧ ∀ (j : Nat) (x : D), xs[j]? = some x → plainC x = true ∧ ∃ v, cs[j]? = some v ∧ RP w M x v

theorem AllR.append {w : World} {M : Nat → Prop} {xs ys : List D} {cs ds : List Value} (h : AllR w M xs cs) (k : AllR w M ys ds) : AllR w M (xs ++ ys) (cs ++ ds) := by
  refine ⟨by simp [h.1, k.1], fun j x hj => ?_⟩
  rw [List.getElem?_append] at hj ⊢
  rw [← h.1]
  split at hj
  · rename_i hlt; rw [if_pos hlt]; exact h.2 j x hj
  · rename_i hlt; rw [if_neg hlt]; exact k.2 _ x hj

theorem flat_seg {α : Type} (s : Nat) : ∀ (ls : List (List α)), (∀ l ∈ ls, l.length = s) → ∀ (i : Nat) (l : List α), ls[i]? = some l → (ls.flatten.drop (i * s)).take s = l
  | [], _, i, l, h => by simp at h
  | a :: ls, hl, 0, l, h => by
    simp only [List.getElem?_cons_zero, Option.some.injEq] at h
    subst h
    have : a.length = s := hl a (by simp)
    simp [this]
  | a :: ls, hl, i + 1, l, h => by
    have ha : a.length = s := hl a (by simp)
    rw [List.flatten_cons, List.drop_append, List.drop_eq_nil_of_le (by rw [ha, Nat.succ_mul]; omega), List.nil_append, ha, Nat.succ_mul, Nat.add_sub_cancel]
    exact flat_seg s ls (fun x hx => hl x (List.mem_cons_of_mem _ hx)) i l h

theorem flat_len {α : Type} (s : Nat) : ∀ (ls : List (List α)), (∀ l ∈ ls, l.length = s) → ls.flatten.length = ls.length * s
  | [], _ => by simp
  | a :: ls, hl => by
    rw [List.flatten_cons, List.length_append, flat_len s ls (fun x hx => hl x (List.mem_cons_of_mem _ hx)), hl a (by simp), List.length_cons, Nat.succ_mul]
    omega

section
variable {H : Type} {enc : TypeId × Value → H} {P : Program} {w : World} {base : Nat} {spare : Nat → Bool} {held : Bool} {T : Nat → Option Ty}

theorem TyOk.bytesOf {P : Program} {t : Nat} {τ : Ty} (h : TyOk P t τ) : P.bytesOf t = τ.bytes := by
  have := h.info
  unfold Program.bytesOf
  cases hi : P.info? t with
  | none => rw [hi] at this; simp at this
  | some i => rw [hi] at this; simp only [Option.map_some, Option.some.injEq, Prod.mk.injEq] at this; simp [this.2.1]

/-- Nothing that is read is longer than the reach. -/
def Reach (P : Program) (t : Nat) (d : DataW H) : Prop := ∀ k ∈ d.weights P t, k ≤ 140737488351232
theorem reach_all {e : TypeId} : ∀ (l : List (DataW H)) (j : Nat) (d : DataW H), l[j]? = some d → ∀ k ∈ d.weights P e, k ∈ DataW.weightsAll P e l
  | x :: l, 0, d, h, k, hk => by
    simp only [List.getElem?_cons_zero, Option.some.injEq] at h
    subst h
    simp only [DataW.weightsAll, List.mem_append]
    exact .inl hk
  | x :: l, j + 1, d, h, k, hk => by
    simp only [DataW.weightsAll, List.mem_append]
    exact .inr (reach_all l j d (by simpa using h) k hk)
  | [], j, d, h, k, hk => by simp at h

theorem TyOk.cells {P : Program} {t : Nat} {τ : Ty} (h : TyOk P t τ) : P.cellsOf t = τ.size := by
  have := h.info
  unfold Program.cellsOf
  cases hi : P.info? t with
  | none => rw [hi] at this; simp at this
  | some i => rw [hi] at this; simp only [Option.map_some, Option.some.injEq, Prod.mk.injEq] at this; simp [this.1]

/-- Lists that are laid side by side: the parts of the whole. -/
theorem lays_of {T : Nat → Option Ty} {w : World} {M : Nat → Prop} {cs : List Value} : ∀ (fs : List (Nat × Nat)) (o z : Nat) (f : Nat × Nat → List D), laysB T o fs z = true → cs.length = z →
    (∀ p ∈ fs, ∃ φ, T p.1 = some φ ∧ AllR w M (f p) ((cs.drop p.2).take φ.size)) → o ≤ z → ∃ xs, AllR w M xs (cs.drop o) ∧ ∀ p ∈ fs, ∃ φ, T p.1 = some φ ∧ o ≤ p.2 ∧ (xs.drop (p.2 - o)).take φ.size = f p
  | [], o, z, f, hl, hc, _, _ => by
    simp only [laysB, beq_iff_eq] at hl
    refine ⟨[], ⟨by rw [List.length_drop, hc, hl]; simp, fun j x hj => by simp at hj⟩, fun p hp => by simp at hp⟩
  | (ft, off) :: fs, o, z, f, hl, hc, hp, hoz => by
    simp only [laysB, Bool.and_eq_true, beq_iff_eq] at hl
    obtain ⟨rfl, hl⟩ := hl
    obtain ⟨φ, hφ, hR⟩ := hp (ft, off) (by simp)
    simp only [hφ] at hl
    have hz : off + φ.size ≤ z := by
      have : ∀ (fs : List (Nat × Nat)) (o : Nat), laysB T o fs z = true → o ≤ z := by
        intro fs
        induction fs with
        | nil => intro o h; simp only [laysB, beq_iff_eq] at h; omega
        | cons p fs ih =>
          intro o h
          obtain ⟨a, b⟩ := p
          simp only [laysB, Bool.and_eq_true] at h
          have h2 := h.2
          split at h2
          · have := ih _ h2; omega
          · cases h2
      exact this fs _ hl
    obtain ⟨xs, hx, hxs⟩ := lays_of fs (off + φ.size) z f hl hc (fun p h => hp p (List.mem_cons_of_mem _ h)) hz
    have hfl : (f (ft, off)).length = φ.size := by
      rw [hR.1, List.length_take, List.length_drop, hc]; omega
    refine ⟨f (ft, off) ++ xs, ?_, fun p h => ?_⟩
    · have := hR.append hx
      rw [← List.drop_drop, List.take_append_drop] at this
      exact this
    · rcases List.mem_cons.1 h with rfl | h
      · exact ⟨φ, hφ, Nat.le_refl _, by simp only [Nat.sub_self, List.drop_zero]; rw [List.take_append_of_le_length (by omega), List.take_of_length_le (by omega)]⟩
      · obtain ⟨ψ, h1, h2, h3⟩ := hxs p h
        refine ⟨ψ, h1, by omega, ?_⟩
        rw [List.drop_append, List.drop_eq_nil_of_le (by omega), List.nil_append, hfl]
        have : p.2 - off - φ.size = p.2 - (off + φ.size) := by omega
        rw [this, h3]

theorem AllR.one {w : World} {M : Nat → Prop} {x : D} {v : Value} (hp : plainC x = true) (h : RP w M x v) : AllR w M [x] [v] := by
  refine ⟨rfl, fun j y hj => ?_⟩
  match j, hj with
  | 0, hj => simp only [List.getElem?_cons_zero, Option.some.injEq] at hj; subst hj; exact ⟨hp, v, rfl, h⟩
  | j + 1, hj => simp at hj

theorem AllR.flat {w : World} {M : Nat → Prop} {cs : List Value} {s : Nat} : ∀ (ls : List (List D)) (o : Nat), (∀ (i : Nat) l, ls[i]? = some l → AllR w M l ((cs.drop (o + i * s)).take s)) → (∀ l ∈ ls, l.length = s) → AllR w M ls.flatten ((cs.drop o).take (ls.length * s))
  | [], o, _, _ => ⟨by simp, fun j x hj => by simp at hj⟩
  | a :: ls, o, h, hl => by
    have h0 := h 0 a rfl
    have h1 := AllR.flat ls (o + s) (fun i l hi => by
      have := h (i + 1) l (by simpa using hi)
      rw [Nat.succ_mul] at this
      rw [show o + s + i * s = o + (i * s + s) by omega]
      exact this) (fun l hx => hl l (List.mem_cons_of_mem _ hx))
    have := h0.append h1
    rw [Nat.zero_mul, Nat.add_zero] at this
    rw [List.flatten_cons, List.length_cons, Nat.succ_mul, Nat.add_comm (ls.length * s) s, List.take_add, List.drop_drop]
    exact this

/-- What a row's reader reads is clean data of the type's shape. -/
theorem bridge (hT : TOk P T) {M : Nat → Prop} (hM : ∀ b, base ≤ b → b < w.heap.size → ¬ M b) : ∀ (n t fuel : Nat) (cs : List Value) (x : DataW H × List MemPlace), okT T n t = true → DataW.trod enc P w base spare held fuel t cs = some x → Reach P t x.1 → ∃ xs, TyD T n t xs ∧ AllR w M xs cs := by
  intro n
  induction n with
  | zero => intro t fuel cs x h; cases h
  | succ n ih =>
    intro t fuel cs x hok h hw
    unfold okT at hok
    unfold TyD
    cases hτ : T t with
    | none => rw [hτ] at hok; cases hok
    | some τ =>
      rw [hτ] at hok
      simp only at hok ⊢
      obtain ⟨d, hd, hc⟩ := under hT hτ
      cases hds : τ.ds with
      | int k =>
        rw [hds] at hok hc
        simp only [beq_iff_eq] at hok
        have hd' := conv_int hc
        subst hd'
        obtain ⟨i, rfl, _, hw⟩ := DataW.trod_int hd h
        exact ⟨[.int k i], ⟨by rw [hok]; rfl, i, rfl, hw⟩, .one rfl (.int k i)⟩
      | bool =>
        rw [hds] at hok hc
        simp only [beq_iff_eq] at hok
        have hd' := conv_bool hc
        subst hd'
        obtain ⟨b, rfl, _⟩ := DataW.trod_bool hd h
        exact ⟨[.bool b], ⟨by rw [hok]; rfl, b, rfl⟩, .one rfl (.bool b)⟩
      | str =>
        rw [hds] at hok hc
        simp only [beq_iff_eq] at hok
        have hd' := conv_str hc
        subst hd'
        obtain ⟨s, rfl, rfl, hs⟩ := DataW.trod_string hd h
        have hs' : s.size ≤ 140737488351232 := by
          have := hw s.data.toList.length (by simp [DataW.weights])
          simpa using this
        exact ⟨[.str s], ⟨by rw [hok]; rfl, s, rfl, hs'⟩, .one rfl (.str s)⟩
      | map _ _ => rw [hds] at hok; cases hok
      | other => rw [hds] at hok; cases hok
      | struct fs =>
        rw [hds] at hok hc
        simp only [Bool.and_eq_true, List.all_eq_true] at hok
        obtain ⟨F, rfl, hF⟩ := conv_struct hc
        obtain ⟨ys, m, _, rfl, hlen, hyl, hf⟩ := DataW.trod_struct hd h
        have hwy : ∀ (i : Nat) (f : Field) y, F[i]? = some f → ys[i]? = some y → Reach P f.type y.1 := by
          intro i f y hfi hyi k hk
          refine hw k ?_
          simp only [DataW.weights, hd]
          exact DataW.weights_mem_each (j := i) (t := f.type) (d := y.1) (by rw [List.getElem?_map, Array.getElem?_toList, hfi]; rfl) (by simp [hyi]) k hk
        rw [(hT t τ hτ).cells] at hlen
        have hone : ∀ p : Nat × Nat, ∃ zs, p ∈ fs → ∃ φ, T p.1 = some φ ∧ TyD T n p.1 zs ∧ AllR w M zs ((cs.drop p.2).take φ.size) := by
          intro p
          by_cases hp : p ∈ fs
          · have hokp := hok.2 p hp
            rw [← hF] at hp
            obtain ⟨f, hfm, rfl⟩ := List.mem_map.1 hp
            obtain ⟨i, hi⟩ := List.mem_iff_getElem?.1 hfm
            have h1 := hf i f (by simpa using hi)
            simp only at hokp ⊢
            cases hφ : T f.type with
            | none => cases n with
              | zero => cases hokp
              | succ n => simp only [okT, hφ] at hokp; cases hokp
            | some φ =>
              rw [(hT _ φ hφ).cells] at h1
              have hi' : i < ys.length := by
                have := (List.getElem?_eq_some_iff.1 hi).1
                simp only [Array.length_toList] at this
                omega
              rw [List.getElem?_eq_getElem hi'] at h1
              obtain ⟨zs, hz1, hz2⟩ := ih _ _ _ _ hokp h1 (hwy i f _ (by simpa using hi) (List.getElem?_eq_getElem hi'))
              exact ⟨zs, fun _ => ⟨φ, rfl, hz1, hz2⟩⟩
          · exact ⟨[], fun h => (hp h).elim⟩
        obtain ⟨f, hf2⟩ := Classical.axiomOfChoice hone
        obtain ⟨xs, hx, hparts⟩ := lays_of fs 0 τ.size f hok.1 hlen (fun p hp => by obtain ⟨φ, a, _, b⟩ := hf2 p hp; exact ⟨φ, a, b⟩) (Nat.zero_le _)
        rw [List.drop_zero] at hx
        refine ⟨xs, ⟨by rw [hx.1, hlen], fun p hp => ?_⟩, hx⟩
        obtain ⟨φ, h1, _, h3⟩ := hparts p hp
        obtain ⟨ψ, g1, g2, _⟩ := hf2 p hp
        rw [h1] at g1
        cases g1
        rw [Nat.sub_zero] at h3
        exact ⟨φ, h1, by rw [h3]; exact g2⟩
      | arr m e =>
        rw [hds] at hok hc
        simp only [Bool.and_eq_true] at hok
        have hd' := conv_arr hc
        subst hd'
        obtain ⟨ys, k, _, rfl, hlen, hyl, hf⟩ := DataW.trod_array hd h
        have hwy : ∀ (i : Nat) y, ys[i]? = some y → Reach P e y.1 := by
          intro i y hyi k hk
          refine hw k ?_
          simp only [DataW.weights, hd]
          exact reach_all _ i y.1 (by simp [hyi]) k hk
        rw [(hT t τ hτ).cells] at hlen
        obtain ⟨hok1, hok2⟩ := hok
        split at hok2
        · rename_i φ hφ
          simp only [beq_iff_eq] at hok2
          have hone : ∀ i : Nat, ∃ zs, i < m → TyD T n e zs ∧ AllR w M zs ((cs.drop (i * φ.size)).take φ.size) := by
            intro i
            by_cases hi : i < m
            · have h1 := hf i hi
              rw [(hT _ φ hφ).cells, List.getElem?_eq_getElem (by omega)] at h1
              obtain ⟨zs, hz1, hz2⟩ := ih _ _ _ _ hok1 h1 (hwy i _ (List.getElem?_eq_getElem (by omega)))
              exact ⟨zs, fun _ => ⟨hz1, hz2⟩⟩
            · exact ⟨[], fun h => (hi h).elim⟩
          obtain ⟨f, hf2⟩ := Classical.axiomOfChoice hone
          have hls : ∀ l ∈ (List.range m).map f, l.length = φ.size := by
            intro l hl
            obtain ⟨i, hi, rfl⟩ := List.mem_map.1 hl
            have hi := List.mem_range.1 hi
            rw [(hf2 i hi).2.1, List.length_take, List.length_drop, hlen, hok2]
            have : (i + 1) * φ.size ≤ m * φ.size := Nat.mul_le_mul_right _ hi
            rw [Nat.succ_mul] at this
            omega
          have hget : ∀ (i : Nat) l, ((List.range m).map f)[i]? = some l → i < m ∧ l = f i := by
            intro i l hl
            rw [List.getElem?_map, Option.map_eq_some_iff] at hl
            obtain ⟨j, hj, rfl⟩ := hl
            obtain ⟨hj1, hj2⟩ := List.getElem?_eq_some_iff.1 hj
            simp only [List.length_range] at hj1
            simp only [List.getElem_range] at hj2
            exact ⟨hj1, by rw [hj2]⟩
          have hall : AllR w M ((List.range m).map f).flatten ((cs.drop 0).take (((List.range m).map f).length * φ.size)) := by
            refine AllR.flat _ 0 (fun i l hl => ?_) hls
            obtain ⟨hi, rfl⟩ := hget i l hl
            rw [Nat.zero_add]
            exact (hf2 i hi).2
          rw [List.length_map, List.length_range, List.drop_zero, List.take_of_length_le (by omega)] at hall
          refine ⟨_, ⟨by rw [hall.1, hlen], φ, hφ, fun i hi => ?_⟩, hall⟩
          have hi' : ((List.range m).map f)[i]? = some (f i) := by simp [hi]
          rw [flat_seg φ.size _ hls i _ hi']
          exact (hf2 i hi).1
        · cases hok2
      | slice e =>
        rw [hds] at hok hc
        simp only [Bool.and_eq_true, beq_iff_eq] at hok
        have hd' := conv_slice hc
        subst hd'
        obtain ⟨⟨hone, hoke⟩, hpos⟩ := hok
        split at hpos
        · rename_i φ hφ
          simp only [decide_eq_true_eq] at hpos
          rcases open_slice hd h with ⟨rfl, _⟩ | ⟨a, len, cap, m, k, D', Pl, rfl, hb, hl, hm, hmm, rfl, hi⟩
          · refine ⟨[.sl false false 0 []], ⟨by rw [hone]; rfl, 0, [], φ, rfl, by omega, hφ, by simp, fun i hi => by omega⟩, .one rfl ?_⟩
            exact .sl none 0 false false 0 [] (fun _ => undef) (Nat.le_refl _) (Nat.zero_le _) (fun h => by cases h) (fun _ => ⟨rfl, rfl⟩) (fun h => by cases h) (fun h => (h rfl).elim) (fun j x hj => by simp at hj) (fun x hx => by simp at hx)
          · have hlm : len ≤ m := by rw [hmm]; split <;> omega
            have hwl : len * φ.bytes ≤ 140737488351232 := by
              have h1 := hw ((((List.range len).map D').length + ((List.range (m - len)).map fun j => D' (len + j)).length) * P.bytesOf e) (by simp [DataW.weights, hd])
              rw [(hT _ φ hφ).bytesOf] at h1
              simp only [List.length_map, List.length_range] at h1
              exact Nat.le_trans (Nat.mul_le_mul_right _ (by omega)) h1
            have hwy : ∀ i, i < len → Reach P e (D' i) := by
              intro i hi' k hk
              refine hw k ?_
              simp only [DataW.weights, hd, List.mem_cons, List.mem_append]
              exact .inr (.inl (reach_all _ i (D' i) (by simp [hi']) k hk))
            have hone' : ∀ i : Nat, ∃ zs, i < len → TyD T n e zs ∧ zs.length = φ.size ∧ ∀ (j : Nat) z, zs[j]? = some z → plainC z = true ∧ ∃ v, w.cell? (a.add (i * φ.size + j)) = some v ∧ RP w M z v := by
              intro i
              by_cases hil : i < len
              · obtain ⟨cs', hc1, hc2⟩ := hi i (by omega)
                rw [(hT _ φ hφ).cells] at hc1
                obtain ⟨_, g1, g2⟩ := World.cells?_some hc1
                obtain ⟨zs, hz1, hz2⟩ := ih _ _ _ _ hoke hc2 (hwy i hil)
                refine ⟨zs, fun _ => ⟨hz1, by rw [hz2.1, g1], fun j z hj => ?_⟩⟩
                obtain ⟨p1, v, p2, p3⟩ := hz2.2 j z hj
                refine ⟨p1, v, ?_, p3⟩
                have hj' : j < φ.size := by rw [← g1]; exact (List.getElem?_eq_some_iff.1 p2).1
                rw [← Go.Deep.add_add, g2 j hj', p2]
              · exact ⟨[], fun h => (hil h).elim⟩
            obtain ⟨f, hf2⟩ := Classical.axiomOfChoice hone'
            have hls : ∀ l ∈ (List.range len).map f, l.length = φ.size := by
              intro l hl
              obtain ⟨i, hi, rfl⟩ := List.mem_map.1 hl
              exact (hf2 i (List.mem_range.1 hi)).2.1
            have hfl : ((List.range len).map f).flatten.length = len * φ.size := by rw [flat_len φ.size _ hls]; simp
            have hseg : ∀ i, i < len → (((List.range len).map f).flatten.drop (i * φ.size)).take φ.size = f i := fun i hi => flat_seg φ.size _ hls i (f i) (by simp [hi])
            have hat : ∀ (p : Nat) z, ((List.range len).map f).flatten[p]? = some z → plainC z = true ∧ ∃ v, w.cell? (a.add p) = some v ∧ RP w M z v := by
              intro p z hp
              have hpl := (List.getElem?_eq_some_iff.1 hp).1
              rw [hfl] at hpl
              have hq : p / φ.size < len := Nat.div_lt_of_lt_mul (by rwa [Nat.mul_comm])
              have hr : p % φ.size < φ.size := Nat.mod_lt _ hpos
              have he : p / φ.size * φ.size + p % φ.size = p := Nat.div_add_mod' p φ.size
              have hz : (f (p / φ.size))[p % φ.size]? = some z := by
                rw [← hseg _ hq, List.getElem?_take, if_pos hr, List.getElem?_drop, he]
                exact hp
              have := (hf2 _ hq).2.2 _ z hz
              rw [he] at this
              exact this
            refine ⟨[.sl false false len ((List.range len).map f).flatten], ⟨by rw [hone]; rfl, len, _, φ, rfl, hwl, hφ, hfl, fun i hi => by rw [hseg i hi]; exact (hf2 i hi).1⟩, .one rfl ?_⟩
            refine .sl (some a) cap false false len _ (fun j => (w.cell? (a.add j)).getD undef) hl hm (fun h => by cases h) (fun h => by cases h) (fun h => by cases h) (fun hne => ?_) (fun j z hj => ?_) (fun z hz => ?_)
            · have h0 : 0 < ((List.range len).map f).flatten.length := List.length_pos_iff.2 hne
              obtain ⟨_, v, hv, _⟩ := hat 0 _ (List.getElem?_eq_getElem h0)
              obtain ⟨b, o, sp⟩ := a
              have hsp : sp = none := by
                unfold World.cell? at hv
                split at hv
                · split at hv
                  · cases hv
                  · rename_i h; simpa [Addr.add] using h
                · cases hv
              subst hsp
              have hbs : b < w.heap.size := by
                unfold World.cell? at hv
                split at hv
                · rename_i hh; exact (Array.getElem?_eq_some_iff.1 hh).1
                · cases hv
              refine ⟨b, o, rfl, hbs, hM b hb hbs, fun j hj => ?_⟩
              obtain ⟨_, v, hv, _⟩ := hat j _ (List.getElem?_eq_getElem hj)
              have ha : Addr.add ⟨b, o, none⟩ j = ⟨b, o + j, none⟩ := by
                unfold Addr.add
                split
                · rename_i h0; rw [h0]; rfl
                · rfl
              have hv' : w.cell? ⟨b, o + j, none⟩ = some v := by rw [← ha]; exact hv
              rw [hv']
              simp only [hv, Option.getD_some]
            · obtain ⟨_, v, hv, hr⟩ := hat j z hj
              rw [hv]
              exact hr
            · obtain ⟨j, hj⟩ := List.mem_iff_getElem?.1 hz
              exact (hat j z hj).1
        · cases hpos

/-- The shape of an argument. -/
def ArgD (T : Nat → Option Ty) (n t : Nat) (d : D) : Prop :=
  match T t with
  | some τ => if τ.ds.isA then ∃ xs, d = .agg xs ∧ TyD T n t xs else TyD T n t [d]
  | none => False

theorem AllR.agg {w : World} {M : Nat → Prop} {xs : List D} {cs : Array Value} (h : AllR w M xs cs.toList) : RP w M (.agg xs) (.agg cs) := by
  have := RP.agg (w := w) (M := M) xs cs.toList h.1.symm (fun j x hj => by
    obtain ⟨_, v, h1, h2⟩ := h.2 j x hj
    simp only [List.getD, h1, Option.getD_some]
    exact h2) (fun x hx => by
    obtain ⟨j, hj⟩ := List.mem_iff_getElem?.1 hx
    exact (h.2 j x hj).1)
  simpa using this

theorem AllR.single {w : World} {M : Nat → Prop} {xs : List D} {v : Value} (h : AllR w M xs [v]) : ∃ x, xs = [x] ∧ RP w M x v := by
  match xs, h with
  | [], h => have := h.1; simp at this
  | [x], h => obtain ⟨_, u, h1, h2⟩ := h.2 0 x rfl; simp only [List.getElem?_cons_zero, Option.some.injEq] at h1; subst h1; exact ⟨x, rfl, h2⟩
  | x :: y :: xs, h => have := h.1; simp at this

theorem bridge1 (hT : TOk P T) {M : Nat → Prop} (hM : ∀ b, base ≤ b → b < w.heap.size → ¬ M b) {n t b0 : Nat} {v : Value} {d : DataW H} {ps : List MemPlace} (hok : okT T n t = true) (hv : Value.okWide P w .any b0 t v) (h : DataW.Trod enc P w base spare held t v d ps) (hw : Reach P t d) :
    ∃ x, ArgD T n t x ∧ RP w M x v := by
  obtain ⟨fuel, h⟩ := h
  obtain ⟨xs, h1, h2⟩ := bridge hT hM n t fuel _ _ hok h hw
  unfold ArgD
  cases n with
  | zero => cases hok
  | succ n =>
  cases hτ : T t with
  | none => simp only [okT, hτ] at hok; cases hok
  | some τ =>
    simp only
    obtain ⟨d', hd, hc⟩ := under hT hτ
    cases hds : τ.ds with
    | int k =>
      rw [hds] at hc
      have hd' := conv_int hc
      subst hd'
      obtain ⟨i, rfl⟩ := okWide_int hd hv
      obtain ⟨x, rfl, hx⟩ := AllR.single (v := .int k i) h2
      exact ⟨x, by simpa [Ds.isA] using h1, hx⟩
    | bool =>
      rw [hds] at hc
      have hd' := conv_bool hc
      subst hd'
      obtain ⟨i, rfl⟩ := okWide_bool hd hv
      obtain ⟨x, rfl, hx⟩ := AllR.single (v := .bool i) h2
      exact ⟨x, by simpa [Ds.isA] using h1, hx⟩
    | str =>
      rw [hds] at hc
      have hd' := conv_str hc
      subst hd'
      obtain ⟨i, rfl⟩ := okWide_string hd hv
      obtain ⟨x, rfl, hx⟩ := AllR.single (v := .string i) h2
      exact ⟨x, by simpa [Ds.isA] using h1, hx⟩
    | slice e =>
      rw [hds] at hc
      have hd' := conv_slice hc
      subst hd'
      obtain ⟨a, len, cap, rfl⟩ := okWide_slice hd hv
      obtain ⟨x, rfl, hx⟩ := AllR.single (v := .slice a len cap) h2
      exact ⟨x, by simpa [Ds.isA] using h1, hx⟩
    | struct fs =>
      rw [hds] at hc
      obtain ⟨F, rfl, _⟩ := conv_struct hc
      obtain ⟨cs, rfl, _⟩ := okWide_struct hd hv
      exact ⟨.agg xs, by simpa [Ds.isA] using h1, AllR.agg h2⟩
    | arr m e =>
      rw [hds] at hc
      have hd' := conv_arr hc
      subst hd'
      have : ∃ cs, v = .agg cs := by
        unfold Value.okWide at hv
        rw [hd] at hv
        obtain ⟨cs, h, _⟩ := hv
        exact ⟨cs, h⟩
      obtain ⟨cs, rfl⟩ := this
      exact ⟨.agg xs, by simpa [Ds.isA] using h1, AllR.agg h2⟩
    | map _ _ => simp only [okT, hτ, hds] at hok; cases hok
    | other => simp only [okT, hτ, hds] at hok; cases hok

theorem bridgeAll (hT : TOk P T) {M : Nat → Prop} (hM : ∀ b, base ≤ b → b < w.heap.size → ¬ M b) {n b0 : Nat} : ∀ (ts : List TypeId) (vs : List Value) (ds : List (DataW H)) (ps : List MemPlace), DataW.TrodAll enc P w base spare held ts vs ds ps →
    (∀ (j : Nat) t v, ts[j]? = some t → vs[j]? = some v → Value.okWide P w .any b0 t v) → (∀ t ∈ ts, okT T n t = true) → (∀ k ∈ DataW.weightsEach P ts ds, k ≤ 140737488351232) →
    ∃ ar : List D, ar.length = vs.length ∧ (∀ (j : Nat) x, ar[j]? = some x → ∃ v, vs[j]? = some v ∧ RP w M x v) ∧ ar.length = ts.length ∧ ∀ (j : Nat) t, ts[j]? = some t → ∃ x, ar[j]? = some x ∧ ArgD T n t x
  | [], [], [], ps, _, _, _, _ => ⟨[], rfl, fun j x hj => by simp at hj, rfl, fun j t hj => by simp at hj⟩
  | t :: ts, v :: vs, d :: ds, ps, h, hv, hok, hw => by
    obtain ⟨p, q, h1, h2, _⟩ := h
    obtain ⟨x, hx1, hx2⟩ := bridge1 hT hM (hok t (by simp)) (hv 0 t v rfl rfl) h1 (fun k hk => hw k (by simp only [DataW.weightsEach, List.mem_append]; exact .inl hk))
    obtain ⟨ar, g1, g2, g3, g4⟩ := bridgeAll hT hM ts vs ds q h2 (fun j t' v' a b => hv (j + 1) t' v' (by simpa using a) (by simpa using b)) (fun t' ht => hok t' (List.mem_cons_of_mem _ ht)) (fun k hk => hw k (by simp only [DataW.weightsEach, List.mem_append]; exact .inr hk))
    refine ⟨x :: ar, by simp [g1], fun j y hj => ?_, by simp [g3], fun j t' hj => ?_⟩
    · cases j with
      | zero => simp only [List.getElem?_cons_zero, Option.some.injEq] at hj; subst hj; exact ⟨v, rfl, hx2⟩
      | succ j => simpa using g2 j y (by simpa using hj)
    · cases j with
      | zero => simp only [List.getElem?_cons_zero, Option.some.injEq] at hj; subst hj; exact ⟨x, rfl, hx1⟩
      | succ j => simpa using g4 j t' (by simpa using hj)
  | [], [], _ :: _, _, h, _, _, _ => h.elim
  | [], _ :: _, _, _, h, _, _, _ => h.elim
  | _ :: _, [], _, _, h, _, _, _ => h.elim
  | _ :: _, _ :: _, [], _, h, _, _, _ => h.elim
end
end Go.Proofs.YtdecgihkgpgejaaDoor.Am
