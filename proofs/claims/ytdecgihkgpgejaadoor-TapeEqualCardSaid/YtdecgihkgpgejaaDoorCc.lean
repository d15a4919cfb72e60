/- Facts that plain operations leave, in the words of the machine. -/
import Derived.Test.YtdecgihkgpgejaaDoorCb
namespace Go.Proofs.YtdecgihkgpgejaaDoor.Am
open Go.RowKit Go.Proofs.YtdecgihkgpgejaaDoor.P
set_option linter.unusedSimpArgs false
set_option linter.unusedVariables false

theorem eI_size (k : IntKind) : (eI k).size = 1 := Eq.trans rfl rfl
theorem eBool_size : eBool.size = 1 := Eq.trans rfl rfl
theorem eStr_size : eStr.size = 1 := Eq.trans rfl rfl
theorem eSl_size {α : Type} (e : Enc α) : (eSl e).size = 1 := Eq.trans rfl rfl

section
variable {α : Type} (E : Enc α) {l m : List α} {x x' z : α} {i a b n c : Int} {B : Nat}
theorem idx_bd (h : P.idx l i = some x) : 0 ≤ i ∧ i < l.length := by
  unfold P.idx at h
  split at h
  · assumption
  · cases h
theorem idx_at (h : P.idx l i = some x) : l[i.toNat]? = some x := by
  unfold P.idx at h
  split at h
  · exact h
  · cases h
theorem idx_enc (h : P.idx l i = some x) : (encL E l).drop (i.toNat * E.size) = E.cells x ++ encL E (l.drop (i.toNat + 1)) := by
  have h' := idx_at h
  obtain ⟨hi, rfl⟩ := List.getElem?_eq_some_iff.1 h'
  rw [encL_drop, List.drop_eq_getElem_cons hi]
  rfl
theorem idx_encF (fo : Nat) (h : P.idx l i = some x) : (encL E l).drop (i.toNat * E.size + fo) = (E.cells x ++ encL E (l.drop (i.toNat + 1))).drop fo := by
  rw [← List.drop_drop, idx_enc E h]
theorem idx_fit (h : P.idx l i = some x) : i.toNat * E.size + E.size ≤ l.length * E.size := by
  have h' := idx_bd h
  have : i.toNat + 1 ≤ l.length := by omega
  have := Nat.mul_le_mul_right E.size this
  rwa [Nat.succ_mul] at this
theorem idx_fitF (fo s : Nat) (hs : fo + s ≤ E.size) (h : P.idx l i = some x) : i.toNat * E.size + fo + s ≤ l.length * E.size := by
  have := idx_fit E h
  omega
theorem set_at : ∀ (l : List α) (i : Nat) (x : α), l[i]? = some x → ∀ x', encL E (l.set i x') = (encL E l).take (i * E.size) ++ E.cells x' ++ (encL E l).drop (i * E.size + E.size)
  | [], i, x, h, x' => by simp at h
  | y :: l, 0, x, h, x' => by
    rw [List.set_cons_zero, encL_cons, encL_cons, Nat.zero_mul, List.take_zero, List.nil_append, Nat.zero_add, List.drop_append, E.len, Nat.sub_self, List.drop_zero, List.drop_eq_nil_of_le (by rw [E.len]; exact Nat.le_refl _), List.nil_append]
  | y :: l, i + 1, x, h, x' => by
    have ih := set_at l i x (by simpa using h) x'
    rw [List.set_cons_succ, encL_cons, encL_cons, ih, Nat.succ_mul]
    have hy := E.len y
    have e1 : (E.cells y ++ encL E l).take (i * E.size + E.size) = E.cells y ++ (encL E l).take (i * E.size) := by rw [List.take_append, hy, List.take_of_length_le (by omega), Nat.add_sub_cancel]
    have e2 : (E.cells y ++ encL E l).drop (i * E.size + E.size + E.size) = (encL E l).drop (i * E.size + E.size) := by
      rw [List.drop_append, hy, List.drop_eq_nil_of_le (by omega), List.nil_append, Nat.add_sub_cancel]
    rw [e1, e2]
    simp only [List.append_assoc]
theorem put_enc (fo : Nat) (cs : List D) (h : P.idx l i = some x) (hc : E.cells x' = putCells (E.cells x) fo cs) (hfo : fo + cs.length ≤ E.size) : putCells (encL E l) (i.toNat * E.size + fo) cs = encL E (l.set i.toNat x') := by
  have h' := idx_at h
  rw [set_at E l i.toNat x h' x', hc]
  have he := idx_enc E h
  have hf := idx_fit E h
  have hl := encL_len E l
  have hx := E.len x
  have hsplit : encL E l = (encL E l).take (i.toNat * E.size) ++ (E.cells x ++ (encL E l).drop (i.toNat * E.size + E.size)) := by
    have h1 := List.take_append_drop (i.toNat * E.size) (encL E l)
    have h2 : (encL E l).drop (i.toNat * E.size + E.size) = encL E (l.drop (i.toNat + 1)) := by
      rw [← List.drop_drop, he, List.drop_append, hx, Nat.sub_self, List.drop_zero, List.drop_eq_nil_of_le (by omega), List.nil_append]
    rw [h2, ← he, h1]
  generalize (encL E l).drop (i.toNat * E.size + E.size) = r at *
  generalize ht : (encL E l).take (i.toNat * E.size) = p at *
  have hp : p.length = i.toNat * E.size := by rw [← ht]; simp; omega
  unfold putCells
  rw [hsplit]
  have e1 : (p ++ (E.cells x ++ r)).take (i.toNat * E.size + fo) = p ++ (E.cells x).take fo := by
    rw [List.take_append, hp, List.take_of_length_le (by omega), Nat.add_sub_cancel_left, List.take_append_of_le_length (by omega)]
  have e2 : (p ++ (E.cells x ++ r)).drop (i.toNat * E.size + fo + cs.length) = (E.cells x).drop (fo + cs.length) ++ r := by
    rw [Nat.add_assoc, List.drop_append, hp, List.drop_eq_nil_of_le (by omega), Nat.add_sub_cancel_left, List.nil_append, List.drop_append_of_le_length (by omega)]
  rw [e1, e2]
  simp only [List.append_assoc]
theorem put_enc0 (h : P.idx l i = some x) : putCells (encL E l) (i.toNat * E.size) (E.cells x') = encL E (l.set i.toNat x') := by
  have := put_enc E (x' := x') 0 (E.cells x') h (by unfold putCells; simp [E.len]) (by rw [E.len]; omega)
  simpa using this

theorem mk_facts (h : mkL B n c z = some m) : m = List.replicate n.toNat z ∧ 0 ≤ n ∧ n ≤ c ∧ c ≤ maxLen ∧ c.toNat * B ≤ 140737488355328 := by
  unfold mkL at h
  split at h
  · cases h; exact ⟨rfl, by assumption⟩
  · cases h
theorem mk_one (h : mkL B n n z = some m) : 0 ≤ n ∧ n.toNat = m.length ∧ m.length ≤ maxLen ∧ repD m.length (E.cells z) = encL E m ∧ m.length * B ≤ 140737488355328 := by
  obtain ⟨rfl, h1, _, h3, h4⟩ := mk_facts h
  refine ⟨h1, by simp, by simp; omega, by rw [encL_rep]; simp, by simpa using h4⟩
theorem mk_two (h : mkL B n c z = some m) : 0 ≤ n ∧ 0 ≤ c ∧ n.toNat = m.length ∧ repD m.length (E.cells z) = encL E m ∧ m.length ≤ c.toNat ∧ c.toNat ≤ maxLen ∧ c.toNat * B ≤ 140737488355328 := by
  obtain ⟨rfl, h1, h2, h3, h4⟩ := mk_facts h
  refine ⟨h1, by omega, by simp, by rw [encL_rep]; simp, by simp; omega, by omega, h4⟩
theorem slc_facts (h : slc l a b = some m) : 0 ≤ a ∧ 0 ≤ b ∧ a.toNat ≤ b.toNat ∧ b.toNat ≤ l.length ∧ b.toNat - a.toNat = m.length ∧ (List.take (m.length * E.size) (List.drop (a.toNat * E.size) (encL E l)) = encL E m) := by
  unfold slc at h
  split at h
  · rename_i hc
    cases h
    have hl : ((l.drop a.toNat).take (b.toNat - a.toNat)).length = b.toNat - a.toNat := by simp; omega
    refine ⟨hc.1, by omega, by omega, by omega, hl.symm, ?_⟩
    rw [hl, encL_drop, encL_take]
  · cases h
theorem slc_lh (h : slc l a b = some m) : 0 ≤ a ∧ 0 ≤ b ∧ (a.toNat ≤ b.toNat ∧ b.toNat ≤ l.length) ∧ b.toNat - a.toNat = m.length ∧ (List.take (m.length * E.size) (List.drop (a.toNat * E.size) (encL E l)) = encL E m) := by
  obtain ⟨h1, h2, h3, h4, h5, h6⟩ := slc_facts E h
  exact ⟨h1, h2, ⟨h3, h4⟩, h5, h6⟩
theorem slc_ln (h : slc l a (l.length : Int) = some m) : 0 ≤ a ∧ 0 ≤ a ∧ a.toNat ≤ l.length ∧ l.length - a.toNat = m.length ∧ (List.take (m.length * E.size) (List.drop (a.toNat * E.size) (encL E l)) = encL E m) := by
  obtain ⟨h1, h2, h3, h4, h5, h6⟩ := slc_facts E h
  simp only [Int.toNat_natCast] at h3 h5
  exact ⟨h1, h1, h3, h5, h6⟩
theorem slc_nh (h : slc l 0 b = some m) : 0 ≤ b ∧ 0 ≤ b ∧ m.length ≤ l.length ∧ b.toNat = m.length ∧ (List.take (m.length * E.size) (encL E l) = encL E m) := by
  obtain ⟨h1, h2, h3, h4, h5, h6⟩ := slc_facts E h
  have h5' : b.toNat = m.length := by simpa using h5
  refine ⟨h2, h2, by omega, h5', by simpa using h6⟩
theorem app_facts {n : List α} (h : appL B l m = some n) : n = l ++ m ∧ n.length ≤ maxLen ∧ n.length * B ≤ 140737488355328 := by
  unfold appL at h
  split at h
  · rename_i hc
    cases h
    exact ⟨rfl, by rw [List.length_append]; exact hc.1, by rw [List.length_append]; exact hc.2⟩
  · cases h
theorem app_one {n : List α} (h : appL B l [x] = some n) : l.length + 1 = n.length ∧ encL E l ++ E.cells x = encL E n ∧ n.length ≤ maxLen ∧ n.length * B ≤ 140737488355328 := by
  obtain ⟨rfl, h1, h2⟩ := app_facts h
  exact ⟨by simp, by rw [encL_append]; simp [encL], h1, h2⟩
theorem app_nil {n : List α} (h : appL B [] l = some n) : n = l ∧ l.length ≤ maxLen ∧ l.length * B ≤ 140737488355328 := by
  obtain ⟨rfl, h1, h2⟩ := app_facts h
  exact ⟨rfl, h1, h2⟩
theorem app_two {n : List α} (h : appL B l m = some n) : l.length + m.length = n.length ∧ encL E l ++ encL E m = encL E n ∧ n.length ≤ maxLen ∧ n.length * B ≤ 140737488355328 := by
  obtain ⟨rfl, h1, h2⟩ := app_facts h
  exact ⟨by simp, by rw [encL_append], h1, h2⟩
end
theorem divI_ok {k : IntKind} {x y z : Int} (h : divI k x y = some z) : ¬ y = 0 ∧ k.wrap (x.tdiv y) = z := by
  unfold divI at h
  split at h
  · cases h
  · cases h; exact ⟨by assumption, rfl⟩
theorem modI_ok {k : IntKind} {x y z : Int} (h : modI k x y = some z) : ¬ y = 0 ∧ x.tmod y = z := by
  unfold modI at h
  split at h
  · cases h
  · cases h; exact ⟨by assumption, rfl⟩
theorem shlI_ok {k : IntKind} {x y z : Int} (h : shlI k x y = some z) : ¬ y < 0 ∧ k.wrap (x * 2 ^ (min y.toNat k.bits)) = z := by
  unfold shlI at h
  split at h
  · cases h
  · cases h; exact ⟨by assumption, rfl⟩
theorem shrI_ok {k : IntKind} {x y z : Int} (h : shrI k x y = some z) : ¬ y < 0 ∧ x.fdiv (2 ^ (min y.toNat k.bits)) = z := by
  unfold shrI at h
  split at h
  · cases h
  · cases h; exact ⟨by assumption, rfl⟩
theorem catS_ok {a b c : ByteArray} (h : catS a b = some c) : ¬ ((a.size + b.size : Nat) : Int) > IntKind.i64.max ∧ a ++ b = c := by
  unfold catS at h
  split at h
  · cases h
  · cases h; exact ⟨by assumption, rfl⟩
theorem bitD_eq (op : BinOp) (k : IntKind) (x y : Int) : bitD op k x y = bitI op k x y := Eq.trans rfl rfl
theorem sidx_ok {s : ByteArray} {i x : Int} (h : P.sidx s i = some x) : 0 ≤ i ∧ 0 ≤ i ∧ s[i.toNat]? = some (UInt8.ofNat x.toNat) ∧ ((UInt8.ofNat x.toNat).toNat : Int) = x := by
  unfold P.sidx at h
  split at h
  · rename_i hi
    rw [Option.map_eq_some_iff] at h
    obtain ⟨b, h1, h2⟩ := h
    subst h2
    have : UInt8.ofNat (b.toNat : Int).toNat = b := by simp
    exact ⟨hi, hi, by rw [h1, this], by rw [this]⟩
  · cases h

/-- Of a list's kinds of emptiness: nil, and empty otherwise. -/
theorem CallsR.emp {P : Program} {f : FuncId} {rk : RK} {out : Option Row} (h1 : CallsR P f none [.sl true true 0 []] rk out) (h2 : CallsR P f none [.sl true false 0 []] rk out) : CallsR P f none [.sl false false 0 []] rk out := by
  intro w M vs hM ha
  have hd := ha.2 0 _ rfl
  generalize hu : vs.getD 0 undef = u at hd
  cases hd with
  | sl A c nl tight n xs us k1 k2 k3 k4 k5 k6 k7 k8 =>
    cases A with
    | none =>
      refine h1 w M vs hM ⟨ha.1, fun j d hj => ?_, ha.tab⟩
      cases j with
      | zero => cases hj; rw [hu]; exact .sl none c true true 0 [] us k1 k2 (fun _ => ⟨fun _ => ⟨rfl, (k4 rfl).2⟩, fun h => by cases h⟩) k4 (fun _ => (k4 rfl).2) k6 k7 k8
      | succ j => simp at hj
    | some A =>
      refine h2 w M vs hM ⟨ha.1, fun j d hj => ?_, ha.tab⟩
      cases j with
      | zero => cases hj; rw [hu]; exact .sl (some A) c true false 0 [] us k1 k2 (fun _ => ⟨(fun h => by cases h), fun _ h => by cases h⟩) k4 (fun h => by cases h) k6 k7 k8
      | succ j => simp at hj

theorem COk.list3 {P : Program} {T : Nat → Option Ty} {Γ : Env} (hT : TOk P T) (hΓ : GOk P Γ) (hm : P.follows .mixedOrders = true) {α β : Type} {E : Enc α} {F : List α → Option β} {R : β → RK} {mode : Mode} {f : FuncId} {fn : Func} (hf : P.funcs[f]? = some fn) (hok : (match fn.body with | some c => codeOk c | none => true) = true)
    (hc : (fn.name == "runtime.NumGoroutine") = false ∧ fn.body.isNone = false) (hn : 1 ≤ fn.ntmps)
    (h0 : ∀ r, F [] = some r → vfunc mode T Γ FU fn none [.sl true true 0 []] = some (R r, none))
    (h1 : ∀ r, F [] = some r → vfunc mode T Γ FU fn none [.sl true false 0 []] = some (R r, none))
    (h2 : ∀ l r, 0 < l.length → F l = some r → vfunc mode T Γ FU fn none [.sl false false l.length (encL E l)] = some (R r, none)) : COk P f (mkG (as1 (aSl E)) F R) where
  calls lent as rk out hg := by
    obtain ⟨rfl, rfl, l, r, rfl, hr, rfl⟩ := mkG_some hg
    cases l with
    | nil => exact CallsR.emp (vfunc_sound hT hΓ hm hf hok hn rfl (h0 r hr)) (vfunc_sound hT hΓ hm hf hok hn rfl (h1 r hr))
    | cons x l => exact vfunc_sound hT hΓ hm hf hok hn rfl (h2 (x :: l) r (by simp) hr)
  callable := ⟨fn, hf, hc⟩
end Go.Proofs.YtdecgihkgpgejaaDoor.Am
