/- Maps as plain lists of pairs; own slices of which the beginning was cut off; sorting. -/
import Derived.Test.YtdecgihkgpgejaaDoorCh
namespace Go.Proofs.YtdecgihkgpgejaaDoor.Am
open Go.RowKit Go.Proofs.YtdecgihkgpgejaaDoor.P
set_option linter.unusedSimpArgs false
set_option linter.unusedVariables false

def mapK {α : Type} : List (Int × α) → List Int
  | [] => []
  | (k, _) :: m => k :: mapK m
def mapV {α : Type} (A : Arg α) : List (Int × α) → List D
  | [] => []
  | (_, v) :: m => A.d v :: mapV A m
section
variable {α : Type} {A : Arg α}
theorem mapK_nil : mapK ([] : List (Int × α)) = [] := Eq.trans rfl rfl
theorem mapV_nil : mapV A [] = [] := Eq.trans rfl rfl
theorem mapK_has (n : Int) : ∀ m : List (Int × α), (mapK m).contains n = hasM m n
  | [] => rfl
  | (k, v) :: m => by
    have := mapK_has n m
    simp only [mapK, List.contains_cons, hasM, this]
    congr 1
    exact Bool.beq_comm
theorem mapV_len : ∀ m : List (Int × α), (mapV A m).length = (mapK m).length
  | [] => rfl
  | (k, v) :: m => by simp [mapK, mapV, mapV_len m]
theorem lookD_map (z : α) (n : Int) : ∀ m : List (Int × α), lookD (A.d z) (mapK m) (mapV A m) n = A.d (lookM z m n)
  | [] => rfl
  | (k, v) :: m => by
    simp only [mapK, mapV, lookD, lookM, lookD_map z n m]
    by_cases h : k = n <;> simp [h]
theorem putK_map (n : Int) (v : α) : ∀ m : List (Int × α), putK (mapK m) n = mapK (putM m n v)
  | [] => rfl
  | (k, x) :: m => by
    have ih := putK_map n v m
    unfold putK at ih ⊢
    simp only [mapK, putM, List.contains_cons]
    by_cases h : k = n
    · subst h; simp [mapK]
    · have h1 : (n == k) = false := by simp [Ne.symm h]
      rw [h1, Bool.false_or, if_neg h]
      simp only [mapK]
      rw [← ih]
      cases (mapK m).contains n <;> rfl
theorem putV_map (n : Int) (v : α) : ∀ m : List (Int × α), putV (mapK m) (mapV A m) n (A.d v) = mapV A (putM m n v)
  | [] => rfl
  | (k, x) :: m => by
    have ih := putV_map n v m
    unfold putV at ih ⊢
    simp only [mapK, mapV, putM, List.contains_cons]
    by_cases h : k = n
    · subst h; simp [mapV, List.idxOf_cons]
    · have h1 : (n == k) = false := by simp [Ne.symm h]
      have h2 : (k == n) = false := by simp [h]
      rw [h1, Bool.false_or, if_neg h]
      simp only [mapV, List.idxOf_cons, h2, cond_false]
      rw [← ih]
      cases (mapK m).contains n <;> rfl
theorem map_inj : ∀ {m m' : List (Int × α)}, mapK m = mapK m' → mapV A m = mapV A m' → m = m'
  | [], [], _, _ => rfl
  | [], (k, v) :: m', h, _ => by simp [mapK] at h
  | (k, v) :: m, [], h, _ => by simp [mapK] at h
  | (k, v) :: m, (k', v') :: m', h, g => by
    simp only [mapK, List.cons.injEq] at h
    simp only [mapV, List.cons.injEq] at g
    rw [h.1, A.inj _ _ g.1, map_inj h.2 g.2]
end
def aMp {α : Type} (A : Arg α) : Arg (List (Int × α)) := ⟨fun m => .mpc (mapK m) (mapV A m), fun x y h => by
  simp only [D.mpc.injEq] at h
  exact map_inj h.1 h.2⟩
theorem aMp_d {α : Type} (A : Arg α) (m : List (Int × α)) : (aMp A).d m = .mpc (mapK m) (mapV A m) := Eq.trans rfl rfl
def eMp {α : Type} (A : Arg α) : Enc (List (Int × α)) := ⟨fun m => [.mpc (mapK m) (mapV A m)], 1, fun _ => rfl, by decide, fun x y h => by
  simp only [List.cons.injEq, D.mpc.injEq, and_true] at h
  exact map_inj h.1 h.2⟩
theorem eMp_cells {α : Type} (A : Arg α) (m : List (Int × α)) : (eMp A).cells m = [.mpc (mapK m) (mapV A m)] := Eq.trans rfl rfl
theorem eMp_size {α : Type} (A : Arg α) : (eMp A).size = 1 := Eq.trans rfl rfl
/-- A pointer to something that is only read. -/
def aIp {α : Type} (e : Enc α) : Arg α := ⟨fun x => .ip (e.cells x), fun x y h => e.inj _ _ (by simpa using h)⟩
theorem aIp_d {α : Type} (e : Enc α) (x : α) : (aIp e).d x = .ip (e.cells x) := Eq.trans rfl rfl

section
variable {T : Nat → Option Ty} {h : Nat → Option Row} {Γ : Env} {e : Nat} {dst : Option Nat}
def lvM (v : Nat) : Option Row → Option (List Int × List D)
  | some r => if r.v = v ∧ r.mp = true then (match r.cells with | [.mpc ks vs] => some (ks, vs) | _ => none) else none
  | none => none
theorem liveM_eq {x v : Nat} : liveM h x v = lvM v (h x) := by
  unfold liveM lvM
  cases h x <;> rfl
theorem lvM_some {v ty : Nat} {ks : List Int} {vs : List D} {fz lst : Bool} : lvM v (some ⟨v, ty, [.mpc ks vs], fz, lst, true⟩) = some (ks, vs) := by simp [lvM]
def lkK (ks : List Int) (n : Int) : Bool := ks.contains n
theorem lkK_map {α : Type} {m : List (Int × α)} {n : Int} : lkK (mapK m) n = hasM m n := mapK_has n m
def lkE (ok : Bool) (z : D) (n : Int) : Option (List Int × List D) → Option Eff
  | some (ks, vs) => some ⟨if ok then .tup [lookD z ks vs n, .bool (lkK ks n)] else lookD z ks vs n, []⟩
  | none => none
theorem lkE_t {z : D} {n : Int} {ks : List Int} {vs : List D} : lkE true z n (some (ks, vs)) = some ⟨.tup [lookD z ks vs n, .bool (lkK ks n)], []⟩ := Eq.trans rfl rfl
theorem lkE_f {z : D} {n : Int} {ks : List Int} {vs : List D} : lkE false z n (some (ks, vs)) = some ⟨lookD z ks vs n, []⟩ := Eq.trans rfl rfl
/-- The zero value of a map's elements. -/
def zeroE (T : Nat → Option Ty) (τ : Ty) (d : D) : Prop := ∃ φ z, mapTy T τ = some φ ∧ loadD φ (φ.zero.map ofV) = some z ∧ (φ.zero.map ofV).all plainC = true ∧ canonA z = d
theorem lk_law {τ : Ty} {d : D} (hz : zeroE T τ d) {m : D} {n : Int} {ok : Bool} : effLookup T τ h m (.int .i64 n) ok = lkE ok d n (mapOf h m) := by
  obtain ⟨φ, z, h1, h2, h3, rfl⟩ := hz
  simp only [effLookup, h1, lkE, lkK]
  cases mapOf h m with
  | none => rfl
  | some p => obtain ⟨ks, vs⟩ := p; simp only [h2, h3, if_true]
theorem mapOf_mp {x v : Nat} : mapOf h (.mp x v) = liveM h x v := Eq.trans rfl rfl
theorem mapOf_mpc {ks : List Int} {vs : List D} : mapOf h (.mpc ks vs) = some (ks, vs) := Eq.trans rfl rfl
def muR (h : Nat → Option Row) (y : Nat) (n : Int) (d : D) (fr : List Nat) (ks : List Int) (vs : List D) : Option Row → Option Eff
  | some r => if r.fz = false ∧ fr.contains y = false then some ⟨.und, frz h fr ++ [(y, some ⟨r.v, r.ty, [.mpc (putK ks n) (putV ks vs n d)], false, true, true⟩)]⟩ else none
  | none => none
theorem muR_some {y v ty : Nat} {n : Int} {d : D} {fr : List Nat} {ks : List Int} {vs : List D} {cells : List D} {lst mp : Bool} : muR h y n d fr ks vs (some ⟨v, ty, cells, false, lst, mp⟩) = if fr.contains y = false then some ⟨.und, frz h fr ++ [(y, some ⟨v, ty, [.mpc (putK ks n) (putV ks vs n d)], false, true, true⟩)]⟩ else none := by
  simp only [muR, true_and]
def muM (h : Nat → Option Row) (y : Nat) (n : Int) (d : D) (fr : List Nat) : Option (List Int × List D) → Option Eff
  | some (ks, vs) => muR h y n d fr ks vs (h y)
  | none => none
theorem muM_some {y : Nat} {n : Int} {d : D} {fr : List Nat} {ks : List Int} {vs : List D} : muM h y n d fr (some (ks, vs)) = muR h y n d fr ks vs (h y) := Eq.trans rfl rfl
def muE (h : Nat → Option Row) (y v : Nat) (n : Int) : Option (D × List Nat) → Option Eff
  | some (d, fr) => muM h y n d fr (liveM h y v)
  | none => none
theorem muE_some {y v : Nat} {n : Int} {d : D} {fr : List Nat} : muE h y v n (some (d, fr)) = muM h y n d fr (liveM h y v) := Eq.trans rfl rfl
theorem mu_law {τ : Ty} {d : D} (hz : zeroE T τ d) {y v : Nat} {n : Int} {x : D} : effMapUpdate T τ h (.mp y v) (.int .i64 n) x = muE h y v n (valM h x) := by
  obtain ⟨φ, z, h1, _⟩ := hz
  simp only [effMapUpdate, h1]
  cases valM h x with
  | none => rfl
  | some p =>
    obtain ⟨d, fr⟩ := p
    simp only [muE]
    cases hl : liveM h y v with
    | none => simp only [muM]; cases h y <;> rfl
    | some q =>
      obtain ⟨ks, vs⟩ := q
      simp only [muM]
      cases h y <;> rfl
theorem valM_int {k : IntKind} {n : Int} : valM h (.int k n) = some (.int k n, []) := Eq.trans rfl rfl
theorem valM_bool {b : Bool} : valM h (.bool b) = some (.bool b, []) := Eq.trans rfl rfl
theorem valM_agg {xs : List D} : valM h (.agg xs) = some (.agg (xs.map canon), []) := Eq.trans rfl rfl
theorem mkm_law {τ : Ty} {d : D} (hz : zeroE T τ d) {ty d' : Nat} : mkmE T (some τ) ty e d' = some ⟨.mp d' e, [(d', some ⟨e, ty, [.mpc [] []], false, true, true⟩)]⟩ := by
  obtain ⟨φ, z, h1, _⟩ := hz
  exact mkm_some h1
/-! A variable that holds an own map. -/
def ldP (τ : Ty) : Option Row → Option Eff
  | some r => match r.cells with
    | [.alm y' v'] => if r.fz = true ∧ r.lst = false ∧ τ.size = 1 ∧ τ.ds.isA = false then some ⟨.mp y' v', []⟩ else none
    | _ => none
  | none => none
theorem ld_pm {τ : Ty} {x v y : Nat} : effLd τ h (.pm x v y) = ldP τ (live h x v) := by
  simp only [effLd]
  cases live h x v with
  | none => rfl
  | some r =>
    obtain ⟨v', ty, cells, fz, lst, mp⟩ := r
    rcases cells with _ | ⟨c, _ | ⟨c', cs⟩⟩ <;> rfl
theorem isA_map {a b : Nat} : (Ds.map a b).isA = false := Eq.trans rfl rfl
theorem ldP_some {v ty y' v' : Nat} {b k el : Nat} {z : List Value} {q mp : Bool} : ldP ⟨.map k el, 1, b, z, q⟩ (some ⟨v, ty, [.alm y' v'], true, false, mp⟩) = some ⟨.mp y' v', []⟩ := by
  simp [ldP, Ds.isA]
def stPm (τ : Ty) (x y y' v' : Nat) (m : Bool) : Option Row → Option Eff
  | some r => if τ.size = 1 ∧ y' = y ∧ r.cells.length = 1 ∧ r.fz = false ∧ r.lst = false ∧ m then some ⟨.und, [(x, some ⟨r.v, r.ty, [.alm y' v'], true, false, false⟩)]⟩ else none
  | none => none
theorem sto_mp {τ : Ty} {x v y y' v' : Nat} : effSto τ h (.pm x v y) (.mp y' v') = stPm τ x y y' v' (liveM h y v').isSome (live h x v) := by
  simp only [effSto, stPm]
  cases live h x v <;> rfl
theorem stPm_some {x y v' v ty : Nat} {c : D} {b : Nat} {ds : Ds} {z : List Value} {q mp : Bool} : stPm ⟨ds, 1, b, z, q⟩ x y y v' true (some ⟨v, ty, [c], false, false, mp⟩) = some ⟨.und, [(x, some ⟨v, ty, [.alm y v'], true, false, false⟩)]⟩ := by
  simp [stPm]
theorem nm_mp {x v : Nat} : nm (.mp x v) = [x] := Eq.trans rfl rfl
theorem nm_mpc {ks : List Int} {vs : List D} : nm (.mpc ks vs) = [] := Eq.trans rfl rfl
theorem nm_pm {x v y : Nat} : nm (.pm x v y) = [x, y] := Eq.trans rfl rfl
def clM (x : Nat) : Option (List Int × List D) → Option (D × List Nat)
  | some (ks, vs) => some (.mpc ks vs, [x])
  | none => none
theorem clM_some {x : Nat} {ks : List Int} {vs : List D} : clM x (some (ks, vs)) = some (.mpc ks vs, [x]) := Eq.trans rfl rfl
theorem carg_mp {x v : Nat} : cleanArg h (.mp x v) = clM x (liveM h x v) := by
  simp only [cleanArg, cleanCap, clM]
  cases liveM h x v <;> rfl
theorem carg_mpc {ks : List Int} {vs : List D} : cleanArg h (.mpc ks vs) = some (.mpc ks vs, []) := Eq.trans rfl rfl
theorem cap_mp {x v : Nat} : cleanCap h (.mp x v) = clM x (liveM h x v) := by
  simp only [cleanCap, clM]
  cases liveM h x v <;> rfl
theorem cap_mpc {ks : List Int} {vs : List D} : cleanCap h (.mpc ks vs) = some (.mpc ks vs, []) := Eq.trans rfl rfl
theorem cap_ip {xs : List D} : cleanCap h (.ip xs) = some (.ip xs, []) := Eq.trans rfl rfl
theorem cap_ptr {x v o : Nat} : cleanCap h (.ptr x v o) = clP x o (live h x v) := by
  simp only [cleanCap]
  cases live h x v with
  | none => rfl
  | some r => simp only [clP]
def clN (x y : Nat) : Option (List Int × List D) → Option (D × List Nat)
  | some (ks, vs) => some (.ip [.mpc ks vs], [x, y])
  | none => none
theorem clN_some {x y : Nat} {ks : List Int} {vs : List D} : clN x y (some (ks, vs)) = some (.ip [.mpc ks vs], [x, y]) := Eq.trans rfl rfl
def clQ (h : Nat → Option Row) (x y : Nat) : Option Row → Option (D × List Nat)
  | some r => match r.cells with
    | [.alm y' v'] => if r.fz = true ∧ r.lst = false ∧ y' = y then clN x y (liveM h y v') else none
    | _ => none
  | none => none
theorem clQ_some {x y v' v ty : Nat} {mp : Bool} : clQ h x y (some ⟨v, ty, [.alm y v'], true, false, mp⟩) = clN x y (liveM h y v') := by
  simp [clQ]
theorem cap_pm {x v y : Nat} : cleanCap h (.pm x v y) = clQ h x y (live h x v) := by
  simp only [cleanCap]
  cases live h x v with
  | none => rfl
  | some r =>
    obtain ⟨v', ty, cells, fz, lst, mp⟩ := r
    rcases cells with _ | ⟨c, _ | ⟨c', cs⟩⟩ <;> rfl
theorem okc_ptr {x v o : Nat} : okCap (.ptr x v o) = true := Eq.trans rfl rfl
theorem okc_pm {x v y : Nat} : okCap (.pm x v y) = true := Eq.trans rfl rfl
theorem okc_ip {xs : List D} : okCap (.ip xs) = true := Eq.trans rfl rfl
theorem okc_mp {x v : Nat} : okCap (.mp x v) = true := Eq.trans rfl rfl
theorem okc_mpc {ks : List Int} {vs : List D} : okCap (.mpc ks vs) = true := Eq.trans rfl rfl
theorem frzR_l {v ty : Nat} {cells : List D} {fz mp : Bool} : frzR ⟨v, ty, cells, fz, true, mp⟩ = ⟨v, ty, cells, true, true, mp⟩ := by cases fz <;> rfl
theorem hint_no {d : Nat} : noEnv.hint d = none := Eq.trans rfl rfl
theorem hint_ext {f : Nat} {l : Bool} {G : Option (D × Row) → List D → Option (RK × Option Row)} {d : Nat} : (Am.ext Γ f l G).hint d = Γ.hint d := Eq.trans rfl rfl
theorem hint_keep {d i : Nat} : (Am.keep d Γ).hint i = Γ.hint i := Eq.trans rfl rfl
theorem hint_hint {d y i : Nat} : (Am.hintE d y Γ).hint i = if i = d then some y else Γ.hint i := Eq.trans rfl rfl
theorem hint_own {d y i : Nat} : (Am.hintE d y Γ).own i = Γ.own i := Eq.trans rfl rfl
theorem hint_lends {d y i : Nat} : (Am.hintE d y Γ).lends i = Γ.lends i := Eq.trans rfl rfl
theorem hint_sem {d y i : Nat} {lent : Option (D × Row)} {as : List D} : (Am.hintE d y Γ).sem i lent as = Γ.sem i lent as := Eq.trans rfl rfl
theorem flatD_mpc {ks : List Int} {vs : List D} : flatD (.mpc ks vs) = false := Eq.trans rfl rfl
theorem canon_mpc {ks : List Int} {vs : List D} : canon (.mpc ks vs) = .mpc ks vs := Eq.trans rfl rfl
theorem canonA_mpc {ks : List Int} {vs : List D} : canonA (.mpc ks vs) = .mpc ks vs := Eq.trans rfl rfl
end
/-- Where an own slice lies that has lost its beginning. -/
structure FitR {α : Type} (E : Enc α) (C : List D) (o : Nat) (l : List α) : Prop where
  fit : o + l.length * E.size ≤ C.length
  eq : (C.drop o).take (l.length * E.size) = encL E l
theorem FitR.self {α : Type} (E : Enc α) (l : List α) : FitR E (encL E l) 0 l := ⟨by rw [encL_len]; omega, by rw [List.drop_zero, ← encL_len, List.take_length]⟩
theorem FitR.split {α : Type} {E : Enc α} {C : List D} {o : Nat} {l : List α} (F : FitR E C o l) : C.drop o = encL E l ++ C.drop (o + l.length * E.size) := by
  rw [← List.drop_drop]
  conv => lhs; rw [← List.take_append_drop (l.length * E.size) (C.drop o)]
  rw [F.eq]
theorem FitR.idx {α : Type} {E : Enc α} {C : List D} {o : Nat} {l : List α} {i : Int} {x : α} (F : FitR E C o l) (h : P.idx l i = some x) : o + i.toNat * E.size + E.size ≤ C.length ∧ ∃ rest, C.drop (o + i.toNat * E.size) = E.cells x ++ rest := by
  have h1 := idx_fit E h
  have h2 := F.fit
  refine ⟨by omega, encL E (l.drop (i.toNat + 1)) ++ C.drop (o + l.length * E.size), ?_⟩
  rw [← List.drop_drop, F.split, List.drop_append_of_le_length (by rw [encL_len]; omega), idx_enc E h, List.append_assoc]
theorem FitR.tail {α : Type} {E : Enc α} {C : List D} {o : Nat} {l m : List α} {a : Int} (F : FitR E C o l) (h : slc l a (l.length : Int) = some m) : FitR E C (o + a.toNat * E.size) m := by
  obtain ⟨h1, h2, h3, h4, h5⟩ := slc_ln E h
  have h6 := F.fit
  have h7 : a.toNat * E.size + m.length * E.size = l.length * E.size := by rw [← Nat.add_mul]; congr 1; omega
  refine ⟨by omega, ?_⟩
  rw [← List.drop_drop, F.split, List.drop_append_of_le_length (by rw [encL_len]; omega), List.take_append_of_le_length (by rw [List.length_drop, encL_len]; omega), h5]
theorem vm9a : type_of% (And.intro @mapK_nil <| And.intro @mapV_nil <| And.intro @liveM_eq <| And.intro @lvM_some <| And.intro @lkK_map <| And.intro @lkE_t <| And.intro @lkE_f <| And.intro @mapOf_mp <| And.intro @mapOf_mpc <| And.intro @muR_some <| And.intro @muM_some <| And.intro @muE_some <| And.intro @valM_int <| And.intro @valM_bool <| And.intro @valM_agg <| And.intro @ld_pm <| And.intro @ldP_some <| And.intro @sto_mp <| And.intro @stPm_some <| And.intro @nm_mp <| And.intro @nm_mpc <| @nm_pm) := And.intro @mapK_nil <| And.intro @mapV_nil <| And.intro @liveM_eq <| And.intro @lvM_some <| And.intro @lkK_map <| And.intro @lkE_t <| And.intro @lkE_f <| And.intro @mapOf_mp <| And.intro @mapOf_mpc <| And.intro @muR_some <| And.intro @muM_some <| And.intro @muE_some <| And.intro @valM_int <| And.intro @valM_bool <| And.intro @valM_agg <| And.intro @ld_pm <| And.intro @ldP_some <| And.intro @sto_mp <| And.intro @stPm_some <| And.intro @nm_mp <| And.intro @nm_mpc <| @nm_pm
theorem vm9b : type_of% (And.intro @clM_some <| And.intro @carg_mp <| And.intro @carg_mpc <| And.intro @cap_mp <| And.intro @cap_mpc <| And.intro @cap_ip <| And.intro @cap_ptr <| And.intro @clN_some <| And.intro @clQ_some <| And.intro @cap_pm <| And.intro @okc_ptr <| And.intro @okc_pm <| And.intro @okc_ip <| And.intro @okc_mp <| And.intro @okc_mpc <| And.intro @frzR_t <| And.intro @frzR_f <| And.intro @frzR_l <| And.intro @hint_no <| And.intro @hint_ext <| And.intro @hint_keep <| And.intro @hint_hint <| And.intro @hint_own <| And.intro @hint_lends <| And.intro @hint_sem <| And.intro @ptrH_some <| And.intro @ptrH_none <| And.intro @flatD_mpc <| And.intro @canon_mpc <| And.intro @canonA_mpc <| And.intro @eMp_size <| @aIp_d) := And.intro @clM_some <| And.intro @carg_mp <| And.intro @carg_mpc <| And.intro @cap_mp <| And.intro @cap_mpc <| And.intro @cap_ip <| And.intro @cap_ptr <| And.intro @clN_some <| And.intro @clQ_some <| And.intro @cap_pm <| And.intro @okc_ptr <| And.intro @okc_pm <| And.intro @okc_ip <| And.intro @okc_mp <| And.intro @okc_mpc <| And.intro @frzR_t <| And.intro @frzR_f <| And.intro @frzR_l <| And.intro @hint_no <| And.intro @hint_ext <| And.intro @hint_keep <| And.intro @hint_hint <| And.intro @hint_own <| And.intro @hint_lends <| And.intro @hint_sem <| And.intro @ptrH_some <| And.intro @ptrH_none <| And.intro @flatD_mpc <| And.intro @canon_mpc <| And.intro @canonA_mpc <| And.intro @eMp_size <| @aIp_d
theorem vm9c : type_of% (And.intro @doO_makeMap <| And.intro @doP_makeMap <| And.intro @doO_lookup <| And.intro @doP_lookup <| And.intro @doO_mapUpdate <| And.intro @doP_mapUpdate <| And.intro @doO_insert <| And.intro @doP_insert <| And.intro @touch_makeMap <| And.intro @touch_lookup <| And.intro @touch_mapUpdate <| And.intro @touch_insert <| And.intro @asg_mp <| And.intro @asg_mpc <| @asg_pm) := And.intro @doO_makeMap <| And.intro @doP_makeMap <| And.intro @doO_lookup <| And.intro @doP_lookup <| And.intro @doO_mapUpdate <| And.intro @doP_mapUpdate <| And.intro @doO_insert <| And.intro @doP_insert <| And.intro @touch_makeMap <| And.intro @touch_lookup <| And.intro @touch_mapUpdate <| And.intro @touch_insert <| And.intro @asg_mp <| And.intro @asg_mpc <| @asg_pm
theorem vi : type_of% (And.intro @vm9a <| And.intro @vm9b <| @vm9c) := And.intro @vm9a <| And.intro @vm9b <| @vm9c
end Go.Proofs.YtdecgihkgpgejaaDoor.Am
