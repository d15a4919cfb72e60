/- Cuts: ways meet again behind a piece of code. -/
import Derived.Test.YtdecgihkgpgejaaDoorCf
namespace Go.Proofs.YtdecgihkgpgejaaDoor.Am
open Go.RowKit Go.Proofs.YtdecgihkgpgejaaDoor.P
set_option linter.unusedSimpArgs false
set_option linter.unusedVariables false

section
variable {T : Nat → Option Ty} {Γ : Env} {N F e : Nat} {Q Q' : Kt} {t : Nat → D} {h : Nat → Option Row}

theorem runW_mono (hm : ∀ x t h e, Q x t h e → Q' x t h e) : ∀ (ws : List W) (x : Ex) (t : Nat → D) (h : Nat → Option Row) (e : Nat), runW T Γ N F ws Q x t h e → runW T Γ N F ws Q' x t h e
  | [], x, t, h, e, hk => hm _ _ _ _ hk
  | .code c :: ws, x, t, h, e, hk => by
    unfold runW at hk ⊢
    cases x with
    | normal => exact wpc_monoK c t h e _ _ hk (fun x t h e hx => runW_mono hm ws x t h e hx)
    | exit n => exact runW_mono hm ws _ t h e hk
    | ret => exact runW_mono hm ws _ t h e hk
  | .blk id :: ws, x, t, h, e, hk => by
    unfold runW blkK at hk ⊢
    cases x with
    | normal => exact runW_mono hm ws _ t h e hk
    | exit n =>
      simp only at hk ⊢
      split at hk
      · rename_i hn; rw [if_pos hn]; exact runW_mono hm ws _ t h e hk
      · rename_i hn; rw [if_neg hn]; exact runW_mono hm ws _ t h e hk
    | ret => exact runW_mono hm ws _ t h e hk

theorem runW_split : ∀ (ws : List W) (k : Nat), runW T Γ N F ws Q = runW T Γ N F (ws.take k) (runW T Γ N F (ws.drop k) Q)
  | ws, 0 => by simp [runW]
  | [], k + 1 => by simp [runW]
  | .code c :: ws, k + 1 => by
    rw [List.take_succ_cons, List.drop_succ_cons]
    funext x t h e
    unfold runW
    rw [runW_split ws k]
  | .blk id :: ws, k + 1 => by
    rw [List.take_succ_cons, List.drop_succ_cons]
    funext x t h e
    unfold runW
    rw [runW_split ws k]

variable {σ : Type} {ops l : List Oper} {ws : List W} {dst : Option Nat} {fs : List Foot} {d : D} {g : Nat}

theorem CK_le {J : σ → (Nat → D) → (Nat → Option Row) → Nat → Prop} {P : σ → Prop} {R : Kt} (hrest : ∀ s t h e, J s t h e → P s → R .normal t h e) : ∀ x t h e, CK J P R x t h e → R x t h e := by
  intro x t h e hx
  cases x with
  | normal => obtain ⟨s, h1, h2⟩ := hx; exact hrest s t h e h2 h1
  | exit n => exact hx
  | ret => exact hx

theorem runO_mono (hm : ∀ x t h e, Q x t h e → Q' x t h e) (hk : runO T Γ N F ops l ws Q t h e) : runO T Γ N F ops l ws Q' t h e := runU_mono (fun t h hh => runW_mono hm ws _ _ _ _ hh) _ _ _ hk
theorem runP_mono (hm : ∀ x t h e, Q x t h e → Q' x t h e) (hk : runP T Γ N F ops l ws Q t h e fs) : runP T Γ N F ops l ws Q' t h e fs := runK_mono (fun t h fs hh => ⟨hh.1, runW_mono hm ws _ _ _ _ hh.2⟩) _ _ _ _ hk
theorem runO_split (k : Nat) : runO T Γ N F ops l ws Q t h e = runO T Γ N F ops l (ws.take k) (runW T Γ N F (ws.drop k) Q) t h e := by unfold runO; rw [runW_split ws k]
theorem runP_split (k : Nat) : runP T Γ N F ops l ws Q t h e fs = runP T Γ N F ops l (ws.take k) (runW T Γ N F (ws.drop k) Q) t h e fs := by unfold runP; rw [runW_split ws k]
theorem doO_split (k : Nat) {o : Oper} : doO T Γ N F o ops l ws Q t h e = doO T Γ N F o ops l (ws.take k) (runW T Γ N F (ws.drop k) Q) t h e := by
  unfold doO
  congr 1
  funext t E
  rw [runO_split k]
theorem doP_split (k : Nat) {o : Oper} : doP T Γ N F o ops l ws Q t h e fs = doP T Γ N F o ops l (ws.take k) (runW T Γ N F (ws.drop k) Q) t h e fs := by
  unfold doP
  congr 1
  funext t E
  rw [runP_split k]
theorem doO_mono {o : Oper} (hm : ∀ x t h e, Q x t h e → Q' x t h e) (hk : doO T Γ N F o ops l ws Q t h e) : doO T Γ N F o ops l ws Q' t h e := wpE_mono hk fun _ _ hh => runO_mono hm hh
theorem doP_mono {o : Oper} (hm : ∀ x t h e, Q x t h e → Q' x t h e) (hk : doP T Γ N F o ops l ws Q t h e fs) : doP T Γ N F o ops l ws Q' t h e fs := wpE_mono hk fun _ _ hh => runP_mono hm hh

variable (k : Nat) (J : σ → (Nat → D) → (Nat → Option Row) → Nat → Prop) (P : σ → Prop)

theorem tstC_cut {x y : Code} (hrest : ∀ s t h e, J s t h e → P s → runW T Γ N F (ws.drop k) Q .normal t h e) (hc : tstC T Γ N F d g x y (ws.take k) (CK J P (runW T Γ N F (ws.drop k) Q)) t h e) : tstC T Γ N F d g x y ws Q t h e := by
  unfold tstC at hc ⊢
  have e1 : ∀ c : Code, runW T Γ N F (.code c :: ws) Q = runW T Γ N F (.code c :: ws.take k) (runW T Γ N F (ws.drop k) Q) := fun c => runW_split (.code c :: ws) (k + 1)
  rw [e1, e1]
  exact wpD_mono hc (fun _ hh => runW_mono (CK_le hrest) _ _ _ _ _ hh) (fun _ hh => runW_mono (CK_le hrest) _ _ _ _ _ hh)
theorem tstO_cut {want : Bool} {o : Oper} (hrest : ∀ s t h e, J s t h e → P s → runW T Γ N F (ws.drop k) Q .normal t h e) (hc : tstO T Γ N F d g want o ops l (ws.take k) (CK J P (runW T Γ N F (ws.drop k) Q)) t h e) : tstO T Γ N F d g want o ops l ws Q t h e := by
  unfold tstO at hc ⊢
  refine wpS_mono hc (fun t hh => ?_) (fun t hh => ?_) (fun t hh => ?_)
  · cases want
    · simp only [Bool.false_eq_true, if_false] at hh ⊢; rw [runO_split k]; exact runO_mono (CK_le hrest) hh
    · simp only [if_true] at hh ⊢; rw [doO_split k]; exact doO_mono (CK_le hrest) hh
  · cases want
    · simp only [Bool.false_eq_true, if_false] at hh ⊢; rw [doO_split k]; exact doO_mono (CK_le hrest) hh
    · simp only [if_true] at hh ⊢; rw [runO_split k]; exact runO_mono (CK_le hrest) hh
  · rw [runO_split k]; exact runO_mono (CK_le hrest) hh
theorem tstP_cut {want : Bool} {o : Oper} (hrest : ∀ s t h e, J s t h e → P s → runW T Γ N F (ws.drop k) Q .normal t h e) (hc : tstP T Γ N F d g want o ops l (ws.take k) (CK J P (runW T Γ N F (ws.drop k) Q)) t h e fs) : tstP T Γ N F d g want o ops l ws Q t h e fs := by
  unfold tstP at hc ⊢
  refine wpS_mono hc (fun t hh => ?_) (fun t hh => ?_) (fun t hh => ?_)
  · cases want
    · simp only [Bool.false_eq_true, if_false] at hh ⊢; rw [runP_split k]; exact runP_mono (CK_le hrest) hh
    · simp only [if_true] at hh ⊢; rw [doP_split k]; exact doP_mono (CK_le hrest) hh
  · cases want
    · simp only [Bool.false_eq_true, if_false] at hh ⊢; rw [doP_split k]; exact doP_mono (CK_le hrest) hh
    · simp only [if_true] at hh ⊢; rw [runP_split k]; exact runP_mono (CK_le hrest) hh
  · rw [runP_split k]; exact runP_mono (CK_le hrest) hh
theorem pickO_cut {a b : Operand} (hrest : ∀ s t h e, J s t h e → P s → runW T Γ N F (ws.drop k) Q .normal t h e) (hc : pickO T Γ N F d g a b dst ops l (ws.take k) (CK J P (runW T Γ N F (ws.drop k) Q)) t h e) : pickO T Γ N F d g a b dst ops l ws Q t h e := by
  unfold pickO at hc ⊢
  refine wpD_mono hc (fun t hh => ?_) (fun t hh => ?_)
  · rw [runO_split k]; exact runO_mono (CK_le hrest) hh
  · rw [runO_split k]; exact runO_mono (CK_le hrest) hh
theorem pickP_cut {a b : Operand} (hrest : ∀ s t h e, J s t h e → P s → runW T Γ N F (ws.drop k) Q .normal t h e) (hc : pickP T Γ N F d g a b dst ops l (ws.take k) (CK J P (runW T Γ N F (ws.drop k) Q)) t h e fs) : pickP T Γ N F d g a b dst ops l ws Q t h e fs := by
  unfold pickP at hc ⊢
  refine wpD_mono hc (fun t hh => ?_) (fun t hh => ?_)
  · rw [runP_split k]; exact runP_mono (CK_le hrest) hh
  · rw [runP_split k]; exact runP_mono (CK_le hrest) hh
theorem runLoop_cut {b : Code} (hrest : ∀ s t h e, J s t h e → P s → runW T Γ N F (ws.drop k) Q .normal t h e) (hc : runLoop T Γ N F b (ws.take k) (CK J P (runW T Γ N F (ws.drop k) Q)) t h e) : runLoop T Γ N F b ws Q t h e := by
  unfold runLoop at hc ⊢
  rw [runW_split ws k]
  exact wpc_monoK _ _ _ _ _ _ hc fun x t h e hx => runW_mono (CK_le hrest) _ _ _ _ _ hx
end
end Go.Proofs.YtdecgihkgpgejaaDoor.Am
