/- The memory-free machine, part 5: each operation does what its effect says, more of them. -/
import Derived.Test.YtdecgihkgpgejaaDoorAp
namespace Go.Proofs.YtdecgihkgpgejaaDoor.Am
open Go.RowKit
set_option linter.unusedSimpArgs false
set_option linter.unusedVariables false

section
variable {P : Program} {T : Nat → Option Ty} {N : Nat} {M : Nat → Prop} {L : Lent} {w0 : World} {blk : Nat → Option (Nat × Nat)} {V : Nat → Nat → Prop} {t : Nat → D} {h : Nat → Option Row} {a : Act} {w : World} {e : Nat} {o : Oper} {Γ : Env}

theorem conv_struct {d : TypeDesc} {fs : List (Nat × Nat)} (h : conv d = .struct fs) : ∃ F, d = .struct F ∧ (F.toList.map fun f => (f.type, f.offset)) = fs := by
  cases d <;> simp [conv] at h
  exact ⟨_, rfl, h⟩
theorem conv_slice {d : TypeDesc} {e : Nat} (h : conv d = .slice e) : d = .slice e := by
  cases d <;> simp [conv] at h
  rw [h]
theorem conv_arr {d : TypeDesc} {n e : Nat} (h : conv d = .arr n e) : d = .array n e := by
  cases d <;> simp [conv] at h
  rw [h.1, h.2]
theorem conv_str {d : TypeDesc} (h : conv d = .str) : d = .string := by
  cases d <;> simp [conv] at h
  rfl
theorem conv_bool {d : TypeDesc} (h : conv d = .bool) : d = .bool := by
  cases d <;> simp [conv] at h
  rfl
theorem conv_int {d : TypeDesc} {k : IntKind} (h : conv d = .int k) : d = .int k := by
  cases d <;> simp [conv] at h
  rw [h]

theorem under (hT : TOk P T) {ty : Nat} {τ : Ty} (hτ : T ty = some τ) : ∃ d, P.underlying ty = some d ∧ conv d = τ.ds := by
  obtain ⟨d, i, z, h1, h2, _⟩ := (hT ty τ hτ).get
  exact ⟨d, h1, h2⟩

theorem field_of {F : Array Field} {fs : List (Nat × Nat)} (hF : (F.toList.map fun f => (f.type, f.offset)) = fs) {i ft off : Nat} (hi : fs[i]? = some (ft, off)) : ∃ f, F[i]? = some f ∧ f.type = ft ∧ f.offset = off := by
  rw [← hF, List.getElem?_map] at hi
  cases hf : F[i]? with
  | none => simp [hf] at hi
  | some f => simp [hf] at hi; exact ⟨f, rfl, hi.1, hi.2⟩

/-- A pointer to data, moved on. -/
theorem RP.ip_drop {M' : Nat → Prop} {xs : List D} {ad : Addr} {us : Nat → Value} (k : Nat) (h6 : xs ≠ [] → ∃ b o, ad = ⟨b, o, none⟩ ∧ b < w.heap.size ∧ ¬ M' b ∧ ∀ j, j < xs.length → w.cell? ⟨b, o + j, none⟩ = some (us j))
    (h7 : ∀ j x, xs[j]? = some x → RP w M' x (us j)) (h8 : ∀ x ∈ xs, plainC x = true) : RP w M' (.ip (xs.drop k)) (.pointer (some (ad.add k))) := by
  refine .ip _ _ (fun j => us (k + j)) (fun hne => ?_) (fun j x hj => ?_) (fun x hx => h8 x (List.mem_of_mem_drop hx))
  · have hne' : xs ≠ [] := by rintro rfl; simp at hne
    obtain ⟨b, o, rfl, g1, g2, g3⟩ := h6 hne'
    refine ⟨b, o + k, add_mk _ _ _, g1, g2, fun j hj => ?_⟩
    rw [List.length_drop] at hj
    rw [Nat.add_assoc]
    exact g3 (k + j) (by omega)
  · rw [List.getElem?_drop] at hj
    exact h7 _ _ hj

theorem does_nil (hI : Inv N M L w0 blk V t h a w) {x : Operand} {E : Eff} (ho : o.op = .nilCheck x) (hE : effNil h (ev t x) = some E) : Does P o a w (After N M L w0 V t h a e o.dst E) := by
  have hp := hI.ev x
  generalize hq : ev t x = q at *
  cases q with
  | ptr y v c =>
    simp only [effNil] at hE
    split at hE
    · rename_i r hl
      simp only [Option.some.injEq] at hE
      subst hE
      obtain ⟨hx, hv⟩ := live_some hl
      obtain ⟨g, hg, hp'⟩ := hp.2 r hx hv
      refine does_value (v := .pointer (some ⟨g.1, g.2 + c, none⟩)) (w' := w) ?_ (After.pure_ hI ?_)
      · simp [execOp, ho, hp']
      · rw [← hp']; exact hp
    · cases hE
  | ip xs =>
    simp only [effNil, Option.some.injEq] at hE
    subst hE
    have hp2 := hp
    obtain ⟨ad, h1, _⟩ := RP.ipAt (M' := Own M h blk) hp
    refine does_value (v := .pointer (some ad)) (w' := w) ?_ (After.pure_ hI ?_)
    · simp [execOp, ho, h1]
    · rw [← h1]; exact hp2
  | _ => simp [effNil] at hE

theorem does_fieldAddr (hT : TOk P T) (hI : Inv N M L w0 blk V t h a w) {x : Operand} {ty i : Nat} {τ : Ty} {E : Eff} (ho : o.op = .fieldAddr ty x i) (hτ : T ty = some τ) (hE : effField T τ h i (ev t x) = some E) :
    Does P o a w (After N M L w0 V t h a e o.dst E) := by
  have hp := hI.ev x
  have run : ∀ (ad : Addr) (fs : List (Nat × Nat)) (ft off : Nat) (φ : Ty), τ.ds = .struct fs → fs[i]? = some (ft, off) → T ft = some φ → φ.size ≠ 0 → a.eval x = .pointer (some ad) →
      (execOp a.eval o).run P w = .ok (.value (.pointer (some (ad.add off)))) w := by
    intro ad fs ft off φ hds hi hφ hz hv
    obtain ⟨d, hd, hc⟩ := under hT hτ
    rw [hds] at hc
    obtain ⟨F, rfl, hF⟩ := conv_struct hc
    obtain ⟨f, hf, rfl, rfl⟩ := field_of hF hi
    have hsz := run_sizeOf (P := P) (hT _ _ hφ) w
    simp [execOp, ho, Instr.fieldAt, run_underlying hd, hf, hv, Instr.sureAddr, fieldPlace, hsz, hz]
  generalize hq : ev t x = q at *
  cases q with
  | ptr y v c =>
    simp only [effField] at hE
    split at hE
    · rename_i r fs hl hds
      split at hE
      · rename_i ft off hi
        split at hE
        · rename_i φ hφ
          split at hE
          · cases hE
          · rename_i hz
            simp only [Option.some.injEq] at hE
            subst hE
            obtain ⟨hx, hv⟩ := live_some hl
            obtain ⟨g, hg, hp'⟩ := hp.2 r hx hv
            refine does_value (run _ fs ft off φ hds hi hφ hz hp') (After.pure_ hI ⟨hp.1, fun r' h1 h2 => ⟨g, hg, by rw [add_mk, Nat.add_assoc]⟩⟩)
        · cases hE
      · cases hE
    · cases hE
  | ip xs =>
    simp only [effField] at hE
    split at hE
    · rename_i fs hds
      split at hE
      · rename_i ft off hi
        split at hE
        · rename_i φ hφ
          split at hE
          · cases hE
          · rename_i hz
            simp only [Option.some.injEq] at hE
            subst hE
            have hp' : RP w (Own M h blk) (.ip xs) (a.eval x) := hp
            generalize hu : a.eval x = u at *
            cases hp' with
            | ip xs ad us h6 h7 h8 => exact does_value (run _ fs ft off φ hds hi hφ hz rfl) (After.pure_ hI (RT_of_RP (RP.ip_drop off h6 h7 h8)))
        · cases hE
      · cases hE
    · cases hE
  | _ => simp [effField] at hE

theorem run_index_slice (hT : TOk P T) {x ix : Operand} {ty el n c : Nat} {τ φ : Ty} {k : IntKind} {i : Int} {ad : Addr} (ho : o.op = .indexAddr ty x ix) (hτ : T ty = some τ) (hds : τ.ds = .slice el) (hφ : T el = some φ)
    (hi : 0 ≤ i ∧ i < n) (hx : a.eval x = .slice (some ad) n c) (hix : a.eval ix = .int k i) : (execOp a.eval o).run P w = .ok (.value (.pointer (some (ad.add (i.toNat * φ.size))))) w := by
  obtain ⟨d, hd, hc⟩ := under hT hτ
  rw [hds] at hc
  have := conv_slice hc
  subst this
  have hsz := run_sizeOf (P := P) (hT _ _ hφ) w
  simp only [execOp, ho, Instr.indexAt, hx, hix, asIntOf, Sem.run_bind, Sem.run_pure, Result.andThen_ok, run_underlying hd]
  rw [if_pos hi]
  simp [hsz]

theorem run_index_array (hT : TOk P T) {x ix : Operand} {ty el n : Nat} {τ φ : Ty} {k : IntKind} {i : Int} {ad : Addr} (ho : o.op = .indexAddr ty x ix) (hτ : T ty = some τ) (hds : τ.ds = .arr n el) (hφ : T el = some φ)
    (hi : 0 ≤ i ∧ i < n) (hx : a.eval x = .pointer (some ad)) (hix : a.eval ix = .int k i) : (execOp a.eval o).run P w = .ok (.value (.pointer (some (ad.add (i.toNat * φ.size))))) w := by
  obtain ⟨d, hd, hc⟩ := under hT hτ
  rw [hds] at hc
  have := conv_arr hc
  subst this
  have hsz := run_sizeOf (P := P) (hT _ _ hφ) w
  simp only [execOp, ho, Instr.indexAt, hx, hix, asIntOf, Sem.run_bind, Sem.run_pure, Result.andThen_ok, run_underlying hd, Instr.sureAddr]
  rw [if_pos hi]
  simp [hsz]

theorem does_indexAddr (hT : TOk P T) (hI : Inv N M L w0 blk V t h a w) {x ix : Operand} {ty : Nat} {τ : Ty} {E : Eff} (ho : o.op = .indexAddr ty x ix) (hτ : T ty = some τ) (hE : effIndexAddr T τ h (ev t x) (ev t ix) = some E) :
    Does P o a w (After N M L w0 V t h a e o.dst E) := by
  have hp := hI.ev x
  have hix := hI.ev ix
  generalize ev t x = q at *
  generalize ev t ix = z at *
  cases z with
  | int k i =>
    have hiv := RT_int hix
    cases q with
    | sl nl tight n xs =>
      simp only [effIndexAddr] at hE
      split at hE
      · rename_i el hds
        split at hE
        · rename_i φ hφ
          split at hE
          · rename_i hi
            simp only [Option.some.injEq] at hE
            subst hE
            have hp' : RP w (Own M h blk) (.sl nl tight n xs) (a.eval x) := hp
            generalize hu : a.eval x = u at *
            cases hp' with
            | sl A c nl tight n xs us h1 h2 h3 h4 h5 h6 h7 h8 =>
              cases A with
              | none => have := (h4 rfl).1; omega
              | some ad => exact does_value (run_index_slice hT ho hτ hds hφ hi hu hiv) (After.pure_ hI (RT_of_RP (RP.ip_drop _ (fun hne => by
                  obtain ⟨b, o, hA, rest⟩ := h6 hne
                  cases hA
                  exact ⟨b, o, rfl, rest⟩) h7 h8)))
          · cases hE
        · cases hE
      · cases hE
    | buf y v s c n =>
      simp only [effIndexAddr] at hE
      split at hE
      · rename_i r el hl hds
        split at hE
        · rename_i φ hφ
          split at hE
          · rename_i hi
            obtain ⟨hs, hi⟩ := hi
            simp only [Option.some.injEq] at hE
            subst hE
            obtain ⟨hx, hv⟩ := live_some hl
            rcases hp.2 r hx hv with ⟨g, o', c', N', t', g0, g1, g2, g3, _⟩ | ⟨_, h0, _⟩
            · have ho' := (g2 (.inl (by omega))).1
              subst ho'
              exact does_value (run_index_slice hT ho hτ hds hφ hi g1 hiv) (After.pure_ hI ⟨hp.1, fun r' h1 h2 => ⟨g, g0, by rw [add_mk, hs, Nat.add_assoc]⟩⟩)
            · omega
          · cases hE
        · cases hE
      · cases hE
    | ptr y v c =>
      simp only [effIndexAddr] at hE
      split at hE
      · rename_i r n el hl hds
        split at hE
        · rename_i φ hφ
          split at hE
          · rename_i hi
            simp only [Option.some.injEq] at hE
            subst hE
            obtain ⟨hx, hv⟩ := live_some hl
            obtain ⟨g, hg, hp'⟩ := hp.2 r hx hv
            exact does_value (run_index_array hT ho hτ hds hφ hi hp' hiv) (After.pure_ hI ⟨hp.1, fun r' h1 h2 => ⟨g, hg, by rw [add_mk, Nat.add_assoc]⟩⟩)
          · cases hE
        · cases hE
      · cases hE
    | _ => simp [effIndexAddr] at hE
  | _ => cases q <;> simp [effIndexAddr] at hE
end
end Go.Proofs.YtdecgihkgpgejaaDoor.Am
