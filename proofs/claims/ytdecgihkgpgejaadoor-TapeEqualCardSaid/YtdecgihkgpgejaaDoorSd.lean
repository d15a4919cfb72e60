/- The reference's digits of a number, walked: a function that calls itself. -/
import Derived.Test.YtdecgihkgpgejaaDoorSw
namespace Go.Proofs.YtdecgihkgpgejaaDoor.Am
open Go.RowKit Go.Proofs.YtdecgihkgpgejaaDoor.P Go.Shelf
set_option linter.unusedSimpArgs false
set_option linter.unusedVariables false

theorem tmod_neg10 (u : Nat) : (-(u : Int)).tmod 10 = -((u % 10 : Nat) : Int) := by
  rw [Int.neg_tmod]; rfl
theorem tdiv_neg10 (u : Nat) : (-(u : Int)).tdiv 10 = -((u / 10 : Nat) : Int) := by
  rw [Int.neg_tdiv]; rfl

theorem run_conv1 {P : Program} (w : World) {src dst e : Nat} (hs : P.underlying src = some (.slice e)) (hd : P.underlying dst = some .string) (he : P.underlying e = some (.int .u8)) (a : Addr) (c : Nat) (n : Int) (hc : w.cell? (a.add 0) = some (.int .u8 n)) :
    (convert src dst (.slice (some a) 1 c)).run P w = .ok (.string ⟨#[UInt8.ofNat n.toNat]⟩) w := by
  have hl := run_loadCells (P := P) (w := w) a 1 (fun _ => Value.int .u8 n) (fun j hj => by
    obtain rfl : j = 0 := by omega
    exact hc)
  simp [convert, run_underlying hs, run_underlying hd, run_underlying he, Conv.bytesToString, hl]
  rfl

set_option maxHeartbeats 1000000 in
set_option maxRecDepth 100000 in
theorem digitsB : ∀ (u : Nat), u ≤ 9223372036854775808 → ∀ w : World, Calls Tryd.prog 51 #[.int .i64 (-(u : Int))] w fun e w' => e = .returned (.string ⟨(Lib.decDigits u).toArray⟩) ∧ Below w.heap.size w w' := by
  intro u
  induction u using Nat.strongRecOn with
  | _ u ih =>
    intro hu w
    have h1 := tmod_neg10 u
    have h2 := tdiv_neg10 u
    have hm : u % 10 < 10 := Nat.mod_lt _ (by omega)
    go_enter Tryd.func51, Tryd.ntmps51
    go_wp2
    have hc0 : (w.alloc (.cells #[.int .u8 (48 + (u : Int) % 10)] 5)).cell? ((⟨w.heap.size, 0, none⟩ : Addr).add 0) = some (.int .u8 (48 + (u : Int) % 10)) := by
      rw [Addr.add_lit]; exact (cell_of_cells (heap_alloc_new w _) (j := 0) (by simp)).trans rfl
    rw [run_conv1 _ Tryd.underlying77 Tryd.underlying9 Tryd.underlying5 _ _ _ hc0]
    have hb0 : Below w.heap.size w (w.alloc (.cells #[.int .u8 (48 + (u : Int) % 10)] 5)) := (Below.refl _ w).alloc (Nat.le_refl _) _
    have hch : UInt8.ofNat (48 + (u : Int) % 10).toNat = UInt8.ofNat (48 + u % 10) := by first | (congr 1; done) | (congr 1; omega)
    rw [hch]
    have hd1 : u < 10 → Lib.decDigits u = [UInt8.ofNat (48 + u % 10)] := fun hlt => by rw [Lib.decDigits_one hlt, Nat.mod_eq_of_lt hlt]
    have hd2 : ¬ u < 10 → Lib.decDigits u = Lib.decDigits (u / 10) ++ [UInt8.ofNat (48 + u % 10)] := fun hlt => by rw [Lib.decDigits, dif_neg hlt]
    clear hch
    generalize UInt8.ofNat (48 + u % 10) = q at *
    simp only [Result.andThen]
    rw [Oper.upon_value]
    by_cases hlt : u < 10
    · have hd := hd1 hlt
      go_wp2
      go_ret
      exact ⟨by rw [hd]; rfl, hb0⟩
    · have hd := hd2 hlt
      have hrec := ih (u / 10) (by omega) (by omega)
      have e2 : (⟨(Lib.decDigits (u / 10)).toArray⟩ : ByteArray) ++ ⟨#[q]⟩ = ⟨(Lib.decDigits u).toArray⟩ := by rw [hd]; exact ba_app _ [_]
      have hss : (⟨(Lib.decDigits (u / 10)).toArray⟩ : ByteArray).size + 1 ≤ 9223372036854775807 := by
        show (Lib.decDigits (u / 10)).toArray.size + 1 ≤ _
        rw [List.size_toArray, Lib.decDigits_length]
        have := Lib.nDigits_le20 (u / 10) (by omega)
        omega
      clear hd hd1 hd2
      generalize (⟨(Lib.decDigits (u / 10)).toArray⟩ : ByteArray) = S at *
      go_wp2_with (go_at_call 51; refine (hrec _).mono ?_; rintro e w1 ⟨rfl, hb1⟩)
      go_ret
      exact ⟨by first | rfl | (rw [← e2]; rfl), hb0.trans (hb1.mono hb0.size)⟩

theorem digits_ok : COk Tryd.prog 51 (mkG (as1 (aI .i64)) digitsW (fun r => .clean (.str r))) :=
  str1_ok Tryd.func51 ⟨by kernel_rfl, by kernel_rfl⟩ fun n r hr w M u hu ht => by
    unfold digitsW at hr
    split at hr
    rotate_left
    · cases hr
    rename_i hc
    cases hr
    rw [RP_int hu]
    have hn : n = -((n.natAbs : Nat) : Int) := by omega
    have := digitsB n.natAbs (by omega) w
    rw [← hn] at this
    exact this
end Go.Proofs.YtdecgihkgpgejaaDoor.Am
