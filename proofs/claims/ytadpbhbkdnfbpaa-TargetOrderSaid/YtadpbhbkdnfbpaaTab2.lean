/- The types of this translation, for the memory-free machine (written by wip/vmtab.py). -/
import Derived.Test.YtadpbhbkdnfbpaaBc
import Derived.Test.YtadpbhbkdnfbpaaChecked
import Derived.KernelRfl
namespace Go.Proofs.Ytadpbhbkdnfbpaa.Am
open Go.RowKit

def tab (t : Nat) : Option Ty :=
  match t with
  | 2 => some ⟨.int .i64, 1, 8, [.int .i64 0], false⟩
  | 3 => some ⟨.int .i64, 1, 8, [.int .i64 0], false⟩
  | 4 => some ⟨.bool, 1, 1, [.bool false], false⟩
  | 5 => some ⟨.int .u8, 1, 1, [.int .u8 0], false⟩
  | 9 => some ⟨.str, 1, 16, [.string ⟨#[]⟩], false⟩
  | 12 => some ⟨.int .u64, 1, 8, [.int .u64 0], false⟩
  | 21 => some ⟨.int .i32, 1, 4, [.int .i32 0], false⟩
  | 22 => some ⟨.slice 27, 1, 24, [.slice none 0 0], false⟩
  | 23 => some ⟨.slice 3, 1, 24, [.slice none 0 0], false⟩
  | 24 => some ⟨.struct [(3, 0), (23, 1)], 2, 32, [.int .i64 0, .slice none 0 0], false⟩
  | 25 => some ⟨.struct [(3, 0), (23, 1)], 2, 32, [.int .i64 0, .slice none 0 0], false⟩
  | 26 => some ⟨.struct [(25, 0), (25, 2)], 4, 64, [.int .i64 0, .slice none 0 0, .int .i64 0, .slice none 0 0], false⟩
  | 27 => some ⟨.struct [(25, 0), (25, 2)], 4, 64, [.int .i64 0, .slice none 0 0, .int .i64 0, .slice none 0 0], false⟩
  | 28 => some ⟨.slice 23, 1, 24, [.slice none 0 0], false⟩
  | 32 => some ⟨.int .i64, 1, 8, [.int .i64 0], false⟩
  | 52 => some ⟨.struct [(22, 0), (27, 1)], 5, 88, [.slice none 0 0, .int .i64 0, .slice none 0 0, .int .i64 0, .slice none 0 0], false⟩
  | 53 => some ⟨.struct [(22, 0), (27, 1)], 5, 88, [.slice none 0 0, .int .i64 0, .slice none 0 0, .int .i64 0, .slice none 0 0], false⟩
  | 60 => some ⟨.int .u64, 1, 8, [.int .u64 0], false⟩
  | 73 => some ⟨.int .u32, 1, 4, [.int .u32 0], false⟩
  | 75 => some ⟨.int .u64, 1, 8, [.int .u64 0], false⟩
  | 93 => some ⟨.int .i64, 1, 8, [.int .i64 0], false⟩
  | 99 => some ⟨.int .u64, 1, 8, [.int .u64 0], false⟩
  | _ => none

theorem tab_2 : tab 2 = some ⟨.int .i64, 1, 8, [.int .i64 0], false⟩ := rfl
theorem tab_3 : tab 3 = some ⟨.int .i64, 1, 8, [.int .i64 0], false⟩ := rfl
theorem tab_4 : tab 4 = some ⟨.bool, 1, 1, [.bool false], false⟩ := rfl
theorem tab_5 : tab 5 = some ⟨.int .u8, 1, 1, [.int .u8 0], false⟩ := rfl
theorem tab_9 : tab 9 = some ⟨.str, 1, 16, [.string ⟨#[]⟩], false⟩ := rfl
theorem tab_12 : tab 12 = some ⟨.int .u64, 1, 8, [.int .u64 0], false⟩ := rfl
theorem tab_21 : tab 21 = some ⟨.int .i32, 1, 4, [.int .i32 0], false⟩ := rfl
theorem tab_22 : tab 22 = some ⟨.slice 27, 1, 24, [.slice none 0 0], false⟩ := rfl
theorem tab_23 : tab 23 = some ⟨.slice 3, 1, 24, [.slice none 0 0], false⟩ := rfl
theorem tab_24 : tab 24 = some ⟨.struct [(3, 0), (23, 1)], 2, 32, [.int .i64 0, .slice none 0 0], false⟩ := rfl
theorem tab_25 : tab 25 = some ⟨.struct [(3, 0), (23, 1)], 2, 32, [.int .i64 0, .slice none 0 0], false⟩ := rfl
theorem tab_26 : tab 26 = some ⟨.struct [(25, 0), (25, 2)], 4, 64, [.int .i64 0, .slice none 0 0, .int .i64 0, .slice none 0 0], false⟩ := rfl
theorem tab_27 : tab 27 = some ⟨.struct [(25, 0), (25, 2)], 4, 64, [.int .i64 0, .slice none 0 0, .int .i64 0, .slice none 0 0], false⟩ := rfl
theorem tab_28 : tab 28 = some ⟨.slice 23, 1, 24, [.slice none 0 0], false⟩ := rfl
theorem tab_32 : tab 32 = some ⟨.int .i64, 1, 8, [.int .i64 0], false⟩ := rfl
theorem tab_52 : tab 52 = some ⟨.struct [(22, 0), (27, 1)], 5, 88, [.slice none 0 0, .int .i64 0, .slice none 0 0, .int .i64 0, .slice none 0 0], false⟩ := rfl
theorem tab_53 : tab 53 = some ⟨.struct [(22, 0), (27, 1)], 5, 88, [.slice none 0 0, .int .i64 0, .slice none 0 0, .int .i64 0, .slice none 0 0], false⟩ := rfl
theorem tab_60 : tab 60 = some ⟨.int .u64, 1, 8, [.int .u64 0], false⟩ := rfl
theorem tab_73 : tab 73 = some ⟨.int .u32, 1, 4, [.int .u32 0], false⟩ := rfl
theorem tab_75 : tab 75 = some ⟨.int .u64, 1, 8, [.int .u64 0], false⟩ := rfl
theorem tab_93 : tab 93 = some ⟨.int .i64, 1, 8, [.int .i64 0], false⟩ := rfl
theorem tab_99 : tab 99 = some ⟨.int .u64, 1, 8, [.int .u64 0], false⟩ := rfl

theorem ty_2 : TyOk Try.prog 2 ⟨.int .i64, 1, 8, [.int .i64 0], false⟩ := ⟨by kernel_rfl, by kernel_rfl, fun h => by cases h⟩
theorem ty_3 : TyOk Try.prog 3 ⟨.int .i64, 1, 8, [.int .i64 0], false⟩ := ⟨by kernel_rfl, by kernel_rfl, fun h => by cases h⟩
theorem ty_4 : TyOk Try.prog 4 ⟨.bool, 1, 1, [.bool false], false⟩ := ⟨by kernel_rfl, by kernel_rfl, fun h => by cases h⟩
theorem ty_5 : TyOk Try.prog 5 ⟨.int .u8, 1, 1, [.int .u8 0], false⟩ := ⟨by kernel_rfl, by kernel_rfl, fun h => by cases h⟩
theorem ty_9 : TyOk Try.prog 9 ⟨.str, 1, 16, [.string ⟨#[]⟩], false⟩ := ⟨by kernel_rfl, by kernel_rfl, fun h => by cases h⟩
theorem ty_12 : TyOk Try.prog 12 ⟨.int .u64, 1, 8, [.int .u64 0], false⟩ := ⟨by kernel_rfl, by kernel_rfl, fun h => by cases h⟩
theorem ty_21 : TyOk Try.prog 21 ⟨.int .i32, 1, 4, [.int .i32 0], false⟩ := ⟨by kernel_rfl, by kernel_rfl, fun h => by cases h⟩
theorem ty_22 : TyOk Try.prog 22 ⟨.slice 27, 1, 24, [.slice none 0 0], false⟩ := ⟨by kernel_rfl, by kernel_rfl, fun h => by cases h⟩
theorem ty_23 : TyOk Try.prog 23 ⟨.slice 3, 1, 24, [.slice none 0 0], false⟩ := ⟨by kernel_rfl, by kernel_rfl, fun h => by cases h⟩
theorem ty_24 : TyOk Try.prog 24 ⟨.struct [(3, 0), (23, 1)], 2, 32, [.int .i64 0, .slice none 0 0], false⟩ := ⟨by kernel_rfl, by kernel_rfl, fun h => by cases h⟩
theorem ty_25 : TyOk Try.prog 25 ⟨.struct [(3, 0), (23, 1)], 2, 32, [.int .i64 0, .slice none 0 0], false⟩ := ⟨by kernel_rfl, by kernel_rfl, fun h => by cases h⟩
theorem ty_26 : TyOk Try.prog 26 ⟨.struct [(25, 0), (25, 2)], 4, 64, [.int .i64 0, .slice none 0 0, .int .i64 0, .slice none 0 0], false⟩ := ⟨by kernel_rfl, by kernel_rfl, fun h => by cases h⟩
theorem ty_27 : TyOk Try.prog 27 ⟨.struct [(25, 0), (25, 2)], 4, 64, [.int .i64 0, .slice none 0 0, .int .i64 0, .slice none 0 0], false⟩ := ⟨by kernel_rfl, by kernel_rfl, fun h => by cases h⟩
theorem ty_28 : TyOk Try.prog 28 ⟨.slice 23, 1, 24, [.slice none 0 0], false⟩ := ⟨by kernel_rfl, by kernel_rfl, fun h => by cases h⟩
theorem ty_32 : TyOk Try.prog 32 ⟨.int .i64, 1, 8, [.int .i64 0], false⟩ := ⟨by kernel_rfl, by kernel_rfl, fun h => by cases h⟩
theorem ty_52 : TyOk Try.prog 52 ⟨.struct [(22, 0), (27, 1)], 5, 88, [.slice none 0 0, .int .i64 0, .slice none 0 0, .int .i64 0, .slice none 0 0], false⟩ := ⟨by kernel_rfl, by kernel_rfl, fun h => by cases h⟩
theorem ty_53 : TyOk Try.prog 53 ⟨.struct [(22, 0), (27, 1)], 5, 88, [.slice none 0 0, .int .i64 0, .slice none 0 0, .int .i64 0, .slice none 0 0], false⟩ := ⟨by kernel_rfl, by kernel_rfl, fun h => by cases h⟩
theorem ty_60 : TyOk Try.prog 60 ⟨.int .u64, 1, 8, [.int .u64 0], false⟩ := ⟨by kernel_rfl, by kernel_rfl, fun h => by cases h⟩
theorem ty_73 : TyOk Try.prog 73 ⟨.int .u32, 1, 4, [.int .u32 0], false⟩ := ⟨by kernel_rfl, by kernel_rfl, fun h => by cases h⟩
theorem ty_75 : TyOk Try.prog 75 ⟨.int .u64, 1, 8, [.int .u64 0], false⟩ := ⟨by kernel_rfl, by kernel_rfl, fun h => by cases h⟩
theorem ty_93 : TyOk Try.prog 93 ⟨.int .i64, 1, 8, [.int .i64 0], false⟩ := ⟨by kernel_rfl, by kernel_rfl, fun h => by cases h⟩
theorem ty_99 : TyOk Try.prog 99 ⟨.int .u64, 1, 8, [.int .u64 0], false⟩ := ⟨by kernel_rfl, by kernel_rfl, fun h => by cases h⟩

theorem tok : TOk Try.prog tab := by
  intro t τ h
  unfold tab at h
  split at h
  · cases h; exact ty_2
  · cases h; exact ty_3
  · cases h; exact ty_4
  · cases h; exact ty_5
  · cases h; exact ty_9
  · cases h; exact ty_12
  · cases h; exact ty_21
  · cases h; exact ty_22
  · cases h; exact ty_23
  · cases h; exact ty_24
  · cases h; exact ty_25
  · cases h; exact ty_26
  · cases h; exact ty_27
  · cases h; exact ty_28
  · cases h; exact ty_32
  · cases h; exact ty_52
  · cases h; exact ty_53
  · cases h; exact ty_60
  · cases h; exact ty_73
  · cases h; exact ty_75
  · cases h; exact ty_93
  · cases h; exact ty_99
  · cases h

theorem mixed : Try.prog.follows .mixedOrders = true := by kernel_rfl
end Go.Proofs.Ytadpbhbkdnfbpaa.Am
