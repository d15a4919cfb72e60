/- The types of this translation, for the memory-free machine (written by wip/vmtab.py). -/
import Derived.Test.YtnnkcegdkhclcaaBc
import Derived.Test.YtnnkcegdkhclcaaChecked
import Derived.KernelRfl
namespace Go.Proofs.Ytnnkcegdkhclcaa.Am
open Go.RowKit

def tab (t : Nat) : Option Ty :=
  match t with
  | 2 => some ⟨.int .i64, 1, 8, [.int .i64 0], false⟩
  | 3 => some ⟨.int .i64, 1, 8, [.int .i64 0], false⟩
  | 4 => some ⟨.bool, 1, 1, [.bool false], false⟩
  | 5 => some ⟨.int .u8, 1, 1, [.int .u8 0], false⟩
  | 9 => some ⟨.str, 1, 16, [.string ⟨#[]⟩], false⟩
  | 12 => some ⟨.int .u64, 1, 8, [.int .u64 0], false⟩
  | 21 => some ⟨.int .i32, 1, 4, [.int .i32 0], false⟩
  | 22 => some ⟨.slice 34, 1, 24, [.slice none 0 0], false⟩
  | 25 => some ⟨.int .i64, 1, 8, [.int .i64 0], false⟩
  | 29 => some ⟨.slice 3, 1, 24, [.slice none 0 0], false⟩
  | 33 => some ⟨.struct [(3, 0), (3, 1), (3, 2), (29, 3)], 4, 48, [.int .i64 0, .int .i64 0, .int .i64 0, .slice none 0 0], false⟩
  | 34 => some ⟨.struct [(3, 0), (3, 1), (3, 2), (29, 3)], 4, 48, [.int .i64 0, .int .i64 0, .int .i64 0, .slice none 0 0], false⟩
  | 38 => some ⟨.map 3 34, 1, 8, [.map none], false⟩
  | 39 => some ⟨.map 3 34, 1, 8, [.map none], false⟩
  | 45 => some ⟨.map 3 4, 1, 8, [.map none], false⟩
  | 47 => some ⟨.slice 4, 1, 24, [.slice none 0 0], false⟩
  | 52 => some ⟨.int .u64, 1, 8, [.int .u64 0], false⟩
  | 55 => some ⟨.int .i64, 1, 8, [.int .i64 0], false⟩
  | 63 => some ⟨.int .u32, 1, 4, [.int .u32 0], false⟩
  | 65 => some ⟨.int .u64, 1, 8, [.int .u64 0], false⟩
  | 66 => some ⟨.int .u64, 1, 8, [.int .u64 0], false⟩
  | _ => none

theorem tab_2 : tab 2 = some ⟨.int .i64, 1, 8, [.int .i64 0], false⟩ := rfl
theorem tab_3 : tab 3 = some ⟨.int .i64, 1, 8, [.int .i64 0], false⟩ := rfl
theorem tab_4 : tab 4 = some ⟨.bool, 1, 1, [.bool false], false⟩ := rfl
theorem tab_5 : tab 5 = some ⟨.int .u8, 1, 1, [.int .u8 0], false⟩ := rfl
theorem tab_9 : tab 9 = some ⟨.str, 1, 16, [.string ⟨#[]⟩], false⟩ := rfl
theorem tab_12 : tab 12 = some ⟨.int .u64, 1, 8, [.int .u64 0], false⟩ := rfl
theorem tab_21 : tab 21 = some ⟨.int .i32, 1, 4, [.int .i32 0], false⟩ := rfl
theorem tab_22 : tab 22 = some ⟨.slice 34, 1, 24, [.slice none 0 0], false⟩ := rfl
theorem tab_25 : tab 25 = some ⟨.int .i64, 1, 8, [.int .i64 0], false⟩ := rfl
theorem tab_29 : tab 29 = some ⟨.slice 3, 1, 24, [.slice none 0 0], false⟩ := rfl
theorem tab_33 : tab 33 = some ⟨.struct [(3, 0), (3, 1), (3, 2), (29, 3)], 4, 48, [.int .i64 0, .int .i64 0, .int .i64 0, .slice none 0 0], false⟩ := rfl
theorem tab_34 : tab 34 = some ⟨.struct [(3, 0), (3, 1), (3, 2), (29, 3)], 4, 48, [.int .i64 0, .int .i64 0, .int .i64 0, .slice none 0 0], false⟩ := rfl
theorem tab_38 : tab 38 = some ⟨.map 3 34, 1, 8, [.map none], false⟩ := rfl
theorem tab_39 : tab 39 = some ⟨.map 3 34, 1, 8, [.map none], false⟩ := rfl
theorem tab_45 : tab 45 = some ⟨.map 3 4, 1, 8, [.map none], false⟩ := rfl
theorem tab_47 : tab 47 = some ⟨.slice 4, 1, 24, [.slice none 0 0], false⟩ := rfl
theorem tab_52 : tab 52 = some ⟨.int .u64, 1, 8, [.int .u64 0], false⟩ := rfl
theorem tab_55 : tab 55 = some ⟨.int .i64, 1, 8, [.int .i64 0], false⟩ := rfl
theorem tab_63 : tab 63 = some ⟨.int .u32, 1, 4, [.int .u32 0], false⟩ := rfl
theorem tab_65 : tab 65 = some ⟨.int .u64, 1, 8, [.int .u64 0], false⟩ := rfl
theorem tab_66 : tab 66 = some ⟨.int .u64, 1, 8, [.int .u64 0], false⟩ := rfl

theorem ty_2 : TyOk Try.prog 2 ⟨.int .i64, 1, 8, [.int .i64 0], false⟩ := ⟨by kernel_rfl, by kernel_rfl, by kernel_rfl, fun h => by cases h⟩
theorem ty_3 : TyOk Try.prog 3 ⟨.int .i64, 1, 8, [.int .i64 0], false⟩ := ⟨by kernel_rfl, by kernel_rfl, by kernel_rfl, fun h => by cases h⟩
theorem ty_4 : TyOk Try.prog 4 ⟨.bool, 1, 1, [.bool false], false⟩ := ⟨by kernel_rfl, by kernel_rfl, by kernel_rfl, fun h => by cases h⟩
theorem ty_5 : TyOk Try.prog 5 ⟨.int .u8, 1, 1, [.int .u8 0], false⟩ := ⟨by kernel_rfl, by kernel_rfl, by kernel_rfl, fun h => by cases h⟩
theorem ty_9 : TyOk Try.prog 9 ⟨.str, 1, 16, [.string ⟨#[]⟩], false⟩ := ⟨by kernel_rfl, by kernel_rfl, by kernel_rfl, fun h => by cases h⟩
theorem ty_12 : TyOk Try.prog 12 ⟨.int .u64, 1, 8, [.int .u64 0], false⟩ := ⟨by kernel_rfl, by kernel_rfl, by kernel_rfl, fun h => by cases h⟩
theorem ty_21 : TyOk Try.prog 21 ⟨.int .i32, 1, 4, [.int .i32 0], false⟩ := ⟨by kernel_rfl, by kernel_rfl, by kernel_rfl, fun h => by cases h⟩
theorem ty_22 : TyOk Try.prog 22 ⟨.slice 34, 1, 24, [.slice none 0 0], false⟩ := ⟨by kernel_rfl, by kernel_rfl, by kernel_rfl, fun h => by cases h⟩
theorem ty_25 : TyOk Try.prog 25 ⟨.int .i64, 1, 8, [.int .i64 0], false⟩ := ⟨by kernel_rfl, by kernel_rfl, by kernel_rfl, fun h => by cases h⟩
theorem ty_29 : TyOk Try.prog 29 ⟨.slice 3, 1, 24, [.slice none 0 0], false⟩ := ⟨by kernel_rfl, by kernel_rfl, by kernel_rfl, fun h => by cases h⟩
theorem ty_33 : TyOk Try.prog 33 ⟨.struct [(3, 0), (3, 1), (3, 2), (29, 3)], 4, 48, [.int .i64 0, .int .i64 0, .int .i64 0, .slice none 0 0], false⟩ := ⟨by kernel_rfl, by kernel_rfl, by kernel_rfl, fun h => by cases h⟩
theorem ty_34 : TyOk Try.prog 34 ⟨.struct [(3, 0), (3, 1), (3, 2), (29, 3)], 4, 48, [.int .i64 0, .int .i64 0, .int .i64 0, .slice none 0 0], false⟩ := ⟨by kernel_rfl, by kernel_rfl, by kernel_rfl, fun h => by cases h⟩
theorem ty_38 : TyOk Try.prog 38 ⟨.map 3 34, 1, 8, [.map none], false⟩ := ⟨by kernel_rfl, by kernel_rfl, by kernel_rfl, fun h => by cases h⟩
theorem ty_39 : TyOk Try.prog 39 ⟨.map 3 34, 1, 8, [.map none], false⟩ := ⟨by kernel_rfl, by kernel_rfl, by kernel_rfl, fun h => by cases h⟩
theorem ty_45 : TyOk Try.prog 45 ⟨.map 3 4, 1, 8, [.map none], false⟩ := ⟨by kernel_rfl, by kernel_rfl, by kernel_rfl, fun h => by cases h⟩
theorem ty_47 : TyOk Try.prog 47 ⟨.slice 4, 1, 24, [.slice none 0 0], false⟩ := ⟨by kernel_rfl, by kernel_rfl, by kernel_rfl, fun h => by cases h⟩
theorem ty_52 : TyOk Try.prog 52 ⟨.int .u64, 1, 8, [.int .u64 0], false⟩ := ⟨by kernel_rfl, by kernel_rfl, by kernel_rfl, fun h => by cases h⟩
theorem ty_55 : TyOk Try.prog 55 ⟨.int .i64, 1, 8, [.int .i64 0], false⟩ := ⟨by kernel_rfl, by kernel_rfl, by kernel_rfl, fun h => by cases h⟩
theorem ty_63 : TyOk Try.prog 63 ⟨.int .u32, 1, 4, [.int .u32 0], false⟩ := ⟨by kernel_rfl, by kernel_rfl, by kernel_rfl, fun h => by cases h⟩
theorem ty_65 : TyOk Try.prog 65 ⟨.int .u64, 1, 8, [.int .u64 0], false⟩ := ⟨by kernel_rfl, by kernel_rfl, by kernel_rfl, fun h => by cases h⟩
theorem ty_66 : TyOk Try.prog 66 ⟨.int .u64, 1, 8, [.int .u64 0], false⟩ := ⟨by kernel_rfl, by kernel_rfl, by kernel_rfl, fun h => by cases h⟩

theorem tok : TOk Try.prog tab := by
  intro t τ h
  unfold tab at h
  split at h
  · cases h; exact ty_2
  · cases h; exact ty_3
  · cases h; exact ty_4
  · cases h; exact ty_5
  · cases h; exact ty_9
  · cases h; exact ty_12
  · cases h; exact ty_21
  · cases h; exact ty_22
  · cases h; exact ty_25
  · cases h; exact ty_29
  · cases h; exact ty_33
  · cases h; exact ty_34
  · cases h; exact ty_38
  · cases h; exact ty_39
  · cases h; exact ty_45
  · cases h; exact ty_47
  · cases h; exact ty_52
  · cases h; exact ty_55
  · cases h; exact ty_63
  · cases h; exact ty_65
  · cases h; exact ty_66
  · cases h

theorem mixed : Try.prog.follows .mixedOrders = true := by kernel_rfl
end Go.Proofs.Ytnnkcegdkhclcaa.Am
