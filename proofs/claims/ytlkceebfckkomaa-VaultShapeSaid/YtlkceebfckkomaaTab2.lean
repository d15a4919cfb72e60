/- The types of this translation, for the memory-free machine (written by wip/vmtab.py). -/
import Derived.Test.YtlkceebfckkomaaBc
import Derived.Test.YtlkceebfckkomaaChecked
import Derived.KernelRfl
namespace Go.Proofs.Ytlkceebfckkomaa.Am
open Go.RowKit

def tab (t : Nat) : Option Ty :=
  match t with
  | 2 => some ⟨.int .i64, 1, 8, [.int .i64 0], false⟩
  | 3 => some ⟨.int .i64, 1, 8, [.int .i64 0], false⟩
  | 4 => some ⟨.bool, 1, 1, [.bool false], false⟩
  | 5 => some ⟨.int .u8, 1, 1, [.int .u8 0], false⟩
  | 9 => some ⟨.str, 1, 16, [.string ⟨#[]⟩], false⟩
  | 12 => some ⟨.int .u64, 1, 8, [.int .u64 0], false⟩
  | 21 => some ⟨.int .i32, 1, 4, [.int .i32 0], false⟩
  | 22 => some ⟨.slice 30, 1, 24, [.slice none 0 0], false⟩
  | 23 => some ⟨.struct [(22, 0)], 1, 24, [.slice none 0 0], false⟩
  | 24 => some ⟨.struct [(22, 0)], 1, 24, [.slice none 0 0], false⟩
  | 25 => some ⟨.int .i16, 1, 2, [.int .i16 0], false⟩
  | 29 => some ⟨.struct [(9, 0), (3, 1), (3, 2), (3, 3), (3, 4)], 5, 48, [.string ⟨#[]⟩, .int .i64 0, .int .i64 0, .int .i64 0, .int .i64 0], true⟩
  | 30 => some ⟨.struct [(9, 0), (3, 1), (3, 2), (3, 3), (3, 4)], 5, 48, [.string ⟨#[]⟩, .int .i64 0, .int .i64 0, .int .i64 0, .int .i64 0], true⟩
  | 34 => some ⟨.int .i64, 1, 8, [.int .i64 0], false⟩
  | 50 => some ⟨.int .u32, 1, 4, [.int .u32 0], false⟩
  | _ => none

theorem tab_2 : tab 2 = some ⟨.int .i64, 1, 8, [.int .i64 0], false⟩ := rfl
theorem tab_3 : tab 3 = some ⟨.int .i64, 1, 8, [.int .i64 0], false⟩ := rfl
theorem tab_4 : tab 4 = some ⟨.bool, 1, 1, [.bool false], false⟩ := rfl
theorem tab_5 : tab 5 = some ⟨.int .u8, 1, 1, [.int .u8 0], false⟩ := rfl
theorem tab_9 : tab 9 = some ⟨.str, 1, 16, [.string ⟨#[]⟩], false⟩ := rfl
theorem tab_12 : tab 12 = some ⟨.int .u64, 1, 8, [.int .u64 0], false⟩ := rfl
theorem tab_21 : tab 21 = some ⟨.int .i32, 1, 4, [.int .i32 0], false⟩ := rfl
theorem tab_22 : tab 22 = some ⟨.slice 30, 1, 24, [.slice none 0 0], false⟩ := rfl
theorem tab_23 : tab 23 = some ⟨.struct [(22, 0)], 1, 24, [.slice none 0 0], false⟩ := rfl
theorem tab_24 : tab 24 = some ⟨.struct [(22, 0)], 1, 24, [.slice none 0 0], false⟩ := rfl
theorem tab_25 : tab 25 = some ⟨.int .i16, 1, 2, [.int .i16 0], false⟩ := rfl
theorem tab_29 : tab 29 = some ⟨.struct [(9, 0), (3, 1), (3, 2), (3, 3), (3, 4)], 5, 48, [.string ⟨#[]⟩, .int .i64 0, .int .i64 0, .int .i64 0, .int .i64 0], true⟩ := rfl
theorem tab_30 : tab 30 = some ⟨.struct [(9, 0), (3, 1), (3, 2), (3, 3), (3, 4)], 5, 48, [.string ⟨#[]⟩, .int .i64 0, .int .i64 0, .int .i64 0, .int .i64 0], true⟩ := rfl
theorem tab_34 : tab 34 = some ⟨.int .i64, 1, 8, [.int .i64 0], false⟩ := rfl
theorem tab_50 : tab 50 = some ⟨.int .u32, 1, 4, [.int .u32 0], false⟩ := rfl

theorem ty_2 : TyOk Try.prog 2 ⟨.int .i64, 1, 8, [.int .i64 0], false⟩ := ⟨by kernel_rfl, by kernel_rfl, fun h => by cases h⟩
theorem ty_3 : TyOk Try.prog 3 ⟨.int .i64, 1, 8, [.int .i64 0], false⟩ := ⟨by kernel_rfl, by kernel_rfl, fun h => by cases h⟩
theorem ty_4 : TyOk Try.prog 4 ⟨.bool, 1, 1, [.bool false], false⟩ := ⟨by kernel_rfl, by kernel_rfl, fun h => by cases h⟩
theorem ty_5 : TyOk Try.prog 5 ⟨.int .u8, 1, 1, [.int .u8 0], false⟩ := ⟨by kernel_rfl, by kernel_rfl, fun h => by cases h⟩
theorem ty_9 : TyOk Try.prog 9 ⟨.str, 1, 16, [.string ⟨#[]⟩], false⟩ := ⟨by kernel_rfl, by kernel_rfl, fun h => by cases h⟩
theorem ty_12 : TyOk Try.prog 12 ⟨.int .u64, 1, 8, [.int .u64 0], false⟩ := ⟨by kernel_rfl, by kernel_rfl, fun h => by cases h⟩
theorem ty_21 : TyOk Try.prog 21 ⟨.int .i32, 1, 4, [.int .i32 0], false⟩ := ⟨by kernel_rfl, by kernel_rfl, fun h => by cases h⟩
theorem ty_22 : TyOk Try.prog 22 ⟨.slice 30, 1, 24, [.slice none 0 0], false⟩ := ⟨by kernel_rfl, by kernel_rfl, fun h => by cases h⟩
theorem ty_23 : TyOk Try.prog 23 ⟨.struct [(22, 0)], 1, 24, [.slice none 0 0], false⟩ := ⟨by kernel_rfl, by kernel_rfl, fun h => by cases h⟩
theorem ty_24 : TyOk Try.prog 24 ⟨.struct [(22, 0)], 1, 24, [.slice none 0 0], false⟩ := ⟨by kernel_rfl, by kernel_rfl, fun h => by cases h⟩
theorem ty_25 : TyOk Try.prog 25 ⟨.int .i16, 1, 2, [.int .i16 0], false⟩ := ⟨by kernel_rfl, by kernel_rfl, fun h => by cases h⟩
theorem ty_29 : TyOk Try.prog 29 ⟨.struct [(9, 0), (3, 1), (3, 2), (3, 3), (3, 4)], 5, 48, [.string ⟨#[]⟩, .int .i64 0, .int .i64 0, .int .i64 0, .int .i64 0], true⟩ := ⟨by kernel_rfl, by kernel_rfl, fun _ => ⟨by kernel_rfl, by kernel_rfl, by kernel_rfl⟩⟩
theorem ty_30 : TyOk Try.prog 30 ⟨.struct [(9, 0), (3, 1), (3, 2), (3, 3), (3, 4)], 5, 48, [.string ⟨#[]⟩, .int .i64 0, .int .i64 0, .int .i64 0, .int .i64 0], true⟩ := ⟨by kernel_rfl, by kernel_rfl, fun _ => ⟨by kernel_rfl, by kernel_rfl, by kernel_rfl⟩⟩
theorem ty_34 : TyOk Try.prog 34 ⟨.int .i64, 1, 8, [.int .i64 0], false⟩ := ⟨by kernel_rfl, by kernel_rfl, fun h => by cases h⟩
theorem ty_50 : TyOk Try.prog 50 ⟨.int .u32, 1, 4, [.int .u32 0], false⟩ := ⟨by kernel_rfl, by kernel_rfl, fun h => by cases h⟩

theorem tok : TOk Try.prog tab := by
  intro t τ h
  unfold tab at h
  split at h
  · cases h; exact ty_2
  · cases h; exact ty_3
  · cases h; exact ty_4
  · cases h; exact ty_5
  · cases h; exact ty_9
  · cases h; exact ty_12
  · cases h; exact ty_21
  · cases h; exact ty_22
  · cases h; exact ty_23
  · cases h; exact ty_24
  · cases h; exact ty_25
  · cases h; exact ty_29
  · cases h; exact ty_30
  · cases h; exact ty_34
  · cases h; exact ty_50
  · cases h

theorem mixed : Try.prog.follows .mixedOrders = true := by kernel_rfl
end Go.Proofs.Ytlkceebfckkomaa.Am
