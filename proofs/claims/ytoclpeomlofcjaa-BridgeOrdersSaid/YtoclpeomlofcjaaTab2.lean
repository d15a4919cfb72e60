/- The types of this translation, for the memory-free machine (written by wip/vmtab.py). -/
import Derived.Test.YtoclpeomlofcjaaBc
import Derived.Test.YtoclpeomlofcjaaChecked
import Derived.KernelRfl
namespace Go.Proofs.Ytoclpeomlofcjaa.Am
open Go.RowKit

def tab (t : Nat) : Option Ty :=
  match t with
  | 2 => some ⟨.int .i64, 1, 8, [.int .i64 0], false⟩
  | 3 => some ⟨.int .i64, 1, 8, [.int .i64 0], false⟩
  | 4 => some ⟨.bool, 1, 1, [.bool false], false⟩
  | 5 => some ⟨.int .u8, 1, 1, [.int .u8 0], false⟩
  | 9 => some ⟨.str, 1, 16, [.string ⟨#[]⟩], false⟩
  | 12 => some ⟨.int .u64, 1, 8, [.int .u64 0], false⟩
  | 21 => some ⟨.int .i32, 1, 4, [.int .i32 0], false⟩
  | 22 => some ⟨.slice 34, 1, 24, [.slice none 0 0], false⟩
  | 26 => some ⟨.int .i64, 1, 8, [.int .i64 0], false⟩
  | 30 => some ⟨.slice 3, 1, 24, [.slice none 0 0], false⟩
  | 31 => some ⟨.struct [(3, 0), (30, 1)], 2, 32, [.int .i64 0, .slice none 0 0], false⟩
  | 32 => some ⟨.struct [(3, 0), (30, 1)], 2, 32, [.int .i64 0, .slice none 0 0], false⟩
  | 33 => some ⟨.struct [(32, 0), (32, 2)], 4, 64, [.int .i64 0, .slice none 0 0, .int .i64 0, .slice none 0 0], false⟩
  | 34 => some ⟨.struct [(32, 0), (32, 2)], 4, 64, [.int .i64 0, .slice none 0 0, .int .i64 0, .slice none 0 0], false⟩
  | 51 => some ⟨.slice 62, 1, 24, [.slice none 0 0], false⟩
  | 52 => some ⟨.struct [(3, 0), (51, 1)], 2, 32, [.int .i64 0, .slice none 0 0], false⟩
  | 53 => some ⟨.struct [(3, 0), (51, 1)], 2, 32, [.int .i64 0, .slice none 0 0], false⟩
  | 60 => some ⟨.slice 4, 1, 24, [.slice none 0 0], false⟩
  | 61 => some ⟨.struct [(3, 0), (3, 1), (34, 2)], 6, 80, [.int .i64 0, .int .i64 0, .int .i64 0, .slice none 0 0, .int .i64 0, .slice none 0 0], false⟩
  | 62 => some ⟨.struct [(3, 0), (3, 1), (34, 2)], 6, 80, [.int .i64 0, .int .i64 0, .int .i64 0, .slice none 0 0, .int .i64 0, .slice none 0 0], false⟩
  | 67 => some ⟨.slice 5, 1, 24, [.slice none 0 0], false⟩
  | 75 => some ⟨.int .u64, 1, 8, [.int .u64 0], false⟩
  | 92 => some ⟨.slice 96, 1, 24, [.slice none 0 0], false⟩
  | 94 => some ⟨.slice 101, 1, 24, [.slice none 0 0], false⟩
  | 95 => some ⟨.struct [(34, 0), (94, 4)], 5, 88, [.int .i64 0, .slice none 0 0, .int .i64 0, .slice none 0 0, .slice none 0 0], false⟩
  | 96 => some ⟨.struct [(34, 0), (94, 4)], 5, 88, [.int .i64 0, .slice none 0 0, .int .i64 0, .slice none 0 0, .slice none 0 0], false⟩
  | 100 => some ⟨.struct [(3, 0), (34, 1)], 5, 72, [.int .i64 0, .int .i64 0, .slice none 0 0, .int .i64 0, .slice none 0 0], false⟩
  | 101 => some ⟨.struct [(3, 0), (34, 1)], 5, 72, [.int .i64 0, .int .i64 0, .slice none 0 0, .int .i64 0, .slice none 0 0], false⟩
  | 104 => some ⟨.int .u32, 1, 4, [.int .u32 0], false⟩
  | 106 => some ⟨.int .u64, 1, 8, [.int .u64 0], false⟩
  | 124 => some ⟨.slice 30, 1, 24, [.slice none 0 0], false⟩
  | _ => none

theorem tab_2 : tab 2 = some ⟨.int .i64, 1, 8, [.int .i64 0], false⟩ := rfl
theorem tab_3 : tab 3 = some ⟨.int .i64, 1, 8, [.int .i64 0], false⟩ := rfl
theorem tab_4 : tab 4 = some ⟨.bool, 1, 1, [.bool false], false⟩ := rfl
theorem tab_5 : tab 5 = some ⟨.int .u8, 1, 1, [.int .u8 0], false⟩ := rfl
theorem tab_9 : tab 9 = some ⟨.str, 1, 16, [.string ⟨#[]⟩], false⟩ := rfl
theorem tab_12 : tab 12 = some ⟨.int .u64, 1, 8, [.int .u64 0], false⟩ := rfl
theorem tab_21 : tab 21 = some ⟨.int .i32, 1, 4, [.int .i32 0], false⟩ := rfl
theorem tab_22 : tab 22 = some ⟨.slice 34, 1, 24, [.slice none 0 0], false⟩ := rfl
theorem tab_26 : tab 26 = some ⟨.int .i64, 1, 8, [.int .i64 0], false⟩ := rfl
theorem tab_30 : tab 30 = some ⟨.slice 3, 1, 24, [.slice none 0 0], false⟩ := rfl
theorem tab_31 : tab 31 = some ⟨.struct [(3, 0), (30, 1)], 2, 32, [.int .i64 0, .slice none 0 0], false⟩ := rfl
theorem tab_32 : tab 32 = some ⟨.struct [(3, 0), (30, 1)], 2, 32, [.int .i64 0, .slice none 0 0], false⟩ := rfl
theorem tab_33 : tab 33 = some ⟨.struct [(32, 0), (32, 2)], 4, 64, [.int .i64 0, .slice none 0 0, .int .i64 0, .slice none 0 0], false⟩ := rfl
theorem tab_34 : tab 34 = some ⟨.struct [(32, 0), (32, 2)], 4, 64, [.int .i64 0, .slice none 0 0, .int .i64 0, .slice none 0 0], false⟩ := rfl
theorem tab_51 : tab 51 = some ⟨.slice 62, 1, 24, [.slice none 0 0], false⟩ := rfl
theorem tab_52 : tab 52 = some ⟨.struct [(3, 0), (51, 1)], 2, 32, [.int .i64 0, .slice none 0 0], false⟩ := rfl
theorem tab_53 : tab 53 = some ⟨.struct [(3, 0), (51, 1)], 2, 32, [.int .i64 0, .slice none 0 0], false⟩ := rfl
theorem tab_60 : tab 60 = some ⟨.slice 4, 1, 24, [.slice none 0 0], false⟩ := rfl
theorem tab_61 : tab 61 = some ⟨.struct [(3, 0), (3, 1), (34, 2)], 6, 80, [.int .i64 0, .int .i64 0, .int .i64 0, .slice none 0 0, .int .i64 0, .slice none 0 0], false⟩ := rfl
theorem tab_62 : tab 62 = some ⟨.struct [(3, 0), (3, 1), (34, 2)], 6, 80, [.int .i64 0, .int .i64 0, .int .i64 0, .slice none 0 0, .int .i64 0, .slice none 0 0], false⟩ := rfl
theorem tab_67 : tab 67 = some ⟨.slice 5, 1, 24, [.slice none 0 0], false⟩ := rfl
theorem tab_75 : tab 75 = some ⟨.int .u64, 1, 8, [.int .u64 0], false⟩ := rfl
theorem tab_92 : tab 92 = some ⟨.slice 96, 1, 24, [.slice none 0 0], false⟩ := rfl
theorem tab_94 : tab 94 = some ⟨.slice 101, 1, 24, [.slice none 0 0], false⟩ := rfl
theorem tab_95 : tab 95 = some ⟨.struct [(34, 0), (94, 4)], 5, 88, [.int .i64 0, .slice none 0 0, .int .i64 0, .slice none 0 0, .slice none 0 0], false⟩ := rfl
theorem tab_96 : tab 96 = some ⟨.struct [(34, 0), (94, 4)], 5, 88, [.int .i64 0, .slice none 0 0, .int .i64 0, .slice none 0 0, .slice none 0 0], false⟩ := rfl
theorem tab_100 : tab 100 = some ⟨.struct [(3, 0), (34, 1)], 5, 72, [.int .i64 0, .int .i64 0, .slice none 0 0, .int .i64 0, .slice none 0 0], false⟩ := rfl
theorem tab_101 : tab 101 = some ⟨.struct [(3, 0), (34, 1)], 5, 72, [.int .i64 0, .int .i64 0, .slice none 0 0, .int .i64 0, .slice none 0 0], false⟩ := rfl
theorem tab_104 : tab 104 = some ⟨.int .u32, 1, 4, [.int .u32 0], false⟩ := rfl
theorem tab_106 : tab 106 = some ⟨.int .u64, 1, 8, [.int .u64 0], false⟩ := rfl
theorem tab_124 : tab 124 = some ⟨.slice 30, 1, 24, [.slice none 0 0], false⟩ := rfl

theorem ty_2 : TyOk Try.prog 2 ⟨.int .i64, 1, 8, [.int .i64 0], false⟩ := ⟨by kernel_rfl, by kernel_rfl, fun h => by cases h⟩
theorem ty_3 : TyOk Try.prog 3 ⟨.int .i64, 1, 8, [.int .i64 0], false⟩ := ⟨by kernel_rfl, by kernel_rfl, fun h => by cases h⟩
theorem ty_4 : TyOk Try.prog 4 ⟨.bool, 1, 1, [.bool false], false⟩ := ⟨by kernel_rfl, by kernel_rfl, fun h => by cases h⟩
theorem ty_5 : TyOk Try.prog 5 ⟨.int .u8, 1, 1, [.int .u8 0], false⟩ := ⟨by kernel_rfl, by kernel_rfl, fun h => by cases h⟩
theorem ty_9 : TyOk Try.prog 9 ⟨.str, 1, 16, [.string ⟨#[]⟩], false⟩ := ⟨by kernel_rfl, by kernel_rfl, fun h => by cases h⟩
theorem ty_12 : TyOk Try.prog 12 ⟨.int .u64, 1, 8, [.int .u64 0], false⟩ := ⟨by kernel_rfl, by kernel_rfl, fun h => by cases h⟩
theorem ty_21 : TyOk Try.prog 21 ⟨.int .i32, 1, 4, [.int .i32 0], false⟩ := ⟨by kernel_rfl, by kernel_rfl, fun h => by cases h⟩
theorem ty_22 : TyOk Try.prog 22 ⟨.slice 34, 1, 24, [.slice none 0 0], false⟩ := ⟨by kernel_rfl, by kernel_rfl, fun h => by cases h⟩
theorem ty_26 : TyOk Try.prog 26 ⟨.int .i64, 1, 8, [.int .i64 0], false⟩ := ⟨by kernel_rfl, by kernel_rfl, fun h => by cases h⟩
theorem ty_30 : TyOk Try.prog 30 ⟨.slice 3, 1, 24, [.slice none 0 0], false⟩ := ⟨by kernel_rfl, by kernel_rfl, fun h => by cases h⟩
theorem ty_31 : TyOk Try.prog 31 ⟨.struct [(3, 0), (30, 1)], 2, 32, [.int .i64 0, .slice none 0 0], false⟩ := ⟨by kernel_rfl, by kernel_rfl, fun h => by cases h⟩
theorem ty_32 : TyOk Try.prog 32 ⟨.struct [(3, 0), (30, 1)], 2, 32, [.int .i64 0, .slice none 0 0], false⟩ := ⟨by kernel_rfl, by kernel_rfl, fun h => by cases h⟩
theorem ty_33 : TyOk Try.prog 33 ⟨.struct [(32, 0), (32, 2)], 4, 64, [.int .i64 0, .slice none 0 0, .int .i64 0, .slice none 0 0], false⟩ := ⟨by kernel_rfl, by kernel_rfl, fun h => by cases h⟩
theorem ty_34 : TyOk Try.prog 34 ⟨.struct [(32, 0), (32, 2)], 4, 64, [.int .i64 0, .slice none 0 0, .int .i64 0, .slice none 0 0], false⟩ := ⟨by kernel_rfl, by kernel_rfl, fun h => by cases h⟩
theorem ty_51 : TyOk Try.prog 51 ⟨.slice 62, 1, 24, [.slice none 0 0], false⟩ := ⟨by kernel_rfl, by kernel_rfl, fun h => by cases h⟩
theorem ty_52 : TyOk Try.prog 52 ⟨.struct [(3, 0), (51, 1)], 2, 32, [.int .i64 0, .slice none 0 0], false⟩ := ⟨by kernel_rfl, by kernel_rfl, fun h => by cases h⟩
theorem ty_53 : TyOk Try.prog 53 ⟨.struct [(3, 0), (51, 1)], 2, 32, [.int .i64 0, .slice none 0 0], false⟩ := ⟨by kernel_rfl, by kernel_rfl, fun h => by cases h⟩
theorem ty_60 : TyOk Try.prog 60 ⟨.slice 4, 1, 24, [.slice none 0 0], false⟩ := ⟨by kernel_rfl, by kernel_rfl, fun h => by cases h⟩
theorem ty_61 : TyOk Try.prog 61 ⟨.struct [(3, 0), (3, 1), (34, 2)], 6, 80, [.int .i64 0, .int .i64 0, .int .i64 0, .slice none 0 0, .int .i64 0, .slice none 0 0], false⟩ := ⟨by kernel_rfl, by kernel_rfl, fun h => by cases h⟩
theorem ty_62 : TyOk Try.prog 62 ⟨.struct [(3, 0), (3, 1), (34, 2)], 6, 80, [.int .i64 0, .int .i64 0, .int .i64 0, .slice none 0 0, .int .i64 0, .slice none 0 0], false⟩ := ⟨by kernel_rfl, by kernel_rfl, fun h => by cases h⟩
theorem ty_67 : TyOk Try.prog 67 ⟨.slice 5, 1, 24, [.slice none 0 0], false⟩ := ⟨by kernel_rfl, by kernel_rfl, fun h => by cases h⟩
theorem ty_75 : TyOk Try.prog 75 ⟨.int .u64, 1, 8, [.int .u64 0], false⟩ := ⟨by kernel_rfl, by kernel_rfl, fun h => by cases h⟩
theorem ty_92 : TyOk Try.prog 92 ⟨.slice 96, 1, 24, [.slice none 0 0], false⟩ := ⟨by kernel_rfl, by kernel_rfl, fun h => by cases h⟩
theorem ty_94 : TyOk Try.prog 94 ⟨.slice 101, 1, 24, [.slice none 0 0], false⟩ := ⟨by kernel_rfl, by kernel_rfl, fun h => by cases h⟩
theorem ty_95 : TyOk Try.prog 95 ⟨.struct [(34, 0), (94, 4)], 5, 88, [.int .i64 0, .slice none 0 0, .int .i64 0, .slice none 0 0, .slice none 0 0], false⟩ := ⟨by kernel_rfl, by kernel_rfl, fun h => by cases h⟩
theorem ty_96 : TyOk Try.prog 96 ⟨.struct [(34, 0), (94, 4)], 5, 88, [.int .i64 0, .slice none 0 0, .int .i64 0, .slice none 0 0, .slice none 0 0], false⟩ := ⟨by kernel_rfl, by kernel_rfl, fun h => by cases h⟩
theorem ty_100 : TyOk Try.prog 100 ⟨.struct [(3, 0), (34, 1)], 5, 72, [.int .i64 0, .int .i64 0, .slice none 0 0, .int .i64 0, .slice none 0 0], false⟩ := ⟨by kernel_rfl, by kernel_rfl, fun h => by cases h⟩
theorem ty_101 : TyOk Try.prog 101 ⟨.struct [(3, 0), (34, 1)], 5, 72, [.int .i64 0, .int .i64 0, .slice none 0 0, .int .i64 0, .slice none 0 0], false⟩ := ⟨by kernel_rfl, by kernel_rfl, fun h => by cases h⟩
theorem ty_104 : TyOk Try.prog 104 ⟨.int .u32, 1, 4, [.int .u32 0], false⟩ := ⟨by kernel_rfl, by kernel_rfl, fun h => by cases h⟩
theorem ty_106 : TyOk Try.prog 106 ⟨.int .u64, 1, 8, [.int .u64 0], false⟩ := ⟨by kernel_rfl, by kernel_rfl, fun h => by cases h⟩
theorem ty_124 : TyOk Try.prog 124 ⟨.slice 30, 1, 24, [.slice none 0 0], false⟩ := ⟨by kernel_rfl, by kernel_rfl, fun h => by cases h⟩

theorem tok : TOk Try.prog tab := by
  intro t τ h
  unfold tab at h
  split at h
  · cases h; exact ty_2
  · cases h; exact ty_3
  · cases h; exact ty_4
  · cases h; exact ty_5
  · cases h; exact ty_9
  · cases h; exact ty_12
  · cases h; exact ty_21
  · cases h; exact ty_22
  · cases h; exact ty_26
  · cases h; exact ty_30
  · cases h; exact ty_31
  · cases h; exact ty_32
  · cases h; exact ty_33
  · cases h; exact ty_34
  · cases h; exact ty_51
  · cases h; exact ty_52
  · cases h; exact ty_53
  · cases h; exact ty_60
  · cases h; exact ty_61
  · cases h; exact ty_62
  · cases h; exact ty_67
  · cases h; exact ty_75
  · cases h; exact ty_92
  · cases h; exact ty_94
  · cases h; exact ty_95
  · cases h; exact ty_96
  · cases h; exact ty_100
  · cases h; exact ty_101
  · cases h; exact ty_104
  · cases h; exact ty_106
  · cases h; exact ty_124
  · cases h

theorem mixed : Try.prog.follows .mixedOrders = true := by kernel_rfl
end Go.Proofs.Ytoclpeomlofcjaa.Am
