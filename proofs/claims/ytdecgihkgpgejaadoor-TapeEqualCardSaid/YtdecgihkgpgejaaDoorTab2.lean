/- The types of this translation, for the memory-free machine (written by wip/vmtab.py). -/
import Derived.Test.YtdecgihkgpgejaaDoorBc
import Derived.Test.YtdecgihkgpgejaaDoorChecked
import Derived.KernelRfl
namespace Go.Proofs.YtdecgihkgpgejaaDoor.Am
open Go.RowKit

def tab (t : Nat) : Option Ty :=
  match t with
  | 2 => some ⟨.int .i64, 1, 8, [.int .i64 0], false⟩
  | 3 => some ⟨.int .i64, 1, 8, [.int .i64 0], false⟩
  | 4 => some ⟨.bool, 1, 1, [.bool false], false⟩
  | 5 => some ⟨.int .u8, 1, 1, [.int .u8 0], false⟩
  | 9 => some ⟨.str, 1, 16, [.string ⟨#[]⟩], false⟩
  | 12 => some ⟨.int .u64, 1, 8, [.int .u64 0], false⟩
  | 21 => some ⟨.int .i32, 1, 4, [.int .i32 0], false⟩
  | 22 => some ⟨.slice 23, 1, 24, [.slice none 0 0], false⟩
  | 23 => some ⟨.slice 3, 1, 24, [.slice none 0 0], false⟩
  | 24 => some ⟨.slice 52, 1, 24, [.slice none 0 0], false⟩
  | 25 => some ⟨.struct [(24, 0)], 1, 24, [.slice none 0 0], false⟩
  | 26 => some ⟨.struct [(24, 0)], 1, 24, [.slice none 0 0], false⟩
  | 31 => some ⟨.int .i64, 1, 8, [.int .i64 0], false⟩
  | 46 => some ⟨.slice 49, 1, 24, [.slice none 0 0], false⟩
  | 49 => some ⟨.int .u16, 1, 2, [.int .u16 0], false⟩
  | 51 => some ⟨.struct [(9, 0), (3, 1), (3, 2), (3, 3), (3, 4)], 5, 48, [.string ⟨#[]⟩, .int .i64 0, .int .i64 0, .int .i64 0, .int .i64 0], true⟩
  | 52 => some ⟨.struct [(9, 0), (3, 1), (3, 2), (3, 3), (3, 4)], 5, 48, [.string ⟨#[]⟩, .int .i64 0, .int .i64 0, .int .i64 0, .int .i64 0], true⟩
  | 77 => some ⟨.slice 5, 1, 24, [.slice none 0 0], false⟩
  | 88 => some ⟨.int .u64, 1, 8, [.int .u64 0], false⟩
  | 91 => some ⟨.int .i64, 1, 8, [.int .i64 0], false⟩
  | 99 => some ⟨.int .u32, 1, 4, [.int .u32 0], false⟩
  | 101 => some ⟨.int .u64, 1, 8, [.int .u64 0], false⟩
  | 105 => some ⟨.int .u64, 1, 8, [.int .u64 0], false⟩
  | 111 => some ⟨.arr 24 5, 24, 24, [.int .u8 0, .int .u8 0, .int .u8 0, .int .u8 0, .int .u8 0, .int .u8 0, .int .u8 0, .int .u8 0, .int .u8 0, .int .u8 0, .int .u8 0, .int .u8 0, .int .u8 0, .int .u8 0, .int .u8 0, .int .u8 0, .int .u8 0, .int .u8 0, .int .u8 0, .int .u8 0, .int .u8 0, .int .u8 0, .int .u8 0, .int .u8 0], false⟩
  | 120 => some ⟨.arr 20 101, 20, 160, [.int .u64 0, .int .u64 0, .int .u64 0, .int .u64 0, .int .u64 0, .int .u64 0, .int .u64 0, .int .u64 0, .int .u64 0, .int .u64 0, .int .u64 0, .int .u64 0, .int .u64 0, .int .u64 0, .int .u64 0, .int .u64 0, .int .u64 0, .int .u64 0, .int .u64 0, .int .u64 0], false⟩
  | 121 => some ⟨.arr 65 5, 65, 65, [.int .u8 0, .int .u8 0, .int .u8 0, .int .u8 0, .int .u8 0, .int .u8 0, .int .u8 0, .int .u8 0, .int .u8 0, .int .u8 0, .int .u8 0, .int .u8 0, .int .u8 0, .int .u8 0, .int .u8 0, .int .u8 0, .int .u8 0, .int .u8 0, .int .u8 0, .int .u8 0, .int .u8 0, .int .u8 0, .int .u8 0, .int .u8 0, .int .u8 0, .int .u8 0, .int .u8 0, .int .u8 0, .int .u8 0, .int .u8 0, .int .u8 0, .int .u8 0, .int .u8 0, .int .u8 0, .int .u8 0, .int .u8 0, .int .u8 0, .int .u8 0, .int .u8 0, .int .u8 0, .int .u8 0, .int .u8 0, .int .u8 0, .int .u8 0, .int .u8 0, .int .u8 0, .int .u8 0, .int .u8 0, .int .u8 0, .int .u8 0, .int .u8 0, .int .u8 0, .int .u8 0, .int .u8 0, .int .u8 0, .int .u8 0, .int .u8 0, .int .u8 0, .int .u8 0, .int .u8 0, .int .u8 0, .int .u8 0, .int .u8 0, .int .u8 0, .int .u8 0], false⟩
  | 122 => some ⟨.arr 32 5, 32, 32, [.int .u8 0, .int .u8 0, .int .u8 0, .int .u8 0, .int .u8 0, .int .u8 0, .int .u8 0, .int .u8 0, .int .u8 0, .int .u8 0, .int .u8 0, .int .u8 0, .int .u8 0, .int .u8 0, .int .u8 0, .int .u8 0, .int .u8 0, .int .u8 0, .int .u8 0, .int .u8 0, .int .u8 0, .int .u8 0, .int .u8 0, .int .u8 0, .int .u8 0, .int .u8 0, .int .u8 0, .int .u8 0, .int .u8 0, .int .u8 0, .int .u8 0, .int .u8 0], false⟩
  | 123 => some ⟨.arr 64 5, 64, 64, [.int .u8 0, .int .u8 0, .int .u8 0, .int .u8 0, .int .u8 0, .int .u8 0, .int .u8 0, .int .u8 0, .int .u8 0, .int .u8 0, .int .u8 0, .int .u8 0, .int .u8 0, .int .u8 0, .int .u8 0, .int .u8 0, .int .u8 0, .int .u8 0, .int .u8 0, .int .u8 0, .int .u8 0, .int .u8 0, .int .u8 0, .int .u8 0, .int .u8 0, .int .u8 0, .int .u8 0, .int .u8 0, .int .u8 0, .int .u8 0, .int .u8 0, .int .u8 0, .int .u8 0, .int .u8 0, .int .u8 0, .int .u8 0, .int .u8 0, .int .u8 0, .int .u8 0, .int .u8 0, .int .u8 0, .int .u8 0, .int .u8 0, .int .u8 0, .int .u8 0, .int .u8 0, .int .u8 0, .int .u8 0, .int .u8 0, .int .u8 0, .int .u8 0, .int .u8 0, .int .u8 0, .int .u8 0, .int .u8 0, .int .u8 0, .int .u8 0, .int .u8 0, .int .u8 0, .int .u8 0, .int .u8 0, .int .u8 0, .int .u8 0, .int .u8 0], false⟩
  | _ => none

theorem tab_2 : tab 2 = some ⟨.int .i64, 1, 8, [.int .i64 0], false⟩ := rfl
theorem tab_3 : tab 3 = some ⟨.int .i64, 1, 8, [.int .i64 0], false⟩ := rfl
theorem tab_4 : tab 4 = some ⟨.bool, 1, 1, [.bool false], false⟩ := rfl
theorem tab_5 : tab 5 = some ⟨.int .u8, 1, 1, [.int .u8 0], false⟩ := rfl
theorem tab_9 : tab 9 = some ⟨.str, 1, 16, [.string ⟨#[]⟩], false⟩ := rfl
theorem tab_12 : tab 12 = some ⟨.int .u64, 1, 8, [.int .u64 0], false⟩ := rfl
theorem tab_21 : tab 21 = some ⟨.int .i32, 1, 4, [.int .i32 0], false⟩ := rfl
theorem tab_22 : tab 22 = some ⟨.slice 23, 1, 24, [.slice none 0 0], false⟩ := rfl
theorem tab_23 : tab 23 = some ⟨.slice 3, 1, 24, [.slice none 0 0], false⟩ := rfl
theorem tab_24 : tab 24 = some ⟨.slice 52, 1, 24, [.slice none 0 0], false⟩ := rfl
theorem tab_25 : tab 25 = some ⟨.struct [(24, 0)], 1, 24, [.slice none 0 0], false⟩ := rfl
theorem tab_26 : tab 26 = some ⟨.struct [(24, 0)], 1, 24, [.slice none 0 0], false⟩ := rfl
theorem tab_31 : tab 31 = some ⟨.int .i64, 1, 8, [.int .i64 0], false⟩ := rfl
theorem tab_46 : tab 46 = some ⟨.slice 49, 1, 24, [.slice none 0 0], false⟩ := rfl
theorem tab_49 : tab 49 = some ⟨.int .u16, 1, 2, [.int .u16 0], false⟩ := rfl
theorem tab_51 : tab 51 = some ⟨.struct [(9, 0), (3, 1), (3, 2), (3, 3), (3, 4)], 5, 48, [.string ⟨#[]⟩, .int .i64 0, .int .i64 0, .int .i64 0, .int .i64 0], true⟩ := rfl
theorem tab_52 : tab 52 = some ⟨.struct [(9, 0), (3, 1), (3, 2), (3, 3), (3, 4)], 5, 48, [.string ⟨#[]⟩, .int .i64 0, .int .i64 0, .int .i64 0, .int .i64 0], true⟩ := rfl
theorem tab_77 : tab 77 = some ⟨.slice 5, 1, 24, [.slice none 0 0], false⟩ := rfl
theorem tab_88 : tab 88 = some ⟨.int .u64, 1, 8, [.int .u64 0], false⟩ := rfl
theorem tab_91 : tab 91 = some ⟨.int .i64, 1, 8, [.int .i64 0], false⟩ := rfl
theorem tab_99 : tab 99 = some ⟨.int .u32, 1, 4, [.int .u32 0], false⟩ := rfl
theorem tab_101 : tab 101 = some ⟨.int .u64, 1, 8, [.int .u64 0], false⟩ := rfl
theorem tab_105 : tab 105 = some ⟨.int .u64, 1, 8, [.int .u64 0], false⟩ := rfl
theorem tab_111 : tab 111 = some ⟨.arr 24 5, 24, 24, [.int .u8 0, .int .u8 0, .int .u8 0, .int .u8 0, .int .u8 0, .int .u8 0, .int .u8 0, .int .u8 0, .int .u8 0, .int .u8 0, .int .u8 0, .int .u8 0, .int .u8 0, .int .u8 0, .int .u8 0, .int .u8 0, .int .u8 0, .int .u8 0, .int .u8 0, .int .u8 0, .int .u8 0, .int .u8 0, .int .u8 0, .int .u8 0], false⟩ := rfl
theorem tab_120 : tab 120 = some ⟨.arr 20 101, 20, 160, [.int .u64 0, .int .u64 0, .int .u64 0, .int .u64 0, .int .u64 0, .int .u64 0, .int .u64 0, .int .u64 0, .int .u64 0, .int .u64 0, .int .u64 0, .int .u64 0, .int .u64 0, .int .u64 0, .int .u64 0, .int .u64 0, .int .u64 0, .int .u64 0, .int .u64 0, .int .u64 0], false⟩ := rfl
theorem tab_121 : tab 121 = some ⟨.arr 65 5, 65, 65, [.int .u8 0, .int .u8 0, .int .u8 0, .int .u8 0, .int .u8 0, .int .u8 0, .int .u8 0, .int .u8 0, .int .u8 0, .int .u8 0, .int .u8 0, .int .u8 0, .int .u8 0, .int .u8 0, .int .u8 0, .int .u8 0, .int .u8 0, .int .u8 0, .int .u8 0, .int .u8 0, .int .u8 0, .int .u8 0, .int .u8 0, .int .u8 0, .int .u8 0, .int .u8 0, .int .u8 0, .int .u8 0, .int .u8 0, .int .u8 0, .int .u8 0, .int .u8 0, .int .u8 0, .int .u8 0, .int .u8 0, .int .u8 0, .int .u8 0, .int .u8 0, .int .u8 0, .int .u8 0, .int .u8 0, .int .u8 0, .int .u8 0, .int .u8 0, .int .u8 0, .int .u8 0, .int .u8 0, .int .u8 0, .int .u8 0, .int .u8 0, .int .u8 0, .int .u8 0, .int .u8 0, .int .u8 0, .int .u8 0, .int .u8 0, .int .u8 0, .int .u8 0, .int .u8 0, .int .u8 0, .int .u8 0, .int .u8 0, .int .u8 0, .int .u8 0, .int .u8 0], false⟩ := rfl
theorem tab_122 : tab 122 = some ⟨.arr 32 5, 32, 32, [.int .u8 0, .int .u8 0, .int .u8 0, .int .u8 0, .int .u8 0, .int .u8 0, .int .u8 0, .int .u8 0, .int .u8 0, .int .u8 0, .int .u8 0, .int .u8 0, .int .u8 0, .int .u8 0, .int .u8 0, .int .u8 0, .int .u8 0, .int .u8 0, .int .u8 0, .int .u8 0, .int .u8 0, .int .u8 0, .int .u8 0, .int .u8 0, .int .u8 0, .int .u8 0, .int .u8 0, .int .u8 0, .int .u8 0, .int .u8 0, .int .u8 0, .int .u8 0], false⟩ := rfl
theorem tab_123 : tab 123 = some ⟨.arr 64 5, 64, 64, [.int .u8 0, .int .u8 0, .int .u8 0, .int .u8 0, .int .u8 0, .int .u8 0, .int .u8 0, .int .u8 0, .int .u8 0, .int .u8 0, .int .u8 0, .int .u8 0, .int .u8 0, .int .u8 0, .int .u8 0, .int .u8 0, .int .u8 0, .int .u8 0, .int .u8 0, .int .u8 0, .int .u8 0, .int .u8 0, .int .u8 0, .int .u8 0, .int .u8 0, .int .u8 0, .int .u8 0, .int .u8 0, .int .u8 0, .int .u8 0, .int .u8 0, .int .u8 0, .int .u8 0, .int .u8 0, .int .u8 0, .int .u8 0, .int .u8 0, .int .u8 0, .int .u8 0, .int .u8 0, .int .u8 0, .int .u8 0, .int .u8 0, .int .u8 0, .int .u8 0, .int .u8 0, .int .u8 0, .int .u8 0, .int .u8 0, .int .u8 0, .int .u8 0, .int .u8 0, .int .u8 0, .int .u8 0, .int .u8 0, .int .u8 0, .int .u8 0, .int .u8 0, .int .u8 0, .int .u8 0, .int .u8 0, .int .u8 0, .int .u8 0, .int .u8 0], false⟩ := rfl

theorem ty_2 : TyOk Tryd.prog 2 ⟨.int .i64, 1, 8, [.int .i64 0], false⟩ := ⟨by kernel_rfl, by kernel_rfl, by kernel_rfl, fun h => by cases h⟩
theorem ty_3 : TyOk Tryd.prog 3 ⟨.int .i64, 1, 8, [.int .i64 0], false⟩ := ⟨by kernel_rfl, by kernel_rfl, by kernel_rfl, fun h => by cases h⟩
theorem ty_4 : TyOk Tryd.prog 4 ⟨.bool, 1, 1, [.bool false], false⟩ := ⟨by kernel_rfl, by kernel_rfl, by kernel_rfl, fun h => by cases h⟩
theorem ty_5 : TyOk Tryd.prog 5 ⟨.int .u8, 1, 1, [.int .u8 0], false⟩ := ⟨by kernel_rfl, by kernel_rfl, by kernel_rfl, fun h => by cases h⟩
theorem ty_9 : TyOk Tryd.prog 9 ⟨.str, 1, 16, [.string ⟨#[]⟩], false⟩ := ⟨by kernel_rfl, by kernel_rfl, by kernel_rfl, fun h => by cases h⟩
theorem ty_12 : TyOk Tryd.prog 12 ⟨.int .u64, 1, 8, [.int .u64 0], false⟩ := ⟨by kernel_rfl, by kernel_rfl, by kernel_rfl, fun h => by cases h⟩
theorem ty_21 : TyOk Tryd.prog 21 ⟨.int .i32, 1, 4, [.int .i32 0], false⟩ := ⟨by kernel_rfl, by kernel_rfl, by kernel_rfl, fun h => by cases h⟩
theorem ty_22 : TyOk Tryd.prog 22 ⟨.slice 23, 1, 24, [.slice none 0 0], false⟩ := ⟨by kernel_rfl, by kernel_rfl, by kernel_rfl, fun h => by cases h⟩
theorem ty_23 : TyOk Tryd.prog 23 ⟨.slice 3, 1, 24, [.slice none 0 0], false⟩ := ⟨by kernel_rfl, by kernel_rfl, by kernel_rfl, fun h => by cases h⟩
theorem ty_24 : TyOk Tryd.prog 24 ⟨.slice 52, 1, 24, [.slice none 0 0], false⟩ := ⟨by kernel_rfl, by kernel_rfl, by kernel_rfl, fun h => by cases h⟩
theorem ty_25 : TyOk Tryd.prog 25 ⟨.struct [(24, 0)], 1, 24, [.slice none 0 0], false⟩ := ⟨by kernel_rfl, by kernel_rfl, by kernel_rfl, fun h => by cases h⟩
theorem ty_26 : TyOk Tryd.prog 26 ⟨.struct [(24, 0)], 1, 24, [.slice none 0 0], false⟩ := ⟨by kernel_rfl, by kernel_rfl, by kernel_rfl, fun h => by cases h⟩
theorem ty_31 : TyOk Tryd.prog 31 ⟨.int .i64, 1, 8, [.int .i64 0], false⟩ := ⟨by kernel_rfl, by kernel_rfl, by kernel_rfl, fun h => by cases h⟩
theorem ty_46 : TyOk Tryd.prog 46 ⟨.slice 49, 1, 24, [.slice none 0 0], false⟩ := ⟨by kernel_rfl, by kernel_rfl, by kernel_rfl, fun h => by cases h⟩
theorem ty_49 : TyOk Tryd.prog 49 ⟨.int .u16, 1, 2, [.int .u16 0], false⟩ := ⟨by kernel_rfl, by kernel_rfl, by kernel_rfl, fun h => by cases h⟩
theorem ty_51 : TyOk Tryd.prog 51 ⟨.struct [(9, 0), (3, 1), (3, 2), (3, 3), (3, 4)], 5, 48, [.string ⟨#[]⟩, .int .i64 0, .int .i64 0, .int .i64 0, .int .i64 0], true⟩ := ⟨by kernel_rfl, by kernel_rfl, by kernel_rfl, fun _ => ⟨by kernel_rfl, by kernel_rfl, by kernel_rfl⟩⟩
theorem ty_52 : TyOk Tryd.prog 52 ⟨.struct [(9, 0), (3, 1), (3, 2), (3, 3), (3, 4)], 5, 48, [.string ⟨#[]⟩, .int .i64 0, .int .i64 0, .int .i64 0, .int .i64 0], true⟩ := ⟨by kernel_rfl, by kernel_rfl, by kernel_rfl, fun _ => ⟨by kernel_rfl, by kernel_rfl, by kernel_rfl⟩⟩
theorem ty_77 : TyOk Tryd.prog 77 ⟨.slice 5, 1, 24, [.slice none 0 0], false⟩ := ⟨by kernel_rfl, by kernel_rfl, by kernel_rfl, fun h => by cases h⟩
theorem ty_88 : TyOk Tryd.prog 88 ⟨.int .u64, 1, 8, [.int .u64 0], false⟩ := ⟨by kernel_rfl, by kernel_rfl, by kernel_rfl, fun h => by cases h⟩
theorem ty_91 : TyOk Tryd.prog 91 ⟨.int .i64, 1, 8, [.int .i64 0], false⟩ := ⟨by kernel_rfl, by kernel_rfl, by kernel_rfl, fun h => by cases h⟩
theorem ty_99 : TyOk Tryd.prog 99 ⟨.int .u32, 1, 4, [.int .u32 0], false⟩ := ⟨by kernel_rfl, by kernel_rfl, by kernel_rfl, fun h => by cases h⟩
theorem ty_101 : TyOk Tryd.prog 101 ⟨.int .u64, 1, 8, [.int .u64 0], false⟩ := ⟨by kernel_rfl, by kernel_rfl, by kernel_rfl, fun h => by cases h⟩
theorem ty_105 : TyOk Tryd.prog 105 ⟨.int .u64, 1, 8, [.int .u64 0], false⟩ := ⟨by kernel_rfl, by kernel_rfl, by kernel_rfl, fun h => by cases h⟩
theorem ty_111 : TyOk Tryd.prog 111 ⟨.arr 24 5, 24, 24, [.int .u8 0, .int .u8 0, .int .u8 0, .int .u8 0, .int .u8 0, .int .u8 0, .int .u8 0, .int .u8 0, .int .u8 0, .int .u8 0, .int .u8 0, .int .u8 0, .int .u8 0, .int .u8 0, .int .u8 0, .int .u8 0, .int .u8 0, .int .u8 0, .int .u8 0, .int .u8 0, .int .u8 0, .int .u8 0, .int .u8 0, .int .u8 0], false⟩ := ⟨by kernel_rfl, by kernel_rfl, by kernel_rfl, fun h => by cases h⟩
theorem ty_120 : TyOk Tryd.prog 120 ⟨.arr 20 101, 20, 160, [.int .u64 0, .int .u64 0, .int .u64 0, .int .u64 0, .int .u64 0, .int .u64 0, .int .u64 0, .int .u64 0, .int .u64 0, .int .u64 0, .int .u64 0, .int .u64 0, .int .u64 0, .int .u64 0, .int .u64 0, .int .u64 0, .int .u64 0, .int .u64 0, .int .u64 0, .int .u64 0], false⟩ := ⟨by kernel_rfl, by kernel_rfl, by kernel_rfl, fun h => by cases h⟩
theorem ty_121 : TyOk Tryd.prog 121 ⟨.arr 65 5, 65, 65, [.int .u8 0, .int .u8 0, .int .u8 0, .int .u8 0, .int .u8 0, .int .u8 0, .int .u8 0, .int .u8 0, .int .u8 0, .int .u8 0, .int .u8 0, .int .u8 0, .int .u8 0, .int .u8 0, .int .u8 0, .int .u8 0, .int .u8 0, .int .u8 0, .int .u8 0, .int .u8 0, .int .u8 0, .int .u8 0, .int .u8 0, .int .u8 0, .int .u8 0, .int .u8 0, .int .u8 0, .int .u8 0, .int .u8 0, .int .u8 0, .int .u8 0, .int .u8 0, .int .u8 0, .int .u8 0, .int .u8 0, .int .u8 0, .int .u8 0, .int .u8 0, .int .u8 0, .int .u8 0, .int .u8 0, .int .u8 0, .int .u8 0, .int .u8 0, .int .u8 0, .int .u8 0, .int .u8 0, .int .u8 0, .int .u8 0, .int .u8 0, .int .u8 0, .int .u8 0, .int .u8 0, .int .u8 0, .int .u8 0, .int .u8 0, .int .u8 0, .int .u8 0, .int .u8 0, .int .u8 0, .int .u8 0, .int .u8 0, .int .u8 0, .int .u8 0, .int .u8 0], false⟩ := ⟨by kernel_rfl, by kernel_rfl, by kernel_rfl, fun h => by cases h⟩
theorem ty_122 : TyOk Tryd.prog 122 ⟨.arr 32 5, 32, 32, [.int .u8 0, .int .u8 0, .int .u8 0, .int .u8 0, .int .u8 0, .int .u8 0, .int .u8 0, .int .u8 0, .int .u8 0, .int .u8 0, .int .u8 0, .int .u8 0, .int .u8 0, .int .u8 0, .int .u8 0, .int .u8 0, .int .u8 0, .int .u8 0, .int .u8 0, .int .u8 0, .int .u8 0, .int .u8 0, .int .u8 0, .int .u8 0, .int .u8 0, .int .u8 0, .int .u8 0, .int .u8 0, .int .u8 0, .int .u8 0, .int .u8 0, .int .u8 0], false⟩ := ⟨by kernel_rfl, by kernel_rfl, by kernel_rfl, fun h => by cases h⟩
theorem ty_123 : TyOk Tryd.prog 123 ⟨.arr 64 5, 64, 64, [.int .u8 0, .int .u8 0, .int .u8 0, .int .u8 0, .int .u8 0, .int .u8 0, .int .u8 0, .int .u8 0, .int .u8 0, .int .u8 0, .int .u8 0, .int .u8 0, .int .u8 0, .int .u8 0, .int .u8 0, .int .u8 0, .int .u8 0, .int .u8 0, .int .u8 0, .int .u8 0, .int .u8 0, .int .u8 0, .int .u8 0, .int .u8 0, .int .u8 0, .int .u8 0, .int .u8 0, .int .u8 0, .int .u8 0, .int .u8 0, .int .u8 0, .int .u8 0, .int .u8 0, .int .u8 0, .int .u8 0, .int .u8 0, .int .u8 0, .int .u8 0, .int .u8 0, .int .u8 0, .int .u8 0, .int .u8 0, .int .u8 0, .int .u8 0, .int .u8 0, .int .u8 0, .int .u8 0, .int .u8 0, .int .u8 0, .int .u8 0, .int .u8 0, .int .u8 0, .int .u8 0, .int .u8 0, .int .u8 0, .int .u8 0, .int .u8 0, .int .u8 0, .int .u8 0, .int .u8 0, .int .u8 0, .int .u8 0, .int .u8 0, .int .u8 0], false⟩ := ⟨by kernel_rfl, by kernel_rfl, by kernel_rfl, fun h => by cases h⟩

theorem tok : TOk Tryd.prog tab := by
  intro t τ h
  unfold tab at h
  split at h
  · cases h; exact ty_2
  · cases h; exact ty_3
  · cases h; exact ty_4
  · cases h; exact ty_5
  · cases h; exact ty_9
  · cases h; exact ty_12
  · cases h; exact ty_21
  · cases h; exact ty_22
  · cases h; exact ty_23
  · cases h; exact ty_24
  · cases h; exact ty_25
  · cases h; exact ty_26
  · cases h; exact ty_31
  · cases h; exact ty_46
  · cases h; exact ty_49
  · cases h; exact ty_51
  · cases h; exact ty_52
  · cases h; exact ty_77
  · cases h; exact ty_88
  · cases h; exact ty_91
  · cases h; exact ty_99
  · cases h; exact ty_101
  · cases h; exact ty_105
  · cases h; exact ty_111
  · cases h; exact ty_120
  · cases h; exact ty_121
  · cases h; exact ty_122
  · cases h; exact ty_123
  · cases h

theorem mixed : Tryd.prog.follows .mixedOrders = true := by kernel_rfl
end Go.Proofs.YtdecgihkgpgejaaDoor.Am
