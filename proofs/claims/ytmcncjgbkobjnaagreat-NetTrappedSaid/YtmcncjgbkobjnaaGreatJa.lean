import Derived.WalkKit
import Derived.Orders
import Derived.Maps.AppendAt
import Derived.Laws.OwnMore
import Derived.Laws.CopyRow
import Derived.Laws.Concat
import Derived.Laws.Cover3
import Derived.WalkSmall
import Derived.MapKept
import Derived.ArgAppend
import Derived.Deep.LoopGhost
import Derived.Maps.RangeRun
import Derived.Test.YtmcncjgbkobjnaaGreatChecked
import Derived.KernelRfl
import GoSem.Claim
import Derived.RowKit
import Derived.Sort.Grow
import Derived.OpenShut
import Derived.Deep.Slices
import Derived.WideKeyArgs
import Derived.SizedLaws
import Derived.ProofKit
import Derived.Below
import Derived.Handed
import Derived.Lib.ItoaMem
import Derived.Lib.SlicesCompact
import Derived.Shelf.Sort.Plain
import Derived.Shelf.Slices.In.SortNone
import Derived.Ground.NamesProg
import Derived.Shelf.SlIterI.Sorted
import Derived.Shelf.SlGeneric
import Derived.Ground.GgzProg
import Derived.Shelf.SlSortCmp.NoneTotal
import Derived.Ground.SlsfProg
import Derived.Test.YtmcncjgbkobjnaaGreatProg
import Derived.Shelf.Spec.SlicesInsertGrow
import Derived.RangeFuncBox
import Derived.RangeFuncNested
import Derived.RangeFuncLeaves
import Derived.Shelf.Abstract
import Derived.OwnWalkIn
import Derived.TacticsInMore
import Derived.LoopNIn
import Derived.LoopIn
import Derived.Lib.SlicesDelete
import Derived.Shelf.RegionOpenPlain
import Derived.Deep.RegionLaw
import Derived.Lib.Walk
import Derived.Shelf.GgSortFunc.InsertionK
import Derived.Shelf.SlSortCmp.Insertion
import Derived.Lib.Small
import Derived.StillTailTactics
import Derived.Test.YtmcncjgbkobjnaaGreatRows
set_option linter.unusedSimpArgs false
set_option linter.unusedVariables false
noncomputable section
open Go.Proofs.Tryz
namespace Go.Proofs.YtmcncjgbkobjnaaGreat
theorem afN:type_of%@World.cell?_of_block:=@World.cell?_of_block
theorem afO:type_of%@List.getElem?_map.{0,0}:=@List.getElem?_map
theorem afP:type_of%@Option.map_eq_some_iff.{0,0}:=@Option.map_eq_some_iff
theorem afQ:type_of%@List.mem_map.{0,0}:=@List.mem_map
theorem afR:type_of%@Nat.le_refl:=@Nat.le_refl
theorem afS:type_of%@Nat.zero_le:=@Nat.zero_le
theorem afT:type_of%@Nat.le_trans:=@Nat.le_trans
theorem afU:type_of%@Nat.lt_of_lt_of_le:=@Nat.lt_of_lt_of_le
theorem afV:type_of%@Array.getElem?_eq_some_iff.{0}:=@Array.getElem?_eq_some_iff
theorem afW:type_of%@Array.getD_eq_getD_getElem?.{0}:=@Array.getD_eq_getD_getElem?
theorem afX:type_of%@List.map_cons.{0,0}:=@List.map_cons
theorem afY:type_of%@List.mem_cons.{0}:=@List.mem_cons
theorem afZ:type_of%@Option.map_some.{0,0}:=@Option.map_some
theorem af0:type_of%@Option.some.injEq.{0}:=@Option.some.injEq
theorem af1:type_of%@Array.getElem?_modify.{0}:=@Array.getElem?_modify
theorem af2:type_of%@List.all_eq_true.{0}:=@List.all_eq_true
theorem af3:type_of%@List.getElem_mem.{0}:=@List.getElem_mem
theorem af4:type_of%@List.getElem?_eq_getElem.{0}:=@List.getElem?_eq_getElem
theorem af5:type_of%@List.mem_append_left.{0}:=@List.mem_append_left
theorem af6:type_of%@List.mem_append_right.{0}:=@List.mem_append_right
theorem af7:type_of%@List.getElem?_take.{0}:=@List.getElem?_take
theorem af8:type_of%@List.getElem?_drop.{0}:=@List.getElem?_drop
theorem af9:type_of%@Nat.eq_zero_or_pos:=@Nat.eq_zero_or_pos
theorem aga:type_of%@List.length_take.{0}:=@List.length_take
theorem agb:type_of%@List.length_drop.{0}:=@List.length_drop
theorem agc:type_of%@Nat.add_assoc:=@Nat.add_assoc
theorem agd:type_of%@List.getElem?_of_mem.{0}:=@List.getElem?_of_mem
theorem age:type_of%@List.mem_singleton.{0}:=@List.mem_singleton
theorem agf:type_of%@List.cons.injEq.{0}:=@List.cons.injEq
theorem agh:type_of%@List.getElem?_cons_zero.{0}:=@List.getElem?_cons_zero
theorem agi:type_of%@List.length_cons.{0}:=@List.length_cons
theorem agj:type_of%@List.length_nil.{0}:=@List.length_nil
theorem agk:type_of%@List.mem_of_getElem?.{0}:=@List.mem_of_getElem?
theorem agl:type_of%@List.getElem?_eq_some_iff.{0}:=@List.getElem?_eq_some_iff
theorem agm:type_of%@List.length_map.{0,0}:=@List.length_map
theorem agn:type_of%@List.length_range:=@List.length_range
theorem ago:type_of%@List.getElem_range:=@List.getElem_range
theorem agp:type_of%@Sem.run_bind:=@Sem.run_bind
theorem agq:type_of%@Result.andThen_ok:=@Result.andThen_ok
theorem agr:type_of%@Nat.add_zero:=@Nat.add_zero
theorem ags:type_of%@Bool.false_eq_true:=@Bool.false_eq_true
theorem agt:type_of%@Bool.and_eq_true:=@Bool.and_eq_true
theorem agu:type_of%@Bool.not_eq_true':=@Bool.not_eq_true'
theorem agv:type_of%@List.getD_eq_getElem?_getD.{0}:=@List.getD_eq_getElem?_getD
theorem agw:type_of%@List.getElem?_append_left.{0}:=@List.getElem?_append_left
theorem agx:type_of%@List.getElem?_append_right.{0}:=@List.getElem?_append_right
theorem agy:type_of%@Array.length_toList.{0}:=@Array.length_toList
theorem agz:type_of%@List.getElem?_append.{0}:=@List.getElem?_append
theorem agA:type_of%@List.mem_of_mem_drop.{0}:=@List.mem_of_mem_drop
theorem agB:type_of%@Sem.run_pure:=@Sem.run_pure
theorem agC:type_of%@List.mem_of_mem_take.{0}:=@List.mem_of_mem_take
theorem agD:type_of%@Nat.lt_or_ge:=@Nat.lt_or_ge
theorem agE:type_of%@Nat.mul_le_mul_right:=@Nat.mul_le_mul_right
theorem agF:type_of%@Nat.zero_add:=@Nat.zero_add
theorem agG:type_of%@List.map_nil.{0,0}:=@List.map_nil
theorem agH:type_of%@Option.getD_some.{0}:=@Option.getD_some
theorem agI:type_of%@Array.getElem?_toList.{0}:=@Array.getElem?_toList
theorem agJ:type_of%@Array.mem_of_getElem?.{0}:=@Array.mem_of_getElem?
theorem agK:type_of%@Array.mapM_eq_mapM_toList.{0,0,0}:=@Array.mapM_eq_mapM_toList
theorem agL:type_of%@Array.toList_map.{0,0}:=@Array.toList_map
theorem agM:type_of%@List.replicate_succ.{0}:=@List.replicate_succ
theorem agN:type_of%@Nat.mod_eq_of_lt:=@Nat.mod_eq_of_lt
theorem agO:type_of%@Nat.succ_mul:=@Nat.succ_mul
theorem agP:type_of%@Nat.mul_comm:=@Nat.mul_comm
theorem agQ:type_of%@Int.natCast_mul:=@Int.natCast_mul
theorem agR:type_of%@Int.toNat_natCast:=@Int.toNat_natCast
theorem agS:type_of%@List.idxOf_cons.{0}:=@List.idxOf_cons
theorem agT:type_of%@List.contains_cons.{0}:=@List.contains_cons
theorem agU:type_of%@Bool.false_or:=@Bool.false_or
theorem agV:type_of%@List.all_cons.{0}:=@List.all_cons
theorem agW:type_of%@List.getD_cons_zero.{0}:=@List.getD_cons_zero
theorem agX:type_of%@List.getD_cons_succ.{0}:=@List.getD_cons_succ
theorem agY:type_of%@List.not_mem_nil.{0}:=@List.not_mem_nil
theorem agZ:type_of%@List.getElem?_cons_succ.{0}:=@List.getElem?_cons_succ
theorem ag0:type_of%@List.idxOf_lt_length_of_mem.{0}:=@List.idxOf_lt_length_of_mem
theorem ag1:type_of%@List.length_append.{0}:=@List.length_append
theorem ag2:type_of%@Array.getElem?_eq_getElem.{0}:=@Array.getElem?_eq_getElem
theorem ag3:type_of%@Nat.sub_self:=@Nat.sub_self
theorem ag4:type_of%@Nat.min_eq_left:=@Nat.min_eq_left
theorem ag5:type_of%@Nat.add_mul:=@Nat.add_mul
theorem ag6:type_of%@Array.getElem_append.{0}:=@Array.getElem_append
theorem ag7:type_of%@List.mem_append.{0}:=@List.mem_append
theorem ag8:type_of%@Array.getElem?_extract.{0}:=@Array.getElem?_extract
theorem ag9:type_of%@Array.getElem?_eq_none.{0}:=@Array.getElem?_eq_none
theorem aha:type_of%@List.eq_nil_of_length_eq_zero.{0}:=@List.eq_nil_of_length_eq_zero
theorem ahb:type_of%@List.size_toArray.{0}:=@List.size_toArray
theorem ahc:type_of%@Array.toList_append.{0}:=@Array.toList_append
theorem ahd:type_of%@List.append_assoc.{0}:=@List.append_assoc
theorem ahe:type_of%@List.drop_append_of_le_length.{0}:=@List.drop_append_of_le_length
theorem ahf:type_of%@Nat.add_sub_cancel_left:=@Nat.add_sub_cancel_left
theorem ahg:type_of%@List.take_append.{0}:=@List.take_append
theorem ahh:type_of%@List.take_append_of_le_length.{0}:=@List.take_append_of_le_length
theorem ahi:type_of%@List.take_of_length_le.{0}:=@List.take_of_length_le
theorem ahj:type_of%@List.drop_zero.{0}:=@List.drop_zero
theorem ahk:type_of%@Bool.not_true:=@Bool.not_true
theorem ahl:type_of%@Bool.true_and:=@Bool.true_and
theorem ahm:type_of%@List.mem_flatMap.{0,0}:=@List.mem_flatMap
theorem ahn:type_of%@List.map_congr_left.{0,0}:=@List.map_congr_left
theorem aho:type_of%@List.mem_cons_self.{0}:=@List.mem_cons_self
theorem ahp:type_of%@List.mem_cons_of_mem.{0}:=@List.mem_cons_of_mem
theorem ahq:type_of%@List.toList_toArray.{0}:=@List.toList_toArray
theorem ahr:type_of%@Option.bind_some.{0,0}:=@Option.bind_some
theorem ahs:type_of%@Bool.or_eq_true:=@Bool.or_eq_true
theorem aht:type_of%@List.getElem?_eq_none.{0}:=@List.getElem?_eq_none
theorem ahu:type_of%@List.mem_filter.{0}:=@List.mem_filter
theorem ahv:type_of%@List.pairwise_cons.{0}:=@List.pairwise_cons
theorem ahw:type_of%@List.nodup_cons.{0}:=@List.nodup_cons
theorem ahx:type_of%@List.mem_range:=@List.mem_range
theorem ahy:type_of%@Nat.le_of_not_lt:=@Nat.le_of_not_lt
theorem ahz:type_of%@Nat.zero_lt_one:=@Nat.zero_lt_one
theorem ahA:type_of%@List.nil_append.{0}:=@List.nil_append
theorem ahB:type_of%@Nat.le_of_ble_eq_true:=@Nat.le_of_ble_eq_true
theorem ahC:type_of%@List.drop_append.{0}:=@List.drop_append
theorem ahD:type_of%@List.drop_eq_nil_of_le.{0}:=@List.drop_eq_nil_of_le
theorem ahE:type_of%@Nat.add_sub_cancel:=@Nat.add_sub_cancel
theorem ahF:type_of%@List.drop_drop.{0}:=@List.drop_drop
theorem ahG:type_of%@List.take_append_drop.{0}:=@List.take_append_drop
theorem ahH:type_of%@List.length_pos_iff.{0}:=@List.length_pos_iff
theorem ahI:type_of%@List.append_nil.{0}:=@List.append_nil
theorem ahJ:type_of%@List.cons_append.{0}:=@List.cons_append
theorem ahK:type_of%@List.drop_succ_cons.{0}:=@List.drop_succ_cons
theorem ahL:type_of%@List.take_succ_cons.{0}:=@List.take_succ_cons
theorem ahM:type_of%@List.drop_eq_getElem_cons.{0}:=@List.drop_eq_getElem_cons
theorem ahN:type_of%@List.take_zero.{0}:=@List.take_zero
theorem ahO:type_of%@Bool.false_and:=@Bool.false_and
theorem ahP:type_of%@Bool.not_false:=@Bool.not_false
theorem ahQ:type_of%@Nat.one_ne_zero:=@Nat.one_ne_zero
theorem ahR:type_of%@List.length_set.{0}:=@List.length_set
theorem ahS:type_of%@List.take_length.{0}:=@List.take_length
theorem ahT:type_of%@List.Perm.refl.{0}:=@List.Perm.refl
theorem ahU:type_of%@Int.lt_trichotomy:=@Int.lt_trichotomy
theorem ahV:type_of%@List.ext_getElem?.{0}:=@List.ext_getElem?
theorem ahW:type_of%@List.pairwise_iff_getElem.{0}:=@List.pairwise_iff_getElem
theorem ahX:type_of%@Int.mul_comm:=@Int.mul_comm
theorem ahY:type_of%@Int.mul_one:=@Int.mul_one
theorem ahZ:type_of%@Int.mul_le_mul_of_nonneg_left:=@Int.mul_le_mul_of_nonneg_left
theorem ah0:type_of%@Int.mul_add:=@Int.mul_add
theorem ah1:type_of%@Int.mul_assoc:=@Int.mul_assoc
theorem ah2:type_of%@Nat.and_two_pow_sub_one_eq_mod:=@Nat.and_two_pow_sub_one_eq_mod
theorem ah3:type_of%@List.getElem_set_ne.{0}:=@List.getElem_set_ne
theorem ah4:type_of%@Int.mul_sub:=@Int.mul_sub
theorem ah5:type_of%@Int.ediv_nonneg:=@Int.ediv_nonneg
theorem ah6:type_of%@Int.ediv_lt_of_lt_mul:=@Int.ediv_lt_of_lt_mul
theorem ah7:type_of%@Int.emod_lt_of_pos:=@Int.emod_lt_of_pos
theorem ah8:type_of%@Int.mul_ediv_add_emod:=@Int.mul_ediv_add_emod
theorem ah9:type_of%@Int.mul_nonneg:=@Int.mul_nonneg
theorem aia:type_of%@Int.mul_left_comm:=@Int.mul_left_comm
theorem aib:type_of%@Int.add_mul:=@Int.add_mul
theorem aic:type_of%@Int.mul_zero:=@Int.mul_zero
theorem aid:type_of%@Int.one_mul:=@Int.one_mul
theorem aie:type_of%@Int.mul_le_mul_of_nonneg_right:=@Int.mul_le_mul_of_nonneg_right
theorem aif:type_of%@Int.natAbs_mul:=@Int.natAbs_mul
theorem aih:type_of%@List.getLast?_eq_some_getLast.{0}:=@List.getLast?_eq_some_getLast
theorem aii:type_of%@Int.sign_eq_one_of_pos:=@Int.sign_eq_one_of_pos
theorem aij:type_of%@Int.sign_eq_neg_one_of_neg:=@Int.sign_eq_neg_one_of_neg
theorem aik:type_of%@List.head?_drop.{0}:=@List.head?_drop
theorem ail:type_of%@List.length_mapIdx.{0,0}:=@List.length_mapIdx
theorem aim:type_of%@List.getElem?_mapIdx.{0,0}:=@List.getElem?_mapIdx
theorem ain:type_of%@List.take_succ_eq_append_getElem.{0}:=@List.take_succ_eq_append_getElem
theorem aio:type_of%@List.length_filter_le.{0}:=@List.length_filter_le
theorem aip:type_of%@List.mem_nil_iff.{0}:=@List.mem_nil_iff
theorem aiq:type_of%@Array.replicate_succ.{0}:=@Array.replicate_succ
theorem air:type_of%@Array.replicate_zero.{0}:=@Array.replicate_zero
theorem ais:type_of%@List.push_toArray.{0}:=@List.push_toArray
theorem ait:type_of%@List.append_toArray.{0}:=@List.append_toArray
theorem aiu{α:Type}{a:α}:a=a:=Eq.trans rfl rfl
end Go.Proofs.YtmcncjgbkobjnaaGreat
namespace Go.Proofs.YtmcncjgbkobjnaaGreat.Am
open Go.RowKit
abbrev bV:=Int×Option Int
def jI:bV->Value
 | (n,none) =>.int .i64 n
 | (a,some b) =>.agg #[.int .i64 a,.int .i64 b]
def FY (k:bV):Bool:=k.2.isSome
theorem X4 {k k':bV} (h:jI k=jI k'):k=k':=by
 obtain⟨a,x⟩:=k
 obtain⟨b,y⟩:=k'
 cases x<;>cases y<;>simp[jI]at h
 ·subst h;rfl
 ·obtain⟨rfl,rfl⟩:=h;rfl
inductive D where
 | int (k:IntKind) (n:Int)
 | bool (b:Bool)
 | str (s:ByteArray)
 | sl (nl tight:Bool) (n:Nat) (xs:List D)
 | ptr (x v o:Nat)
 | ip (xs:List D)
 | buf (x v s o n:Nat)
 | agg (xs:List D)
 | tup (xs:List D)
 | fn (f:Nat)
 | clo (f k:Nat) (caps:List D)
 | ali (x v s o n:Nat)
 | box1 (x v s o n:Nat)
 | mp (x v:Nat)
 | mpc (ks:List bV) (vs:List D)
 | alm (x v:Nat)
 | pm (x v y:Nat)
 | ph (x s n:Nat)
 | nx (n:Nat) (xs:List D)
 | nr (ty s nv:Nat) (cs:List D)
 | und
 | skp
structure Row where
 v:Nat
 ty:Nat
 cells:List D
 fz:Bool
 lst:Bool
 mp:Bool:=false
def aS:D->Bool
 | .int _ _ | .bool _ | .str _ | .sl _ _ _ _ | .ali _ _ _ _ _ | .mpc _ _ | .alm _ _=>true
 | _=>false
def canon:D->D
 | .sl _ _ n xs =>.sl false false n xs
 | d=>d
def e8:D->D
 | .sl _ _ n xs =>.sl false false n xs
 | .agg xs =>.agg (xs.map canon)
 | d=>d
def bB {α:Type} (f:Nat->α) (i:Nat) (v:α):Nat->α:=fun j=>if j=i then v else f j
inductive Ds where
 | int (k:IntKind)|bool|str
 | struct (fs:List (Nat×Nat))
 | slice (e:Nat)
 | arr (n e:Nat)
 | map (k e:Nat)
 | other
structure Ty where
 ds:Ds
 size:Nat
 bytes:Nat
 zero:List Value
 eqok:Bool:=false
def conv:TypeDesc->Ds
 | .int k =>.int k
 | .bool =>.bool
 | .string =>.str
 | .struct F =>.struct (F.toList.map fun f=>(f.type,f.offset))
 | .slice e =>.slice e
 | .array n e =>.arr n e
 | .map k e =>.map k e
 | _ =>.other
def lh:Value->D
 | .int k n =>.int k n
 | .bool b =>.bool b
 | .string s =>.str s
 | .slice none 0 0 =>.sl true true 0 []
 | .map none =>.mpc [] []
 | _ =>.und
def Ds.nn:Ds->Bool
 | .struct _ | .arr _ _=>true
 | _=>false
def ev (t:Nat->D):Operand->D
 | .tmp i=>t i
 | .const v=>lh v
 | .global _ =>.und
 | .func f =>.fn f
def QE:Value->Bool
 | .agg _=>true
 | _=>false
structure de (P:Program) (t:Nat) (τ:Ty):Prop where
 desc:(P.underlying t).map conv=some τ.ds
 info:(P.info? t).map (fun i=>(i.size,i.bytes,i.zero.map fun z=>z.cells.toList))=some (τ.size,τ.bytes,some τ.zero)
 agg:(P.info? t).map (fun i=>i.zero.map QE)=some (some τ.ds.nn)
 eqs:τ.eqok=true->P.stoodInHeld t=false∧P.eqGuardType P.depth t=false∧(match P.underlying t with|some (.struct F)=>F.all (fun f=>f.name != "_")|_=>true)=true
def gz (P:Program) (T:Nat->Option Ty):Prop:=∀t τ,T t=some τ->de P t τ
inductive RP (w:World) (M:Nat->Prop):D->Value->Prop
 | int (k:IntKind) (n:Int):RP w M (.int k n) (.int k n)
 | bool (b:Bool):RP w M (.bool b) (.bool b)
 | str (s:ByteArray):RP w M (.str s) (.string s)
 | sl (A:Option Addr) (c:Nat) (nl tight:Bool) (n:Nat) (xs:List D) (us:Nat->Value) (h1:n<=c) (h2:c<=maxLen) (h3:nl=true->(tight=true->A=none∧c=0)∧(tight=false->A≠none)) (h4:A=none->n=0∧c=0)
   (h5:tight=true->c=n) (h6:xs≠[]->∃b o,A=some ⟨b,o,none⟩∧b<w.heap.size∧¬M b∧∀j,j<xs.length->w.cell? ⟨b,o+j,none⟩=some (us j))
   (h7:∀j x,xs[j]? = some x->RP w M x (us j)) (h8:∀x∈xs,aS x=true):RP w M (.sl nl tight n xs) (.slice A n c)
 | ip (xs:List D) (ad:Addr) (us:Nat->Value) (h6:xs≠[]->∃b o,ad=⟨b,o,none⟩∧b<w.heap.size∧¬M b∧∀j,j<xs.length->w.cell? ⟨b,o+j,none⟩=some (us j))
   (h7:∀j x,xs[j]? = some x->RP w M x (us j)) (h8:∀x∈xs,aS x=true):RP w M (.ip xs) (.pointer (some ad))
 | agg (xs:List D) (us:List Value) (h1:us.length=xs.length) (h2:∀j x,xs[j]? = some x->RP w M x (us.getD j undef)) (h3:∀x∈xs,aS x=true):RP w M (.agg xs) (.agg us.toArray)
 | tup (xs:List D) (us:List Value) (h1:us.length=xs.length) (h2:∀j x,xs[j]? = some x->RP w M x (us.getD j undef)):RP w M (.tup xs) (.tuple us.toArray)
 | fn (f:Nat):RP w M (.fn f) (.func (.func f) #[] #[])
 | ali (x v s o n:Nat) (u:Value) (h1:u.oneCell'=true):RP w M (.ali x v s o n) u
 | alm (x v:Nat) (u:Value) (h1:u.oneCell'=true):RP w M (.alm x v) u
 | mpc (ks:List bV) (vs:List D) (mb:Option Nat) (us:Nat->Value) (h1:vs.length=ks.length) (h2:mb=none->ks=[])
   (h3:∀b,mb=some b->b<w.heap.size∧¬M b∧∃(ents:Array MapEntry) (clock:Nat),w.heap[b]? = some (.map ents clock)∧ents.size=ks.length∧∀j k,ks[j]? = some k->∃e:MapEntry,ents[j]? = some e∧e.key=jI k∧e.val=us j)
   (h4:∀j x,vs[j]? = some x->RP w M x (us j)):RP w M (.mpc ks vs) (.map mb)
 | clo (f k:Nat) (xs:List D) (us:List Value) (h1:us.length=xs.length) (h2:∀j x,xs[j]? = some x->RP w M x (us.getD j undef)):RP w M (.clo f k xs) (.func (.func f) (us.take k).toArray (us.drop k).toArray)
theorem RP.keep {w w':World} {M M':Nat->Prop} (hk:∀b,b<w.heap.size->¬M b->b<w'.heap.size∧¬M' b∧w'.heap[b]? = w.heap[b]?) {d:D} {u:Value} (h:RP w M d u):RP w' M' d u:=by
 induction h with
 | int k n=>exact .int k n
 | bool b=>exact .bool b
 | str s=>exact .str s
 | sl A c nl tight n xs us h1 h2 h3 h4 h5 h6 h7 h8 ih =>
  refine .sl A c nl tight n xs us h1 h2 h3 h4 h5 (fun hne =>?_) ih h8
  obtain⟨b,o,hA,hb,hM,hc⟩:=h6 hne
  obtain⟨k1,k2,k3⟩:=hk b hb hM
  exact⟨b,o,hA,k1,k2,fun j hj=>(afN (a:=⟨b,o+j,none⟩) k3).trans (hc j hj)⟩
 | ip xs ad us h6 h7 h8 ih =>
  refine .ip xs ad us (fun hne =>?_) ih h8
  obtain⟨b,o,hA,hb,hM,hc⟩:=h6 hne
  obtain⟨k1,k2,k3⟩:=hk b hb hM
  exact⟨b,o,hA,k1,k2,fun j hj=>(afN (a:=⟨b,o+j,none⟩) k3).trans (hc j hj)⟩
 | agg xs us h1 h2 h3 ih=>exact .agg xs us h1 ih h3
 | tup xs us h1 h2 ih=>exact .tup xs us h1 ih
 | fn f=>exact .fn f
 | ali x v s o n u h1=>exact .ali x v s o n u h1
 | alm x v u h1=>exact .alm x v u h1
 | mpc ks vs mb us h1 h2 h3 h4 ih =>
  refine .mpc ks vs mb us h1 h2 (fun b hb =>?_) ih
  obtain⟨k1,k2,ents,clock,k3,k4,k5⟩:=h3 b hb
  obtain⟨q1,q2,q3⟩:=hk b k1 k2
  exact⟨q1,q2,ents,clock,q3.trans k3,k4,k5⟩
 | clo f kk xs us h1 h2 ih=>exact .clo f kk xs us h1 ih
theorem RP.canon {w:World} {M:Nat->Prop} {d:D} {u:Value} (h:RP w M d u):RP w M (canon d) u:=by
 cases h with
 | sl A c nl tight n xs us h1 h2 h3 h4 h5 h6 h7 h8=>exact .sl A c false false n xs us h1 h2 (fun h=>by cases h) h4 (fun h=>by cases h) h6 h7 h8
 | int k n=>exact .int k n
 | bool b=>exact .bool b
 | str s=>exact .str s
 | ip xs ad us h6 h7 h8=>exact .ip xs ad us h6 h7 h8
 | agg xs us h1 h2 h3=>exact .agg xs us h1 h2 h3
 | tup xs us h1 h2=>exact .tup xs us h1 h2
 | fn f=>exact .fn f
 | ali x v s o n u h1=>exact .ali x v s o n u h1
 | alm x v u h1=>exact .alm x v u h1
 | mpc ks vs mb us h1 h2 h3 h4=>exact .mpc ks vs mb us h1 h2 h3 h4
 | clo f kk xs us h1 h2=>exact .clo f kk xs us h1 h2
theorem kX (d:D):aS (canon d)=aS d:=by cases d<;>rfl
theorem RP.e8 {w:World} {M:Nat->Prop} {d:D} {u:Value} (h:RP w M d u):RP w M (e8 d) u:=by
 cases h with
 | agg xs us h1 h2 h3 =>
  refine .agg _ us (by simpa using h1) (fun j x hj =>?_) (fun x hx =>?_)
  ·rw[afO,afP]at hj
   obtain⟨y,hy,rfl⟩:=hj
   exact (h2 j y hy).canon
  ·obtain⟨y,hy,rfl⟩:=afQ.1 hx
   rw[kX]
   exact h3 y hy
 | sl A c nl tight n xs us h1 h2 h3 h4 h5 h6 h7 h8=>exact .sl A c false false n xs us h1 h2 (fun h=>by cases h) h4 (fun h=>by cases h) h6 h7 h8
 | int k n=>exact .int k n
 | bool b=>exact .bool b
 | str s=>exact .str s
 | ip xs ad us h6 h7 h8=>exact .ip xs ad us h6 h7 h8
 | tup xs us h1 h2=>exact .tup xs us h1 h2
 | fn f=>exact .fn f
 | ali x v s o n u h1=>exact .ali x v s o n u h1
 | alm x v u h1=>exact .alm x v u h1
 | mpc ks vs mb us h1 h2 h3 h4=>exact .mpc ks vs mb us h1 h2 h3 h4
 | clo f kk xs us h1 h2=>exact .clo f kk xs us h1 h2
def RC (w:World) (M:Nat->Prop) (h:Nat->Option Row) (blk:Nat->Option (Nat×Nat)) (V:Nat->Nat->Prop):D->Value->Prop
 | .ptr x v o,u=>V x v∧∀r,h x=some r->r.v=v->∃g,blk x=some g∧u=.pointer (some ⟨g.1,g.2+o,none⟩)
 | .mp x v,u=>V x v∧∀r,h x=some r->r.v=v->∃g,blk x=some g∧u=.map (some g.1)
 | .pm x v _,u=>V x v∧∀r,h x=some r->r.v=v->∃g,blk x=some g∧u=.pointer (some ⟨g.1,g.2+0,none⟩)
 | d,u=>RP w M d u
def RT (w:World) (M:Nat->Prop) (h:Nat->Option Row) (blk:Nat->Option (Nat×Nat)) (V:Nat->Nat->Prop):D->Value->Prop
 | .ptr x v o,u=>V x v∧∀r,h x=some r->r.v=v->∃g,blk x=some g∧u=.pointer (some ⟨g.1,g.2+o,none⟩)
 | .buf x v s o n,u=>V x v∧∀r,h x=some r->r.v=v ->
   (∃g o' c N t,blk x=some g∧u=.slice (some ⟨g.1,o',none⟩) n c∧(0<c∨o=0->o'=g.2+o∧c*s+o'=N)∧n<=c∧c<=maxLen∧w.shape? g.1=some (t,N))∨(blk x=none∧n=0∧∃A,u=.slice A 0 0)
 | .clo f kk xs,u=>∃us:List Value,u=.func (.func f) (us.take kk).toArray (us.drop kk).toArray∧us.length=xs.length∧∀(j:Nat) x,xs[j]? = some x->RC w M h blk V x (us.getD j undef)
 | .mp x v,u=>V x v∧∀r,h x=some r->r.v=v->∃g,blk x=some g∧u=.map (some g.1)
 | .pm x v _,u=>V x v∧∀r,h x=some r->r.v=v->∃g,blk x=some g∧u=.pointer (some ⟨g.1,g.2+0,none⟩)
 | .box1 x v s o n,u=>∃u':Value,u=.agg #[u']∧u'.oneCell'=true∧V x v∧∀r,h x=some r->r.v=v ->
   (∃g o' c N t,blk x=some g∧u'=.slice (some ⟨g.1,o',none⟩) n c∧(0<c∨o=0->o'=g.2+o∧c*s+o'=N)∧n<=c∧c<=maxLen∧w.shape? g.1=some (t,N))∨(blk x=none∧n=0∧∃A,u'=.slice A 0 0)
 | .und,_=>True
 | .skp,u=>u=undef
 | d,u=>RP w M d u
def Own (M:Nat->Prop) (h:Nat->Option Row) (blk:Nat->Option (Nat×Nat)) (b:Nat):Prop:=M b∨∃x r g,h x=some r∧r.fz=false∧blk x=some g∧g.1=b
def Wt (w:World) (M:Nat->Prop) (g:Nat×Nat) (r:Row):Prop :=
 ∃cs:Array Value,w.heap[g.1]? = some (.cells cs r.ty (0,0))∧g.2+r.cells.length<=cs.size∧∀j d,r.cells[j]? = some d->aS d=true∧RP w M d (cs.getD (g.2+j) undef)
def aah (w:World) (M:Nat->Prop) (g:Nat×Nat) (ks:List bV) (vs:List D):Prop :=
 ∃(ents:Array MapEntry) (clock:Nat),w.heap[g.1]? = some (.map ents clock)∧ents.size=ks.length∧MapKept.Stamped ents clock∧∃us:Nat->Value,(∀j k,ks[j]? = some k->∃e:MapEntry,ents[j]? = some e∧e.key=jI k∧e.val=us j)∧∀j x,vs[j]? = some x->RP w M x (us j)
def KQ (w:World) (M:Nat->Prop) (g:Nat×Nat) (ty:Nat) (ks:List bV) (vs:List D):Prop :=
 g.2=0∧∃(b:Nat) (ents:Array MapEntry) (clock:Nat) (seen:Array Nat) (c l:List Nat) (us:Nat->Value),w.heap[g.1]? = some (.mapIter (some b) clock seen clock)∧b<w.heap.size∧¬M b∧w.heap[b]? = some (.map ents clock)∧MapKept.Stamped ents clock ∧
  c.length=ty-900000∧c.length<=1∧(c++l).length=ks.length∧l.Nodup∧(∀i,i∈l↔∃e:MapEntry,ents[i]? = some e∧seen.contains e.born=false)∧(∀i,i∈c->∃e:MapEntry,ents[i]? = some e∧seen.back? = some e.born) ∧
  (∀j k,ks[j]? = some k->∃(i:Nat) (e:MapEntry),(c++l)[j]? = some i∧ents[i]? = some e∧e.key=jI k∧e.val=us j)∧∀j x,vs[j]? = some x->RP w M x (us j)
def xb (w:World) (M:Nat->Prop) (g:Nat×Nat) (r:Row):Prop :=
 ∃ks vs,r.cells=[.mpc ks vs]∧vs.length=ks.length∧(r.ty<900000->aah w M g ks vs)∧(900000<=r.ty->KQ w M g r.ty ks vs)
def phC:D->Bool
 | .ph _ _ _ | .und | .int _ _ | .bool _ | .str _ | .sl _ _ _ _=>true
 | _=>false
def BT (w:World) (M:Nat->Prop):D->Value->Prop
 | .ph _ _ _,_=>True
 | .und,_=>True
 | d,u=>RP w M d u
def BU (w:World) (M:Nat->Prop) (g:Nat×Nat) (r:Row):Prop:=(∀d∈r.cells,phC d=true)∧∃cs:Array Value,w.heap[g.1]? = some (.cells cs r.ty (0,0))∧g.2+r.cells.length<=cs.size∧∀j d,r.cells[j]? = some d->BT w M d (cs.getD (g.2+j) undef)
def dw (w:World) (M:Nat->Prop) (g:Nat×Nat) (r:Row):Prop :=
 match r.mp with
 | true=>xb w M g r∨BU w M g r
 | false=>Wt w M g r
def Sc (L:Nat->Prop) (w0 w:World) (M:Nat->Prop) (g:Option (Nat×Nat)) (r:Row):Prop :=
 match g with
 | some g=>(w0.heap.size<=g.1∨L g.1)∧dw w M g r
 | none=>r.cells=[]
def Zo:Option Nat:=none
def acD:Array Value:=((List.range 20).map fun i=>Value.int .u64 ((10 ^ i:Nat):Int)).toArray
structure Sd (w:World) (M:Nat->Prop) (b:Nat):Prop where
 lt:b<w.heap.size
 no:¬M b
 is:∃ty fr,w.heap[b]? = some (.cells acD ty fr)
theorem Sd.less {w:World} {M1 M2:Nat->Prop} {b:Nat} (h:Sd w M1 b) (hm:∀b,M2 b->M1 b):Sd w M2 b:=⟨h.lt,fun hb=>h.no (hm _ hb),h.is⟩
def UM (w:World) (M:Nat->Prop):Prop:=∀b,Zo=some b->Sd w M b
theorem UM.keep {w w':World} {M M':Nat->Prop} (hk:∀b,b<w.heap.size->¬M b->b<w'.heap.size∧¬M' b∧w'.heap[b]? = w.heap[b]?) (h:UM w M):UM w' M':=fun b hb=>by
 obtain⟨h1,h2,ty,fr,h3⟩:=h b hb
 obtain⟨k1,k2,k3⟩:=hk b h1 h2
 exact⟨k1,k2,ty,fr,k3.trans h3⟩
structure dK (L:Nat->Prop) (w0 w:World):Prop where
 os:w.os=w0.os
 tape:w.tape=w0.tape
 output:w.output=w0.output
 size:w0.heap.size<=w.heap.size
 block:∀k,k<w0.heap.size->¬L k->w.heap[k]? = w0.heap[k]?
def alD:D->Option D
 | .ali x v s o n=>some (.buf x v s o n)
 | .alm x v=>some (.mp x v)
 | _=>none
abbrev iB:=Option (Option (Nat×Nat)×(Nat->Prop))
def LB (L:iB) (b:Nat):Prop:=∃p,L=some p∧((∃g:Nat×Nat,p.1=some g∧b=g.1)∨p.2 b)
def JZ (go:Option (Nat×Nat)):iB:=some (go,fun _=>False)
theorem oL {b:Nat} : ¬LB none b:=fun⟨_,h,_⟩=>by cases h
theorem Ji {go:Option (Nat×Nat)} {b:Nat} : LB (JZ go) b↔∃g,go=some g∧b=g.1 :=
 ⟨fun⟨p,h1,h2⟩=>by cases h1;exact h2.elim id False.elim,fun h=>⟨_,rfl,.inl h⟩⟩
def PK:Nat:=1000000
def NK (y j:Nat):Nat:=PK*(j+2)+y
def PN (y j x:Nat):Prop:=y<PK∧(x=PK+y∨x=NK y j)
def PhR (w:World) (h:Nat->Option Row) (blk:Nat->Option (Nat×Nat)) (x s n:Nat) (u:Value):Prop:=∀r,h x=some r ->
 (∃g c N' ty,blk x=some g∧u=.slice (some ⟨g.1,g.2,none⟩) n c∧c*s+g.2=N'∧n<=c∧c<=maxLen∧w.shape? g.1=some (ty,N'))∨(blk x=none∧n=0∧∃A,u=.slice A 0 0)
structure hX (N:Nat) (V:Nat->Nat->Prop) (d e:Nat):Prop where
 no:¬V d e
 lt:d<N
structure Inv (N:Nat) (M:Nat->Prop) (L:iB) (w0:World) (blk:Nat->Option (Nat×Nat)) (V:Nat->Nat->Prop) (t:Nat->D) (h:Nat->Option Row) (a:Act) (w:World):Prop where
 tab:UM w (Own M h blk)
 below:dK (LB L) w0 w
 mlt:∀b,M b->b<w0.heap.size
 lent:∀b,LB L b->¬M b
 pin:∀go,L=some go->V 0 0∧∀r,h 0=some r->r.v=0->blk 0=go.1∧∀g,go.1=some g->w.shape? g.1=w0.shape? g.1
 defers:a.defers=[]
 tsz:a.tmps.size=N
 slots:∀i,RT w (Own M h blk) h blk V (t i) (a.tmps.getD i undef)
 rows:∀x r,h x=some r->(x<N->V x r.v)∧Sc (LB L) w0 w (Own M h blk) (blk x) r
 inj:∀x y r s g g',h x=some r->h y=some s->blk x=some g->blk y=some g'->g.1=g'.1->x=y
 ali:∀y r g,h y=some r->r.fz=true->r.lst=false->blk y=some g->∀j c d,r.cells[j]? = some c->alD c=some d->∃u,w.cell? ⟨g.1,g.2+j,none⟩=some u∧RT w (Own M h blk) h blk V d u
 big:N<=PK
 pha:∀y r g,h y=some r->r.mp=true->blk y=some g->∀j x s n:Nat,r.cells[j]? = some (D.ph x s n)->PN y j x∧∃u,w.cell? ⟨g.1,g.2+j,none⟩=some u∧PhR w h blk x s n u
def fS:D->List Nat
 | .ptr x _ _=>[x]
 | .box1 x _ _ _ _=>[x]
 | .mp x _=>[x]
 | .pm x _ y=>[x,y]
 | .buf x _ _ _ _=>[x]
 | _=>[]
def nm:D->List Nat
 | .clo _ _ xs=>xs.flatMap fS
 | d=>fS d
def live (h:Nat->Option Row) (x v:Nat):Option Row :=
 match h x with
 | some r=>if r.v=v∧r.mp=false then some r else none
 | none=>none
def ml (h:Nat->Option Row) (x v:Nat):Option Row :=
 match h x with
 | some r=>if r.v=v then some r else none
 | none=>none
def kp (h:Nat->Option Row) (x v:Nat):Option (Row×Nat×Nat×Nat) :=
 match h x with
 | some r=>if r.v=v∧r.mp=true then (match r.cells with | [.ph y s n]=>some (r,y,s,n)|_=>none) else none
 | none=>none
def gh (h:Nat->Option Row) (x v:Nat):Option (List bV×List D) :=
 match h x with
 | some r=>if r.v=v∧r.mp=true∧r.ty<900000 then (match r.cells with | [.mpc ks vs]=>some (ks,vs)|_=>none) else none
 | none=>none
def pY (r:Row):Bool :=
 match r.mp,r.cells with
 | true,[.mpc _ _]=>decide (r.ty<900000)
 | true,_=>false
 | false,_=>true
def wI (h:Nat->Option Row) (x v:Nat):Option Row :=
 match h x with
 | some r=>if r.v=v∧r.mp=true∧pY r=true then some r else none
 | none=>none
def xO (d:D) (h:Nat->Option Row) (x v:Nat):Option Row :=
 match d with
 | .mp _ _=>wI h x v
 | _=>live h x v
def content (h:Nat->Option Row):D->Option (Nat×List D)
 | .sl _ _ n xs=>some (n,xs)
 | .buf x v s o n =>
  match live h x v with
  | some r=>if o+n*s<=r.cells.length then some (n,(r.cells.drop o).take (n*s)) else none
  | none=>none
 | _=>none
def cZ (h:Nat->Option Row):D->Option (D×List Nat)
 | .int k n=>some (.int k n,[])
 | .bool b=>some (.bool b,[])
 | .str s=>some (.str s,[])
 | .sl a b n xs=>some (.sl a b n xs,[])
 | .buf x v s o n =>
  match live h x v with
  | some r=>if o+n*s<=r.cells.length then some (.sl false false n ((r.cells.drop o).take (n*s)),[x]) else none
  | none=>none
 | _=>none
def dY (h:Nat->Option Row):D->Option (List D×List Nat)
 | .agg xs=>some (xs,[])
 | d =>
  match cZ h d with
  | some (d',fr)=>some ([d'],fr)
  | none=>none
def aP (h:Nat->Option Row):D->Option (D×List Nat)
 | .ptr x v o =>
  match live h x v with
  | some r=>if o<=r.cells.length then some (.ip (r.cells.drop o),[x]) else none
  | none=>none
 | .agg xs=>some (.agg (xs.map canon),[])
 | .ip xs=>some (.ip xs,[])
 | .fn f=>some (.fn f,[])
 | .box1 x v s o n =>
  match cZ h (.buf x v s o n) with
  | some (d',fr)=>some (.agg [canon d'],fr)
  | none=>none
 | .mp x v =>
  match gh h x v with
  | some (ks,vs)=>some (.mpc ks vs,[x])
  | none=>none
 | .mpc ks vs=>some (.mpc ks vs,[])
 | .pm x v y =>
  match live h x v with
  | some r =>
   match r.cells with
   | [.alm y' v'] =>
    if r.fz=true∧r.lst=false∧y'=y then
     match gh h y v' with
     | some (ks,vs)=>some (.ip [.mpc ks vs],[x,y])
     | none=>none
    else none
   | _=>none
  | none=>none
 | d =>
  match cZ h d with
  | some (d',fr)=>some (canon d',fr)
  | none=>none
def cH (h:Nat->Option Row):List D->Option (List D×List Nat)
 | []=>some ([],[])
 | d::ds =>
  match aP h d with
  | some (d',fr) =>
   match cH h ds with
   | some (ds',fr')=>some (d'::ds',fr++fr')
   | none=>none
  | none=>none
def bE (h:Nat->Option Row):D->Option (D×List Nat)
 | .clo f kk xs =>
  match cH h xs with
  | some (ys,fr)=>some (.clo f kk ys,fr)
  | none=>none
 | d=>aP h d
def bn (h:Nat->Option Row):List D->Option (List D×List Nat)
 | []=>some ([],[])
 | d::ds =>
  match bE h d with
  | some (d',fr) =>
   match bn h ds with
   | some (ds',fr')=>some (d'::ds',fr++fr')
   | none=>none
  | none=>none
def pW (r:Row):Row :=
 match r.fz with
 | true=>r
 | false=>{ r with fz:=true,lst:=true }
def gP (h:Nat->Option Row) (fr:List Nat):List (Nat×Option Row):=fr.map fun x=>(x,(h x).map pW)
structure bu where
 val:D
 hw:List (Nat×Option Row)
def aH (h:Nat->Option Row):List (Nat×Option Row)->Nat->Option Row
 | []=>h
 | (x,r)::l=>aH (bB h x r) l
def pj (b:Bool) (cs:List D):List D:=if b then cs.map canon else cs
def putCells (cells:List D) (o:Nat) (cs:List D):List D:=cells.take o++cs++cells.drop (o+cs.length)
def iL (τ:Ty) (cs:List D):Option D :=
 if τ.ds.nn then some (.agg cs) else match cs with | [d]=>some d|_=>none
def PR (b:Bool):List D->Option D
 | [.ali x v s o n]=>some (if b then .box1 x v s o n else .buf x v s o n)
 | _=>none
def di (τ:Ty) (h:Nat->Option Row):D->Option bu
 | .ptr x v o =>
  match live h x v with
  | some r=>if o+τ.size<=r.cells.length then (match iL τ ((r.cells.drop o).take τ.size) with|some d=>some ⟨d,[]⟩|none=>none) else none
  | none=>none
 | .ip xs=>if τ.size<=xs.length then (match iL τ (xs.take τ.size) with|some d=>some ⟨d,[]⟩|none=>none) else none
 | _=>none
def mH (τ:Ty) (h:Nat->Option Row) (x v o:Nat):Option Row->Option bu
 | some r =>
  if r.fz && !r.lst then
   if o+τ.size<=r.cells.length then
    match PR τ.ds.nn ((r.cells.drop o).take τ.size) with
    | some d=>some ⟨d,[]⟩
    | none=>di τ h (.ptr x v o)
   else none
  else di τ h (.ptr x v o)
 | none=>none
def nW (τ:Ty) (h:Nat->Option Row) (x v y:Nat):Option (Row×Nat×Nat×Nat)->Option bu
 | some (_,y',s,n) =>
  match h y with
  | some r=>if y'=y∧y=PK+x∧r.mp=false∧r.lst=true∧r.cells.length=n*s∧τ.size=1 then some ⟨if τ.ds.nn then .agg [.sl false false n r.cells] else .sl false false n r.cells,gP h [y]⟩ else none
  | none=>none
 | none=>none
def mf (τ:Ty) (h:Nat->Option Row):D->Option bu
 | .ptr x v o=>mH τ h x v o (live h x v)
 | .pm x v y =>
  match live h x v with
  | some r =>
   match r.cells with
   | [.alm y' v']=>if r.fz=true∧r.lst=false∧τ.size=1∧τ.ds.nn=false then some ⟨.mp y' v',[]⟩ else none
   | _=>none
  | none=>nW τ h x v y (kp h x v)
 | d=>di τ h d
def cB (τ:Ty) (h:Nat->Option Row):D->D->Option bu
 | .ptr x v o,d =>
  match live h x v with
  | some r =>
   match dY h d with
   | some (cs,fr)=>if cs.length=τ.size∧o+τ.size<=r.cells.length∧r.fz=false∧fr.contains x=false then some ⟨.und,gP h fr++[(x,some { r with cells:=putCells r.cells o (pj r.lst cs) })]⟩ else none
   | none=>none
  | none=>none
 | _,_=>none
def cJ (τ:Ty) (h:Nat->Option Row) (p d:D):Option bu :=
 match d with
 | .box1 y vy s oy n =>
  match p with
  | .ptr x v o =>
   match live h x v with
   | some r=>if τ.size=1∧o=0∧r.cells.length=1∧r.fz=false∧r.lst=false then some ⟨.und,[(x,some ⟨r.v,r.ty,[.ali y vy s oy n],true,false,false⟩)]⟩ else none
   | none=>none
  | .pm x v k =>
   match live h x v,live h y vy with
   | some r,some q=>if τ.size=1∧oy=0∧r.cells.length=1∧r.fz=false∧r.lst=false∧q.fz=false∧q.lst=true∧q.cells.length=n*s∧x≠y∧k=PK+x∧x<PK then
     some ⟨.und,[(y,none),(k,some ⟨0,q.ty,q.cells,false,true,false⟩),(x,some ⟨r.v,r.ty,[.ph k s n],false,false,true⟩)]⟩ else none
   | _,_=>none
  | _=>none
 | .mp y' v' =>
  match p with
  | .pm x v y =>
   match live h x v with
   | some r=>if τ.size=1∧y'=y∧r.cells.length=1∧r.fz=false∧r.lst=false∧(gh h y v').isSome then some ⟨.und,[(x,some ⟨r.v,r.ty,[.alm y' v'],true,false,false⟩)]⟩ else none
   | none=>none
  | _=>none
 | d=>cB τ h p d
def iH (h:Nat->Option Row):D->Option bu
 | .ptr x v o=>match ml h x v with|some _=>some ⟨.ptr x v o,[]⟩|none=>none
 | .ip xs=>some ⟨.ip xs,[]⟩
 | _=>none
def dD (T:Nat->Option Ty) (τ:Ty) (h:Nat->Option Row) (i:Nat):D->Option bu
 | .ptr x v o =>
  match ml h x v,τ.ds with
  | some _,.struct fs=>match fs[i]? with
   | some (ft,off)=>match T ft with|some φ=>if φ.size=0 then none else some ⟨.ptr x v (o+off),[]⟩|none=>none
   | none=>none
  | _,_=>none
 | .pm x v k =>
  match kp h x v,τ.ds with
  | some _,.struct fs=>match fs[i]? with
   | some (ft,0)=>match T ft with|some φ=>if φ.size=0 then none else some ⟨.pm x v k,[]⟩|none=>none
   | _=>none
  | _,_=>none
 | .ip xs =>
  match τ.ds with
  | .struct fs=>match fs[i]? with
   | some (ft,off)=>match T ft with|some φ=>if φ.size=0 then none else some ⟨.ip (xs.drop off),[]⟩|none=>none
   | none=>none
  | _=>none
 | _=>none
def Ic (φ:Ty) (xs:List D) (off:Nat):Option D :=
 if φ.ds.nn then (if off+φ.size<=xs.length then some (.agg ((xs.drop off).take φ.size)) else none) else xs[off]?
def kO (T:Nat->Option Ty) (τ:Ty) (i:Nat):D->Option bu
 | .agg xs =>
  match τ.ds with
  | .struct fs=>match fs[i]? with
   | some (ft,off)=>match T ft with|some φ=>(match Ic φ xs off with|some d=>some ⟨d,[]⟩|none=>none)|none=>none
   | none=>none
  | _=>none
 | _=>none
def bD (T:Nat->Option Ty) (τ:Ty) (h:Nat->Option Row):D->D->Option bu
 | .sl _ _ n xs,.int _ i =>
  match τ.ds with
  | .slice el=>match T el with|some φ=>if 0<=i∧i<n then some ⟨.ip (xs.drop (i.toNat*φ.size)),[]⟩ else none|none=>none
  | _=>none
 | .buf x v s o n,.int _ i =>
  match ml h x v,τ.ds with
  | some _,.slice el=>match T el with|some φ=>if φ.size=s∧0<=i∧i<n then some ⟨.ptr x v (o+i.toNat*s),[]⟩ else none|none=>none
  | _,_=>none
 | .ptr x v o,.int _ i =>
  match live h x v,τ.ds with
  | some _,.arr n el=>match T el with|some φ=>if 0<=i∧i<n then some ⟨.ptr x v (o+i.toNat*φ.size),[]⟩ else none|none=>none
  | _,_=>none
 | _,_=>none
def fC (T:Nat->Option Ty) (τ:Ty):D->D->Option bu
 | .str s,.int _ i =>
  match τ.ds with
  | .str=>if 0<=i then (match s[i.toNat]? with|some b=>some ⟨.int .u8 b.toNat,[]⟩|none=>none) else none
  | _=>none
 | .agg xs,.int _ i =>
  match τ.ds with
  | .arr n el=>match T el with|some φ=>if 0<=i∧i<n then (match Ic φ xs (i.toNat*φ.size) with|some d=>some ⟨d,[]⟩|none=>none) else none|none=>none
  | _=>none
 | _,_=>none
def mq:D->Option Nat
 | .int _ i=>if 0<=i then some i.toNat else none
 | _=>none
def sP (n:Nat) (lo hi:Option D):Option (Nat×Nat) :=
 match (match hi with|none=>some n|some d=>mq d),(match lo with|none=>some 0|some d=>mq d) with
 | some h,some l=>if l<=h∧h<=n then some (l,h) else none
 | _,_=>none
def cv (T:Nat->Option Ty) (τ:Ty) (h:Nat->Option Row) (x:D) (lo hi mx:Option D):Option bu :=
 match x with
 | .str s =>
  match τ.ds,mx,sP s.size lo hi with
  | .str,none,some (l,k)=>some ⟨.str (s.extract l k),[]⟩
  | _,_,_=>none
 | .sl nl tight n xs =>
  match τ.ds with
  | .slice el =>
   match T el,sP n lo hi with
   | some φ,some (l,k) =>
    match mx with
    | none=>some ⟨.sl (nl&&tight) (tight&&k==n) (k-l) ((xs.drop (l*φ.size)).take ((k-l)*φ.size)),[]⟩
    | some m=>match mq m,hi with
     | some m,some _=>if k<=m∧m<=n then some ⟨.sl false (m==k) (k-l) ((xs.drop (l*φ.size)).take ((k-l)*φ.size)),[]⟩ else none
     | _,_=>none
   | _,_=>none
  | _=>none
 | .buf y v s o n =>
  match live h y v,τ.ds,mx with
  | some _,.slice el,none =>
   match T el,sP n lo hi with
   | some φ,some (l,k)=>if φ.size=s∧0<s then some ⟨.buf y v s (o+l*s) (k-l),[]⟩ else none
   | _,_=>none
  | _,_,_=>none
 | _=>none
def gO (h:Nat->Option Row) (place:Nat->Option (Nat×Nat)) (cells:List D):List (Nat×D)->Option (List D×List Nat)
 | []=>some (cells,[])
 | (i,d)::rest =>
  match place i,dY h d with
  | some (off,size),some (cs,fr) =>
   if cs.length=size∧off+size<=cells.length then
    match gO h place (putCells cells off cs) rest with
    | some (out,fr')=>some (out,fr++fr')
    | none=>none
   else none
  | _,_=>none
def fieldAt (T:Nat->Option Ty) (fs:List (Nat×Nat)) (i:Nat):Option (Nat×Nat) :=
 match fs[i]? with
 | some (ft,off)=>match T ft with|some φ=>some (off,φ.size)|none=>none
 | none=>none
def ey (T:Nat->Option Ty) (τ:Ty) (h:Nat->Option Row) (parts:List (Nat×D)):Option bu :=
 match τ.ds with
 | .struct fs =>
  if (fs.all fun f=>(T f.1).isSome)&&(τ.zero.map lh).all aS then
   match gO h (fieldAt T fs) (τ.zero.map lh) parts with
   | some (cs,fr)=>some ⟨.agg cs,gP h fr⟩
   | none=>none
  else none
 | _=>none
def alive (h:Nat->Option Row):D->Bool
 | .ptr x v _=>(ml h x v).isSome
 | .buf x v _ _ _=>(ml h x v).isSome
 | _=>true
def cE:Option bu->Option bu
 | some ⟨.agg cs,hw⟩=>some ⟨.agg (cs.map canon),hw⟩
 | _=>none
def nS (q:Nat->Bool) (T:Nat->Option Ty) (τ:Ty) (h:Nat->Option Row) (dst:Option Nat) (parts:List (Nat×D)):Option bu :=
 match dst with
 | some d =>
  if q d then ey T τ h parts else
   match τ.ds,parts with
   | .struct fs,[(0,.buf x v s o n)]=>if (alive h (.buf x v s o n))∧(fs.all fun f=>(T f.1).isSome)∧fieldAt T fs 0=some (0,1)∧τ.zero.length=1 then some ⟨.box1 x v s o n,[]⟩ else none
   | .struct fs,[(0,.box1 x v s o n)]=>if (alive h (.buf x v s o n))∧(fs.all fun f=>(T f.1).isSome)∧fieldAt T fs 0=some (0,1)∧τ.zero.length=1 then some ⟨.box1 x v s o n,[]⟩ else none
   | _,_=>cE (ey T τ h parts)
 | none=>ey T τ h parts
def lG (n:Nat) (zs:List D):List D:=(List.replicate n zs).flatten
def dC (T:Nat->Option Ty) (τ:Ty) (h:Nat->Option Row) (e d len:Nat) (parts:List (Nat×D)):Option bu :=
 match τ.ds with
 | .slice el =>
  match T el with
  | some φ =>
   if len*φ.size<=16777216∧0<φ.size∧(φ.zero.map lh).all aS=true∧φ.zero.length=φ.size then
    match gO h (fun i=>some (i*φ.size,φ.size)) (lG len (φ.zero.map lh)) parts with
    | some (cs,fr)=>if fr.contains d=false then some ⟨.buf d e φ.size 0 len,gP h fr++[(d,some ⟨e,el,cs.map canon,false,true,false⟩)]⟩ else none
    | none=>none
   else none
  | none=>none
 | _=>none
def oQ (T:Nat->Option Ty) (τ:Ty) (e d:Nat) (l c:D):Option bu :=
 match τ.ds with
 | .slice el =>
  match T el,mq l,mq c with
  | some φ,some l,some c =>
   if l<=c∧c<=maxLen∧c*φ.bytes<=140737488355328∧0<φ.size∧(φ.zero.map lh).all aS=true∧φ.zero.length=φ.size then
    some ⟨.buf d e φ.size 0 l,[(d,some ⟨e,el,lG l ((φ.zero.map lh).map canon),false,true,false⟩)]⟩
   else none
  | _,_,_=>none
 | _=>none
def ik (T:Nat->Option Ty) (τ:Ty) (h:Nat->Option Row) (e d:Nat) (s x:D):Option bu :=
 match τ.ds with
 | .slice el =>
  match T el,content h x with
  | some φ,some (m,news) =>
   if 0<φ.size∧φ.zero.length=φ.size then
    match s with
    | .sl nl tight n xs =>
     if tight=true∧n+m<=maxLen∧(n+m)*φ.bytes<=140737488355328∧xs.length=n*φ.size∧news.length=m*φ.size then
      if m=0 then some ⟨.sl nl tight n xs,[]⟩ else some ⟨.buf d e φ.size 0 (n+m),[(d,some ⟨e,el,xs++news,false,true,false⟩)]⟩
     else none
    | .buf y v z o n =>
     match live h y v with
     | some r =>
      if z=φ.size∧r.ty=el∧r.fz=false∧o+n*φ.size<=r.cells.length∧n+m<=maxLen∧(n+m)*φ.bytes<=140737488355328∧news.length=m*φ.size then
       some ⟨.buf d e φ.size 0 (n+m),[(y,none),(d,some ⟨e,el,(r.cells.drop o).take (n*φ.size)++news,false,true,false⟩)]⟩
      else none
     | none=>none
    | _=>none
   else none
  | _,_=>none
 | _=>none
def Vf:D->Option bV
 | .int .i64 n=>some (n,none)
 | .agg [.int .i64 a,.int .i64 b]=>some (a,some b)
 | _=>none
def og (z:D):List bV->List D->bV->D
 | k::ks,v::vs,n=>if k=n then v else og z ks vs n
 | _,_,_=>z
def wO (ks:List bV) (n:bV):List bV:=if ks.contains n then ks else ks++[n]
def Bq (ks:List bV) (vs:List D) (n:bV) (d:D):List D:=if ks.contains n then vs.set (ks.idxOf n) d else vs++[d]
def tv (T:Nat->Option Ty) (κ:Ty):Option Bool :=
 match κ.ds with
 | .int .i64=>some false
 | .struct [(a,0),(b,1)]=>match T a,T b with
  | some α,some β=>match α.ds,β.ds with
   | .int .i64,.int .i64=>if κ.eqok then some true else none
   | _,_=>none
  | _,_=>none
 | _=>none
def DK (T:Nat->Option Ty) (τ:Ty):Option (Bool×Ty) :=
 match τ.ds with
 | .map k el=>match T k,T el with
  | some κ,some φ=>match tv T κ with|some b=>some (b,φ)|none=>none
  | _,_=>none
 | _=>none
def lx (T:Nat->Option Ty) (ty:Nat) (τ:Ty) (e d:Nat):Option bu :=
 match DK T τ with
 | some _=>if 900000<=ty then none else some ⟨.mp d e,[(d,some ⟨e,ty,[.mpc [] []],false,true,true⟩)]⟩
 | none=>none
def mapOf (h:Nat->Option Row):D->Option (List bV×List D)
 | .mp x v=>gh h x v
 | .mpc ks vs=>some (ks,vs)
 | _=>none
def kS (b:Bool) (n:bV) (ks:List bV):Bool:=FY n==b&&ks.all fun k=>FY k==b
def fv (T:Nat->Option Ty) (τ:Ty) (h:Nat->Option Row) (m i:D) (ok:Bool):Option bu :=
 match DK T τ,mapOf h m,Vf i with
 | some (b,φ),some (ks,vs),some n =>
  match iL φ (φ.zero.map lh) with
  | some z=>if kS b n ks=true∧(φ.zero.map lh).all aS=true then some ⟨if ok then .tup [og (e8 z) ks vs n,.bool (ks.contains n)] else og (e8 z) ks vs n,[]⟩ else none
  | none=>none
 | _,_,_=>none
def sC (h:Nat->Option Row):D->Option (D×List Nat)
 | .agg xs=>some (.agg (xs.map canon),[])
 | d =>
  match cZ h d with
  | some (d',fr)=>some (canon d',fr)
  | none=>none
def cj (T:Nat->Option Ty) (τ:Ty) (h:Nat->Option Row) (m i x:D):Option bu :=
 match DK T τ,m,Vf i,sC h x with
 | some (b,_),.mp y v,some n,some (d,fr) =>
  match h y with
  | some r =>
   match gh h y v with
   | some (ks,vs)=>if kS b n ks=true∧r.fz=false∧fr.contains y=false then some ⟨.und,gP h fr++[(y,some ⟨r.v,r.ty,[.mpc (wO ks n) (Bq ks vs n d)],false,true,true⟩)]⟩ else none
   | none=>none
  | none=>none
 | _,_,_,_=>none
def PH:D->D->Option Bool
 | .int k a,.int k' b=>if k=k' then some (a==b) else none
 | .bool a,.bool b=>some (a==b)
 | .str a,.str b=>some (a==b)
 | _,_=>none
def S3:List D->List D->Option Bool
 | [],[]=>some true
 | x::xs,y::ys=>match PH x y,S3 xs ys with|some a,some b=>some (a&&b)|_,_=>none
 | _,_=>none
def jM:Ds->Bool
 | .int _ | .bool | .str=>true
 | _=>false
def kindOk:Ds->D->Bool
 | .int _,.int _ _=>true
 | .bool,.bool _=>true
 | .str,.str _=>true
 | _,_=>false
def eC (T:Nat->Option Ty):Nat->List (Nat×Nat)->List D->Bool
 | _,[],[]=>true
 | o,(ft,off)::fs,x::xs=>off==o&&(match T ft with|some φ=>kindOk φ.ds x|none=>false)&&eC T (o+1) fs xs
 | _,_,_=>false
def aaO (nl tight:Bool) (n:Nat):Option Bool:=if 0<n then some false else if nl then some tight else none
def Wn (T:Nat->Option Ty) (τ:Ty):D->D->Option Bool
 | .bool a,.bool b=>match τ.ds with | .bool=>some (a==b)|_=>none
 | .sl nl tight n _,.sl true true 0 []=>match τ.ds with | .slice _=>aaO nl tight n|_=>none
 | .agg xs,.agg ys =>
  match τ.ds with
  | .struct fs=>if τ.eqok&&eC T 0 fs xs then S3 xs ys else none
  | _=>none
 | _,_=>none
def B4 (op:BinOp) (k:IntKind) (x y:Int):Int :=
 let a:=BitVec.ofInt k.bits x
 let b:=BitVec.ofInt k.bits y
 match op with
 | .and=>k.wrap (a &&& b).toNat
 | .or=>k.wrap (a ||| b).toNat
 | .xor=>k.wrap (a ^^^ b).toNat
 | _=>k.wrap (a &&& ~~~b).toNat
def fm (op:BinOp) (k:IntKind) (x y:Int):Option D :=
 match op with
 | .add=>some (.int k (k.wrap (x+y)))
 | .sub=>some (.int k (k.wrap (x-y)))
 | .mul=>some (.int k (k.wrap (x*y)))
 | .quo=>if y=0 then none else some (.int k (k.wrap (x.tdiv y)))
 | .rem=>if y=0 then none else some (.int k (x.tmod y))
 | .and=>some (.int k (B4 .and k x y))
 | .or=>some (.int k (B4 .or k x y))
 | .xor=>some (.int k (B4 .xor k x y))
 | .andNot=>some (.int k (B4 .andNot k x y))
 | .eql=>some (.bool (x==y))
 | .neq=>some (.bool (x != y))
 | .lss=>some (.bool (x<y))
 | .leq=>some (.bool (x<=y))
 | .gtr=>some (.bool (x>y))
 | .geq=>some (.bool (x>=y))
 | _=>none
def mA (op:BinOp) (x y:ByteArray):Option D :=
 match op with
 | .add=>if ((x.size+y.size:Nat):Int)>IntKind.i64.max then none else some (.str (x++y))
 | .eql=>some (.bool (x.toList==y.toList))
 | .neq=>some (.bool !(x.toList==y.toList))
 | .lss=>some (.bool (Op.bytesLess x.toList y.toList))
 | .leq=>some (.bool (Op.bytesLess x.toList y.toList||x.toList==y.toList))
 | .gtr=>some (.bool !(Op.bytesLess x.toList y.toList||x.toList==y.toList))
 | .geq=>some (.bool !Op.bytesLess x.toList y.toList)
 | _=>none
def rU (op:BinOp) (k:IntKind) (x y:Int):Option D :=
 if y<0 then none else
 match op with
 | .shl=>some (.int k (k.wrap (x*2 ^ (min y.toNat k.bits))))
 | .shr=>some (.int k (x.fdiv (2 ^ (min y.toNat k.bits))))
 | _=>none
def jV:BinOp->Bool
 | .shl | .shr=>true
 | _=>false
def y4 (T:Nat->Option Ty) (ty:Nat) (op:BinOp) (a b:D):Option D :=
 match a,b with
 | .int k x,.int k' y=>if jV op then rU op k x y else if k=k' then fm op k x y else none
 | .str x,.str y=>mA op x y
 | a,b =>
  match T ty with
  | some τ =>
   match op with
   | .eql=>match Wn T τ a b with|some c=>some (.bool c)|none=>none
   | .neq=>match Wn T τ a b with|some c=>some (.bool !c)|none=>none
   | _=>none
  | none=>none
def FZ (op:UnOp):D->Option D
 | .int k n=>match op with
  | .neg=>some (.int k (k.wrap (0-n)))
  | .xor=>some (.int k (B4 .xor k (if k.signed then -1 else k.max) n))
  | _=>none
 | .bool b=>match op with | .not=>some (.bool !b)|_=>none
 | _=>none
mutual
def fK:D->Bool
 | .int _ _ | .bool _ | .str _=>true
 | .agg xs | .tup xs=>n9 xs
 | _=>false
def n9:List D->Bool
 | []=>true
 | x::xs=>fK x&&n9 xs
end
def xN:D->Option Nat
 | .str s=>some s.size
 | .sl _ _ n _=>some n
 | .buf _ _ _ _ n=>some n
 | _=>none
def wK (f:Int->Int->Int) (k:IntKind):Int->List D->Option Int
 | x,[]=>some x
 | x,.int k' y::r=>if k=k' then wK f k (f x y) r else none
 | _,_=>none
def b8 (T:Nat->Option Ty) (h:Nat->Option Row) (e:Nat) (dst:Option Nat) (b:Builtin) (tys:List Nat) (args:List D):Option bu :=
 match b,tys,args with
 | .len,t::_,[x] =>
  if alive h x then
   match T t,xN x with
   | some τ,some n=>match τ.ds,x with
    | .str,.str _=>some ⟨.int .i64 n,[]⟩
    | .slice _,.sl _ _ _ _=>some ⟨.int .i64 n,[]⟩
    | .slice _,.buf _ _ _ _ _=>some ⟨.int .i64 n,[]⟩
    | _,_=>none
   | some τ,none=>match τ.ds,mapOf h x with
    | .map _ _,some (ks,_)=>some ⟨.int .i64 (ks.length:Nat),[]⟩
    | _,_=>none
   | _,_=>none
  else none
 | .append,[t,t'],[s,x] =>
  if t=t' then
   match T t,dst with
   | some τ,some d=>ik T τ h e d s x
   | _,_=>none
  else none
 | .max,_,.int k x::r=>match wK (fun x y=>if y>x then y else x) k x r with|some z=>some ⟨.int k z,[]⟩|none=>none
 | .min,_,.int k x::r=>match wK (fun x y=>if y<x then y else x) k x r with|some z=>some ⟨.int k z,[]⟩|none=>none
 | _,_,_=>none
def iE:D->Bool
 | .buf _ _ _ _ _ | .clo _ _ _ | .und | .skp | .box1 _ _ _ _ _=>false
 | _=>true
inductive RK where
 | clean (d:D)
 | same (s o n:Nat)
 | fresh (ty s n:Nat) (cells:List D)
structure Grow where
 ty:Nat
 k:Nat
 bytes:Nat
 sem:List D->List D->Option (List D)
def DQ (ty nv:Nat) (fz:Bool):Option D->Option Row
 | some (.nx n xs)=>some ⟨nv,ty,xs,fz,true,false⟩
 | _=>none
def HS (fz:Bool) (o:Nat):List D->Option Row
 | [.nr ty s nv cs]=>DQ ty nv fz (cs.drop o).head?
 | _=>none
def pf (r:Row) (o:Nat):Option Row:=if r.mp then HS r.fz o r.cells else none
def eu:D->Bool
 | .int _ _ | .bool _ | .str _ | .sl _ _ _ _=>true
 | _=>false
def oI (y s o:Nat):D->D
 | .nx n _ =>.ph (NK y o) s n
 | d=>if eu d then d else .und
theorem iS {y s o:Nat} {d:D} (h:eu d=true):oI y s o d=d:=by
 cases d<;>first|rfl|cases h
theorem oE {y s o x s' n:Nat} {d:D} (h:oI y s o d=.ph x s' n):∃xs,d=.nx n xs∧x=NK y o∧s'=s:=by
 cases d<;>simp[oI,eu]at h
 obtain⟨rfl,rfl,rfl⟩:=h
 exact⟨_,rfl,rfl,rfl⟩
theorem jW (y s o:Nat) (d:D):phC (oI y s o d)=true:=by
 cases d<;>rfl
def skL (y:Nat):List D->List D
 | [.nr ty s nv cs]=>cs.mapIdx (oI y s)
 | cs=>cs
def Bu (y:Nat) (r:Row):Row:=if r.mp then { r with cells:=skL y r.cells } else r
def ltB (a b:Nat):Decidable (a<b):=@Eq.rec Prop (¬b<=a) (fun p _=>Decidable p) instDecidableNot (a<b) (propext Nat.not_le)
def EH (h:Nat->Option Row) (k:Nat):Option Row:=@ite _ (k<2*PK) (ltB k (2*PK)) ((h k).map (Bu k)) ((h (k % PK)).bind fun r=>pf r (k / PK-2))
def rt (k:Nat):Nat:=if k<2*PK then k else k % PK
structure aeX where
 lnd:Nat->Option (Nat×(Nat->Nat->Nat->Nat->List D->List D->Option (D×List D))):=fun _=>none
 res:Nat->Option (List D->Option (Nat×Nat×Nat×Nat×Nat×List D)):=fun _=>none
structure Env where
 lends:Nat->Bool
 sem:Nat->Option (D×Row)->List D->Option (RK×Option Row)
 own:Nat->Bool
 hint:Nat->Option Nat:=fun _=>none
 ins:Nat->Option (Nat×Nat×Nat):=fun _=>none
 grw:Nat->Option Grow:=fun _=>none
 nst:Nat->Option (Nat×Nat×Nat):=fun _=>none
 nx:aeX:={}
def sQ (Γ:Env) (h:Nat->Option Row) (e:Nat) (dst:Option Nat) (g:Nat) (args:List D):Option bu :=
 match bn h args with
 | some (afM,fr) =>
  match Γ.sem g none afM with
  | some (.clean r,_)=>some ⟨r,if fK r then [] else gP h fr⟩
  | some (.fresh ty s n cells,_) =>
   match dst with
   | some d=>if fr.contains d=false then some ⟨.buf d e s 0 n,(if n9 cells then [] else gP h fr)++[(d,some ⟨e,ty,cells,false,true,false⟩)]⟩ else none
   | none=>none
  | _=>none
 | none=>none
def nQ (Γ:Env) (h:Nat->Option Row) (e:Nat) (dst:Option Nat) (g x v:Nat) (d0:D) (rest:List D):Option bu :=
 match xO d0 h x v with
 | some r =>
  if r.fz=false then
   match bn h rest with
   | some (afM,fr) =>
    if fr.contains x=false then
     match Γ.sem g (some (d0,{ r with v:=0 })) afM with
     | some (.clean c,some r1)=>some ⟨c,gP h fr++[(x,some { r1 with v:=v })]⟩
     | some (.same s o n,some r1)=>some ⟨.buf x v s o n,gP h fr++[(x,some { r1 with v:=v })]⟩
     | some (.fresh ty s n cells,none) =>
      match dst with
      | some d=>if fr.contains d=false then some ⟨.buf d e s 0 n,gP h fr++[(x,none),(d,some ⟨e,ty,cells,false,true,false⟩)]⟩ else none
      | none=>none
     | _=>none
    else none
   | none=>none
  else none
 | none=>none
def rY (h:Nat->Option Row) (p:Grow) (args:List D):Option bu :=
 match args with
 | .pm y v k::rest =>
  match kp h y v,h k with
  | some (ry,k',s,n),some r =>
   if k'=k∧k=PK+y∧y<PK∧ry.fz=false∧r.mp=false∧r.fz=false∧r.lst=true∧s=p.k∧r.ty=p.ty∧r.cells.length=n*p.k∧(n+1)*p.bytes<=140737488355328 then
    match p.sem r.cells rest with
    | some cs=>some ⟨.int .i64 (n:Int),[(k,some ⟨r.v,p.ty,r.cells++cs,false,true,false⟩),(y,some ⟨ry.v,ry.ty,[.ph k p.k (n+1)],false,false,true⟩)]⟩
    | none=>none
   else none
  | _,_=>none
 | _=>none
def rZ (h:Nat->Option Row) (e:Nat) (dst:Option Nat) (p:Nat×Nat×Nat) (args:List D):Option bu :=
 match args with
 | [.buf x v s o n,.int .i64 i,.buf y v' s' o' m] =>
  match live h x v,live h y v',dst with
  | some r,some r',some d =>
   if r.fz=false∧r'.fz=false∧r.lst=true∧r'.lst=true∧x≠y∧s=p.2.1∧s'=p.2.1∧r.ty=p.1∧r'.ty=p.1∧o=0∧o'=0∧r.cells.length=n*p.2.1∧r'.cells.length=m*p.2.1∧0<=i∧i<=n∧0<m∧(n+m)*p.2.2<=140737488355328 then
    some ⟨.buf d e p.2.1 0 (n+m),[(y,none),(x,none),(d,some ⟨e,p.1,r.cells.take (i.toNat*p.2.1)++(r'.cells++r.cells.drop (i.toNat*p.2.1)),false,true,false⟩)]⟩
   else none
  | _,_,_=>none
 | _=>none
def gB (Γ:Env) (h:Nat->Option Row) (e:Nat) (dst:Option Nat) (f:D) (args:List D):Option bu :=
 match f with
 | .fn g =>
  match Γ.ins g with
  | some p=>rZ h e dst p args
  | none =>
  match Γ.grw g with
  | some p=>rY h p args
  | none =>
  if Γ.lends g then
   match args with
   | .buf x v s o n::rest=>nQ Γ h e dst g x v (.buf 0 0 s o n) rest
   | .ptr x v o::rest=>nQ Γ h e dst g x v (.ptr 0 0 o) rest
   | .mp x v::rest=>nQ Γ h e dst g x v (.mp 0 0) rest
   | _=>none
  else sQ Γ h e dst g args
 | .clo g kk caps=>if caps.all iE then sQ Γ h e dst g (caps.take kk++(args++caps.drop kk)) else none
 | _=>none
def bG (T:Nat->Option Ty) (ty e:Nat) (dst:Option Nat) (h:Nat->Option Row) (x:D):Option bu :=
 match x with
 | .buf y v s o n =>
  match dst,live h y v with
  | some d,some r=>if r.fz then some ⟨.buf y v s o n,[]⟩ else some ⟨.buf d e s o n,[(y,none),(d,some { r with v:=e })]⟩
  | _,_=>if (ml h y v).isSome then some ⟨.buf y v s o n,[]⟩ else some ⟨.und,[]⟩
 | .sl true true 0 [] =>
  match dst,T ty with
  | some d,some τ =>
   match τ.ds with
   | .slice el=>match T el with|some φ=>some ⟨.buf d e φ.size 0 0,[(d,some ⟨e,el,[],false,true,false⟩)]⟩|none=>none
   | _=>none
  | _,_=>none
 | x=>some ⟨x,[]⟩
def nR (h:Nat->Option Row):D->Option (D×List Nat)
 | .agg xs=>some (.agg xs,[])
 | d=>cZ h d
def gF (h:Nat->Option Row) (x:D):Option bu :=
 match nR h x with
 | some (d',fr)=>some ⟨e8 d',gP h fr⟩
 | none=>none
def pH (T:Nat->Option Ty) (q:Nat->Bool) (ty e:Nat) (dst:Option Nat) (h:Nat->Option Row) (x:D):Option bu :=
 match dst with
 | some d=>if q d then bG T ty e (some d) h x else gF h x
 | none=>bG T ty e none h x
def ll (T:Nat->Option Ty) (Γ:Env) (e:Nat) (o:Oper) (vs:Operand->D) (h:Nat->Option Row):Option bu :=
 match o.op with
 | .move x=>some ⟨vs x,[]⟩
 | .assign x=>pH T Γ.own o.type e o.dst h (vs x)
 | .pick c a b=>match vs c with | .bool true=>some ⟨vs a,[]⟩ | .bool false=>some ⟨vs b,[]⟩|_=>none
 | .alloc ty=>match T ty,o.dst with
  | some τ,some d=>if (τ.zero.map lh).all aS then some ⟨match Γ.hint d with|some y =>.pm d e y|none =>.ptr d e 0,[(d,some ⟨e,ty,τ.zero.map lh,false,false,false⟩)]⟩ else none
  | _,_=>none
 | .box ty x=>match o.dst,dY h (vs x) with
  | some d,some (cs,fr)=>if fr.contains d=false then some ⟨.ptr d e 0,gP h fr++[(d,some ⟨e,ty,cs,false,false,false⟩)]⟩ else none
  | _,_=>none
 | .load ty p=>match T ty with|some τ=>mf τ h (vs p)|none=>none
 | .store ty p x=>match T ty with|some τ=>cJ τ h (vs p) (vs x)|none=>none
 | .nilCheck x=>iH h (vs x)
 | .fieldAddr ty x i=>match T ty with|some τ=>dD T τ h i (vs x)|none=>none
 | .field ty x i=>match T ty with|some τ=>kO T τ i (vs x)|none=>none
 | .indexAddr ty x i=>match T ty with|some τ=>bD T τ h (vs x) (vs i)|none=>none
 | .index ty x i=>match T ty with|some τ=>fC T τ (vs x) (vs i)|none=>none
 | .slice ty x lo hi mx=>match T ty with|some τ=>cv T τ h (vs x) (lo.map vs) (hi.map vs) (mx.map vs)|none=>none
 | .build ty parts=>match T ty with|some τ=>nS Γ.own T τ h o.dst (parts.toList.map fun p=>(p.1,vs p.2))|none=>none
 | .buildSlice ty len parts=>match T ty,o.dst with|some τ,some d=>dC T τ h e d len (parts.toList.map fun p=>(p.1,vs p.2))|_,_=>none
 | .makeSlice ty l c=>match T ty,o.dst with|some τ,some d=>oQ T τ e d (vs l) (vs c)|_,_=>none
 | .binOp op ty x y _=>match y4 T ty op (vs x) (vs y) with|some d=>some ⟨d,[]⟩|none=>none
 | .unOp op _ x=>match FZ op (vs x) with|some d=>some ⟨d,[]⟩|none=>none
 | .convert src dst x=>match T dst,T src,vs x with
  | some τ,some _,.int _ n=>(match τ.ds with | .int k=>some ⟨.int k (k.wrap n),[]⟩|_=>none)
  | _,_,_=>none
 | .makeFunc fn first caps=>match fn with | .func f=>if (first.toList.map vs++caps.toList.map vs).all iE then some ⟨.clo f first.size (first.toList.map vs++caps.toList.map vs),[]⟩ else none|_=>none
 | .makeMap ty none=>match T ty,o.dst with|some τ,some d=>lx T ty τ e d|_,_=>none
 | .lookup ty m i ok=>match T ty with|some τ=>fv T τ h (vs m) (vs i) ok|none=>none
 | .insert ty m i x=>match T ty with|some τ=>cj T τ h (vs m) (vs i) (vs x)|none=>none
 | .mapUpdate ty m i x=>match T ty with|some τ=>cj T τ h (vs m) (vs i) (vs x)|none=>none
 | .extract t i=>match vs t with | .tup xs=>(match xs[i]? with|some d=>some ⟨d,[]⟩|none=>none)|_=>none
 | .call c=>match c.callee with
  | .value f=>gB Γ h e o.dst (vs f) (c.args.toList.map vs)
  | .builtin b=>b8 T h e o.dst b c.argTypes.toList (c.args.toList.map vs)
  | _=>none
 | _=>none
def fI (o:Oper) (vs:Operand->D):List Nat :=
 match o.op with
 | .move _ | .pick _ _ _=>[]
 | .makeFunc _ _ _=>[]
 | op=>(op.operands.toList.flatMap fun x=>nm (vs x))++o.dst.toList
theorem aq {α:Type} (f:Nat->α) (i:Nat) (v:α):bB f i v i=v:=by simp[bB]
theorem au {α:Type} (f:Nat->α) {i j:Nat} (v:α) (h:j≠i):bB f i v j=f j:=by simp[bB,h]
theorem Z3 {α:Type} (f:Nat->α) {i j:Nat} (v u:α) (h:i≠j):bB (bB f i v) j u=bB (bB f j u) i v:=by
 funext k
 unfold bB
 split<;>split<;>simp_all
theorem RP.pg {w:World} {M:Nat->Prop} {d:D} {u:Value} (h:RP w M d u) (hp:aS d=true):u.oneCell'=true:=by
 cases h<;>simp_all [aS,Value.oneCell']
theorem RP.cells {w:World} {M:Nat->Prop} {d:D} {u:Value} (h:RP w M d u) (hp:aS d=true):u.cells = #[u]:=by
 cases h with
 | ali x v s o n u h1=>cases u<;>simp_all [Value.oneCell',Value.cells]
 | alm x v u h1=>cases u<;>simp_all [Value.oneCell',Value.cells]
 | _=>simp_all [aS,Value.cells]
theorem bq {w:World} {M:Nat->Prop} {h:Nat->Option Row} {blk:Nat->Option (Nat×Nat)} {V:Nat->Nat->Prop} {d:D} {u:Value} (hr:RP w M d u):RT w M h blk V d u:=by
 cases hr with
 | int k n=>exact .int k n
 | bool b=>exact .bool b
 | str s=>exact .str s
 | sl A c nl tight n xs us h1 h2 h3 h4 h5 h6 h7 h8=>exact .sl A c nl tight n xs us h1 h2 h3 h4 h5 h6 h7 h8
 | ip xs ad us h6 h7 h8=>exact .ip xs ad us h6 h7 h8
 | agg xs us h1 h2 h3=>exact .agg xs us h1 h2 h3
 | tup xs us h1 h2=>exact .tup xs us h1 h2
 | fn f=>exact .fn f
 | ali x v s o n u h1=>exact .ali x v s o n u h1
 | mpc ks vs mb us h1 h2 h3 h4=>exact .mpc ks vs mb us h1 h2 h3 h4
 | alm x v u h1=>exact .alm x v u h1
 | clo f kk xs us h1 h2 =>
  refine⟨us,rfl,h1,fun j x hj =>?_⟩
  have:=h2 j x hj
  cases x with
  | ptr x v o=>cases this
  | mp x v=>cases this
  | pm x v y=>cases this
  | _=>exact this
theorem Wy (w:World) (M:Nat->Prop) (h:Nat->Option Row) (blk:Nat->Option (Nat×Nat)) (V:Nat->Nat->Prop) (v:Value):RT w M h blk V (lh v) v:=by
 unfold lh
 split
 ·exact .int _ _
 ·exact .bool _
 ·exact .str _
 ·exact .sl none 0 true true 0 [] (fun _=>undef) (afR _) (afS _) (fun _=>⟨fun _=>⟨rfl,rfl⟩,fun h=>by cases h⟩) (fun _=>⟨rfl,rfl⟩) (fun _=>rfl) (fun h=>absurd rfl h) (fun j x hx=>by simp at hx) (fun x hx=>by simp at hx)
 ·exact .mpc [] [] none (fun _=>undef) rfl (fun _=>rfl) (fun b hb=>by cases hb) (fun j x hj=>by simp at hj)
 ·trivial
structure F4 (w w':World) (M M':Nat->Prop) (h h':Nat->Option Row) (blk blk':Nat->Option (Nat×Nat)) (V V':Nat->Nat->Prop):Prop where
 hk:∀b,b<w.heap.size->¬M b->b<w'.heap.size∧¬M' b∧w'.heap[b]? = w.heap[b]?
 hV:∀x v,V x v->V' x v
 hrow:∀x v,V x v->∀r',h' x=some r'->r'.v=v->(∃r,h x=some r∧r.v=v)∧blk' x=blk x∧∀g,blk x=some g->w'.shape? g.1=w.shape? g.1
theorem RC.mono {w w':World} {M M':Nat->Prop} {h h':Nat->Option Row} {blk blk':Nat->Option (Nat×Nat)} {V V':Nat->Nat->Prop} (k:F4 w w' M M' h h' blk blk' V V') {d:D} {u:Value}
  (hr:RC w M h blk V d u):RC w' M' h' blk' V' d u:=by
 cases d with
 | ptr x v o =>
  refine⟨k.hV _ _ hr.1,fun r' h1 h2 =>?_⟩
  obtain⟨⟨r,h3,h4⟩,h5,_⟩:=k.hrow x v hr.1 r' h1 h2
  rw[h5]
  exact hr.2 r h3 h4
 | mp x v =>
  refine⟨k.hV _ _ hr.1,fun r' h1 h2 =>?_⟩
  obtain⟨⟨r,h3,h4⟩,h5,_⟩:=k.hrow x v hr.1 r' h1 h2
  rw[h5]
  exact hr.2 r h3 h4
 | pm x v y =>
  refine⟨k.hV _ _ hr.1,fun r' h1 h2 =>?_⟩
  obtain⟨⟨r,h3,h4⟩,h5,_⟩:=k.hrow x v hr.1 r' h1 h2
  rw[h5]
  exact hr.2 r h3 h4
 | _=>exact RP.keep k.hk hr
theorem RT.mono {w w':World} {M M':Nat->Prop} {h h':Nat->Option Row} {blk blk':Nat->Option (Nat×Nat)} {V V':Nat->Nat->Prop} (k:F4 w w' M M' h h' blk blk' V V') {d:D} {u:Value}
  (hr:RT w M h blk V d u):RT w' M' h' blk' V' d u:=by
 cases d with
 | ptr x v o=>exact RC.mono (d := .ptr x v o) k hr
 | mp x v=>exact RC.mono (d := .mp x v) k hr
 | pm x v y=>exact RC.mono (d := .pm x v y) k hr
 | buf x v s o n =>
  refine⟨k.hV _ _ hr.1,fun r' h1 h2 =>?_⟩
  obtain⟨⟨r,h3,h4⟩,h5,h6⟩:=k.hrow x v hr.1 r' h1 h2
  rw[h5]
  rcases hr.2 r h3 h4 with⟨g,o',c,N,t,g0,g1,g2,g3,g4,g5⟩|hv
  ·exact .inl ⟨g,o',c,N,t,g0,g1,g2,g3,g4,(h6 g g0).trans g5⟩
  ·exact .inr hv
 | clo f kk xs =>
  obtain⟨us,h1,h2,h3⟩:=hr
  exact⟨us,h1,h2,fun j x hj=>(h3 j x hj).mono k⟩
 | box1 x v s o n =>
  obtain⟨u',hu,ho,hr⟩:=hr
  refine⟨u',hu,ho,k.hV _ _ hr.1,fun r' h1 h2 =>?_⟩
  obtain⟨⟨r,h3,h4⟩,h5,h6⟩:=k.hrow x v hr.1 r' h1 h2
  rw[h5]
  rcases hr.2 r h3 h4 with⟨g,o',c,N,t,g0,g1,g2,g3,g4,g5⟩|hv
  ·exact .inl ⟨g,o',c,N,t,g0,g1,g2,g3,g4,(h6 g g0).trans g5⟩
  ·exact .inr hv
 | und=>trivial
 | skp=>exact hr
 | _=>exact RP.keep k.hk hr
theorem ca {w w':World} {b:Nat} (h:w'.heap[b]? = w.heap[b]?):w'.shape? b=w.shape? b:=by simp[World.shape?,h]
theorem dK.refl (L:Nat->Prop) (w:World):dK L w w:=⟨rfl,rfl,rfl,afR _,fun _ _ _=>rfl⟩
theorem dK.trans {L L':Nat->Prop} {a b c:World} (h:dK L a b) (k:dK L' b c) (hl:∀x,L' x->x<a.heap.size->L x):dK L a c :=
 ⟨k.os.trans h.os,k.tape.trans h.tape,k.output.trans h.output,afT h.size k.size,fun i hi hn=>(k.block i (afU hi h.size) (fun hx=>hn (hl i hx hi))).trans (h.block i hi hn)⟩
theorem dK.yb {L:Nat->Prop} {w w':World} (h:Below w.heap.size w w'):dK L w w':=⟨h.os,h.tape,h.output,h.size,fun k hk _=>h.block k hk⟩
theorem dK.below {L:Nat->Prop} {w w':World} (h:dK L w w') (hl:∀b,¬L b):Below w.heap.size w w':=⟨h.os,h.tape,h.output,h.size,fun k hk=>h.block k hk (hl k)⟩
theorem Wt.keep {w w':World} {M M':Nat->Prop} {g:Nat×Nat} {r:Row} (h:Wt w M g r) (hb:w'.heap[g.1]? = w.heap[g.1]?) (hk:∀b,b<w.heap.size->¬M b->b<w'.heap.size∧¬M' b∧w'.heap[b]? = w.heap[b]?):Wt w' M' g r:=by
 obtain⟨cs,h1,h2,h3⟩:=h
 exact⟨cs,hb.trans h1,h2,fun j d hj=>⟨(h3 j d hj).1,(h3 j d hj).2.keep hk⟩⟩
theorem xb.keep {w w':World} {M M':Nat->Prop} {g:Nat×Nat} {r r':Row} (h:xb w M g r) (hc:r'.cells=r.cells) (ht:r'.ty=r.ty) (hb:w'.heap[g.1]? = w.heap[g.1]?) (hk:∀b,b<w.heap.size->¬M b->b<w'.heap.size∧¬M' b∧w'.heap[b]? = w.heap[b]?):xb w' M' g r':=by
 obtain⟨ks,vs,h1,h2,hA,hB⟩:=h
 refine⟨ks,vs,hc.trans h1,h2,fun q =>?_,fun q =>?_⟩
 ·obtain⟨ents,clock,h3,h4,hst,us,h5,h6⟩:=hA (ht ▸ q)
  exact⟨ents,clock,hb.trans h3,h4,hst,us,h5,fun j x hj=>(h6 j x hj).keep hk⟩
 ·rw[ht]
  obtain⟨hg2,b,ents,clock,seen,c,l,us,h3,h4,h5,h6,hst,k1,k2,k3,k4,k5,k6,k7,k8⟩:=hB (ht ▸ q)
  obtain⟨p1,p2,p3⟩:=hk b h4 h5
  exact⟨hg2,b,ents,clock,seen,c,l,us,hb.trans h3,p1,p2,p3.trans h6,hst,k1,k2,k3,k4,k5,k6,k7,fun j x hj=>(k8 j x hj).keep hk⟩
theorem BT.keep {w w':World} {M M':Nat->Prop} {d:D} {u:Value} (h:BT w M d u) (hk:∀b,b<w.heap.size->¬M b->b<w'.heap.size∧¬M' b∧w'.heap[b]? = w.heap[b]?):BT w' M' d u:=by
 cases d with
 | ph _ _ _=>trivial
 | und=>trivial
 | _=>exact RP.keep hk h
theorem BU.keep {w w':World} {M M':Nat->Prop} {g:Nat×Nat} {r r':Row} (h:BU w M g r) (hc:r'.cells=r.cells) (ht:r'.ty=r.ty) (hb:w'.heap[g.1]? = w.heap[g.1]?) (hk:∀b,b<w.heap.size->¬M b->b<w'.heap.size∧¬M' b∧w'.heap[b]? = w.heap[b]?):BU w' M' g r':=by
 obtain⟨h1,cs,h2,h3,h4⟩:=h
 exact⟨by rw[hc];exact h1,cs,by rw[ht];exact hb.trans h2,by rw[hc];exact h3,fun j d hj=>(h4 j d (by rw[<- hc];exact hj)).keep hk⟩
theorem dw.keep {w w':World} {M M':Nat->Prop} {g:Nat×Nat} {r r':Row} (h:dw w M g r) (hc:r'.cells=r.cells) (ht:r'.ty=r.ty) (hm:r'.mp=r.mp) (hb:w'.heap[g.1]? = w.heap[g.1]?) (hk:∀b,b<w.heap.size->¬M b->b<w'.heap.size∧¬M' b∧w'.heap[b]? = w.heap[b]?):dw w' M' g r':=by
 unfold dw at h ⊢
 rw[hm]
 cases hmp:r.mp with
 | true =>
  rw[hmp]at h
  rcases h with h|h
  ·exact .inl (xb.keep h hc ht hb hk)
  ·exact .inr (BU.keep h hc ht hb hk)
 | false =>
  rw[hmp]at h
  obtain⟨cs,h1,h2,h3⟩:=h
  refine⟨cs,by rw[ht];exact hb.trans h1,by rw[hc];exact h2,fun j d hj =>?_⟩
  rw[hc]at hj
  exact⟨(h3 j d hj).1,(h3 j d hj).2.keep hk⟩
theorem dw.heap {w:World} {M:Nat->Prop} {g:Nat×Nat} {r:Row} (h:dw w M g r):g.1<w.heap.size:=by
 unfold dw at h
 cases hmp:r.mp with
 | true =>
  rw[hmp]at h
  rcases h with⟨ks,vs,_,_,hA,hB⟩|⟨_,cs,h3,_⟩
  ·by_cases q:r.ty<900000
   ·obtain⟨ents,clock,h3,_⟩:=hA q
    exact (afV.1 h3).1
   ·obtain⟨_,b,ents,clock,seen,c,l,us,h3,_⟩:=hB (by omega)
    exact (afV.1 h3).1
  ·exact (afV.1 h3).1
 | false=>rw[hmp]at h;obtain⟨cs,h3,_⟩:=h;exact (afV.1 h3).1
theorem PhR.mono {w w':World} {h h':Nat->Option Row} {blk blk':Nat->Option (Nat×Nat)} {x s n:Nat} {u:Value} (k:PhR w h blk x s n u) (hr:∀r',h' x=some r'->(∃r,h x=some r)∧blk' x=blk x∧∀g,blk x=some g->w'.shape? g.1=w.shape? g.1):PhR w' h' blk' x s n u:=by
 intro r' hx
 obtain⟨⟨r,h1⟩,h2,h3⟩:=hr r' hx
 rw[h2]
 rcases k r h1 with⟨g,c,N',ty,g0,g1,g2,g3,g4,g5⟩|hv
 ·exact .inl ⟨g,c,N',ty,g0,g1,g2,g3,g4,(h3 g g0).trans g5⟩
 ·exact .inr hv
theorem Sc.keep {L:Nat->Prop} {w0 w w':World} {M M':Nat->Prop} {g:Option (Nat×Nat)} {r:Row} (h:Sc L w0 w M g r) (hb:∀b,g=some b->w'.heap[b.1]? = w.heap[b.1]?) (hk:∀b,b<w.heap.size->¬M b->b<w'.heap.size∧¬M' b∧w'.heap[b]? = w.heap[b]?):Sc L w0 w' M' g r:=by
 cases g with
 | none=>exact h
 | some g=>exact⟨h.1,h.2.keep rfl rfl rfl (hb g rfl) hk⟩
section
variable {N:Nat} {M:Nat->Prop} {L:iB} {w0:World} {blk:Nat->Option (Nat×Nat)} {V:Nat->Nat->Prop} {t:Nat->D} {h:Nat->Option Row} {a:Act} {w:World}
theorem Inv.ev (hI:Inv N M L w0 blk V t h a w) (x:Operand):RT w (Own M h blk) h blk V (ev t x) (a.eval x):=by
 cases x with
 | tmp i=>exact hI.slots i
 | const v=>exact Wy _ _ _ _ _ v
 | global g=>trivial
 | func f=>exact RP.fn f
theorem Inv.DB (hI:Inv N M L w0 blk V t h a w) {x:Nat} {r:Row} {g:Nat×Nat} (hx:h x=some r) (hg:blk x=some g) (hm:r.mp=false):Wt w (Own M h blk) g r:=by
 have:=(hI.rows x r hx).2
 rw[hg]at this
 have:=this.2
 unfold dw at this
 rw[hm]at this
 exact this
theorem Inv.rowIs (hI:Inv N M L w0 blk V t h a w) {x:Nat} {r:Row} {g:Nat×Nat} (hx:h x=some r) (hg:blk x=some g):dw w (Own M h blk) g r:=by
 have:=(hI.rows x r hx).2
 rw[hg]at this
 exact this.2
theorem Inv.base (hI:Inv N M L w0 blk V t h a w) {x:Nat} {r:Row} {g:Nat×Nat} (hx:h x=some r) (hg:blk x=some g):w0.heap.size<=g.1∨LB L g.1:=by
 have:=(hI.rows x r hx).2
 rw[hg]at this
 exact this.1
theorem Inv.lt (hI:Inv N M L w0 blk V t h a w) {x:Nat} {r:Row} {g:Nat×Nat} (hx:h x=some r) (hg:blk x=some g):g.1<w.heap.size:=by
 exact (hI.rowIs hx hg).heap
theorem Inv.wN (hI:Inv N M L w0 blk V t h a w) {b:Nat} (hb:Own M h blk b):b<w.heap.size:=by
 rcases hb with hb|⟨x,r,g,hx,_,hg,rfl⟩
 ·exact afU (hI.mlt b hb) hI.below.size
 ·exact hI.lt hx hg
theorem Inv.notM (hI:Inv N M L w0 blk V t h a w) {x:Nat} {r:Row} {g:Nat×Nat} (hx:h x=some r) (hg:blk x=some g):¬M g.1:=by
 rcases hI.base hx hg with h1|h1
 ·intro hm;have:=hI.mlt _ hm;omega
 ·exact hI.lent _ h1
theorem XW (tm:Array Value) (d i:Nat) (v:Value) (hd:d<tm.size):(tm.setIfInBounds d v).getD i undef=if i=d then v else tm.getD i undef:=by
 simp only[afW]
 by_cases h:i=d
 ·subst h;simp[hd]
 ·rw[Array.getElem?_setIfInBounds_ne (Ne.symm h)];simp[h]
theorem Inv.put (hI:Inv N M L w0 blk V t h a w) {d:Nat} (hd:d<N) {x:D} {v:Value} (hx:RT w (Own M h blk) h blk V x v):Inv N M L w0 blk V (bB t d x) h (a.put (some d) v) w where
 tab:=hI.tab
 below:=hI.below
 mlt:=hI.mlt
 lent:=hI.lent
 pin:=hI.pin
 defers:=hI.defers
 tsz:=by simp[Act.put,hI.tsz]
 slots i:=by
  simp only[Act.put]
  rw[XW _ _ _ _ (by rw[hI.tsz];exact hd)]
  by_cases hi:i=d
  ·subst hi;simpa [bB] using hx
  ·simpa [bB,hi] using hI.slots i
 rows:=hI.rows
 inj:=hI.inj
 ali:=hI.ali
 pha:=hI.pha
 big:=hI.big
theorem Inv.weaken (hI:Inv N M L w0 blk V t h a w) {V':Nat->Nat->Prop} (hV:∀x v,V x v->V' x v):Inv N M L w0 blk V' t h a w where
 tab:=hI.tab
 below:=hI.below
 mlt:=hI.mlt
 lent:=hI.lent
 pin go hg:=⟨hV _ _ (hI.pin go hg).1,(hI.pin go hg).2⟩
 defers:=hI.defers
 tsz:=hI.tsz
 slots i:=(hI.slots i).mono ⟨fun _ h1 h2=>⟨h1,h2,rfl⟩,hV,fun _ _ _ r' h1 h2=>⟨⟨r',h1,h2⟩,rfl,fun _ _=>rfl⟩⟩
 rows x r hx:=⟨fun hn=>hV _ _ ((hI.rows x r hx).1 hn),(hI.rows x r hx).2⟩
 pha:=hI.pha
 big:=hI.big
 inj:=hI.inj
 ali y r g hy hz hl hg j c d hj hd:=by
  obtain⟨u,h1,h2⟩:=hI.ali y r g hy hz hl hg j c d hj hd
  exact⟨u,h1,h2.mono ⟨fun _ h1 h2=>⟨h1,h2,rfl⟩,hV,fun _ _ _ r' h1 h2=>⟨⟨r',h1,h2⟩,rfl,fun _ _=>rfl⟩⟩⟩
theorem Inv.later (hI:Inv N M L w0 blk V t h a w) {w':World} (hb:Below w.heap.size w w'):Inv N M L w0 blk V t h a w' where
 tab:=hI.tab.keep fun b h1 h2=>⟨afU h1 hb.size,h2,hb.block b h1⟩
 below:=hI.below.trans (dK.yb (L:=LB L) hb) (fun _ h _=>h)
 mlt:=hI.mlt
 lent:=hI.lent
 pin go hg:=⟨(hI.pin go hg).1,fun r hr hv=>⟨((hI.pin go hg).2 r hr hv).1,fun g hgo=>by
  have h1:=(hI.pin go hg).2 r hr hv
  rw[<- h1.2 g hgo]
  exact ca (hb.block _ (hI.lt hr (h1.1.trans hgo)))⟩⟩
 defers:=hI.defers
 tsz:=hI.tsz
 slots i:=(hI.slots i).mono ⟨fun b h1 h2=>⟨afU h1 hb.size,h2,hb.block b h1⟩,fun _ _ h=>h,
  fun x v _ r' h1 h2=>⟨⟨r',h1,h2⟩,rfl,fun g hg=>ca (hb.block _ (hI.lt h1 hg))⟩⟩
 rows x r hx:=⟨(hI.rows x r hx).1,(hI.rows x r hx).2.keep (fun g hg=>hb.block _ (hI.lt hx hg)) (fun b k1 k2=>⟨afU k1 hb.size,k2,hb.block b k1⟩)⟩
 inj:=hI.inj
 big:=hI.big
 pha y r g hy hm hg j x s n hc:=by
  obtain⟨h0,u,h1,h2⟩:=hI.pha y r g hy hm hg j x s n hc
  exact⟨h0,u,(afN (a:=⟨g.1,g.2+j,none⟩) (hb.block _ (hI.lt hy hg))).trans h1,h2.mono fun r' k1=>⟨⟨r',k1⟩,rfl,fun g' hg'=>ca (hb.block _ (hI.lt k1 hg'))⟩⟩
 ali y r g hy hz hl hg j c d hj hd:=by
  obtain⟨u,h1,h2⟩:=hI.ali y r g hy hz hl hg j c d hj hd
  refine⟨u,(afN (a:=⟨g.1,g.2+j,none⟩) (hb.block _ (hI.lt hy hg))).trans h1,h2.mono ⟨fun b h1 h2=>⟨afU h1 hb.size,h2,hb.block b h1⟩,fun _ _ h=>h,
   fun x v _ r' h1 h2=>⟨⟨r',h1,h2⟩,rfl,fun g hg=>ca (hb.block _ (hI.lt h1 hg))⟩⟩⟩
theorem Inv.drew (hI:Inv N M L w0 blk V t h a w):Inv N M L w0 blk V t h a w.drew:=hI.later ((Below.refl _ _).drew)
theorem Fh (l l':List (Nat×Option Row)):∀h:Nat->Option Row,aH h (l++l')=aH (aH h l) l':=by
 induction l with
 | nil=>intro h;rfl
 | cons p l ih=>intro h;obtain⟨x,r⟩:=p;exact ih _
theorem fB (h:Nat->Option Row) (l:List (Nat×Option Row)) (x:Nat) (r:Option Row):aH h (l++[(x,r)])=bB (aH h l) x r:=by rw[Fh];rfl
theorem JN (r:Row):(pW r).fz=true:=by
 unfold pW
 split
 ·assumption
 ·rfl
theorem acn (r:Row):(pW r).v=r.v∧(pW r).ty=r.ty∧(pW r).cells=r.cells∧(pW r).mp=r.mp∧((pW r).lst=false->pW r=r):=by
 unfold pW
 split
 ·exact⟨rfl,rfl,rfl,rfl,fun _=>rfl⟩
 ·exact⟨rfl,rfl,rfl,rfl,fun h=>by cases h⟩
theorem PS (h:Nat->Option Row) (x:Nat):∀(fr:List Nat) (g:Nat->Option Row),(∀y,y∉fr->g y=h y∨g y=(h y).map pW) ->
  (x∈fr->aH g (gP h fr) x=(h x).map pW)∧(x∉fr->aH g (gP h fr) x=g x):=by
 intro fr
 induction fr with
 | nil=>intro g _;exact⟨fun hx=>by simp at hx,fun _=>rfl⟩
 | cons y fr ih =>
  intro g hg
  simp only[gP,afX,aH]
  have hg':∀z,z∉fr->(bB g y ((h y).map pW)) z=h z∨(bB g y ((h y).map pW)) z=(h z).map pW:=by
   intro z hz
   by_cases hzy:z=y
   ·subst hzy;right;simp[bB]
   ·simp only[bB,hzy,if_false]
    exact hg z (by simp[hzy,hz])
  obtain⟨i1,i2⟩:=ih _ hg'
  refine⟨fun hx =>?_,fun hx =>?_⟩
  ·by_cases hxf:x∈fr
   ·exact i1 hxf
   ·have:x=y:=by simpa [hxf] using hx
    subst this
    exact (i2 hxf).trans (by simp[bB])
  ·simp only[afY,not_or]at hx
   exact (i2 hx.2).trans (by simp[bB,hx.1])
theorem y9 (h:Nat->Option Row) (fr:List Nat) (x:Nat):aH h (gP h fr) x=if x∈fr then (h x).map pW else h x:=by
 have:=PS h x fr h (fun _ _ =>.inl rfl)
 by_cases hx:x∈fr
 ·simpa [hx] using this.1 hx
 ·simpa [hx] using this.2 hx
theorem Inv.freeze (hI:Inv N M L w0 blk V t h a w) (fr:List Nat):Inv N M L w0 blk V t (aH h (gP h fr)) a w:=by
 have hf:∀x r',aH h (gP h fr) x=some r'->∃r,h x=some r∧r'.v=r.v∧r'.ty=r.ty∧r'.cells=r.cells∧(r'.fz=false->r.fz=false)∧(r'.lst=false->r'=r)∧r'.mp=r.mp:=by
  intro x r' hx
  rw[y9]at hx
  split at hx
  ·cases hr:h x with
   | none=>simp[hr]at hx
   | some r =>
    simp only[hr,Option.map_some,af0]at hx
    subst hx
    obtain⟨k1,k2,k3,k4,k5⟩:=acn r
    exact⟨r,rfl,k1,k2,k3,(fun h=>by rw[JN]at h;cases h),k5,k4⟩
  ·exact⟨r',hx,rfl,rfl,rfl,id,(fun _=>rfl),rfl⟩
 have ho:∀b,¬Own M h blk b->¬Own M (aH h (gP h fr)) blk b:=by
  intro b hb hb'
  rcases hb' with hb'|⟨x,r',g,hx,hz,hg,rfl⟩
  ·exact hb (.inl hb')
  ·obtain⟨r,h1,_,_,_,h5,_⟩:=hf x r' hx
   exact hb (.inr ⟨x,r,g,h1,h5 hz,hg,rfl⟩)
 exact {
  tab:=hI.tab.keep fun b h1 h2=>⟨h1,ho b h2,rfl⟩
  below:=hI.below
  mlt:=hI.mlt
  lent:=hI.lent
  pin:=fun go hg=>⟨(hI.pin go hg).1,fun r' hr hv=>by
   obtain⟨r,g1,g2,_⟩:=hf 0 r' hr
   exact (hI.pin go hg).2 r g1 (by omega)⟩
  defers:=hI.defers
  tsz:=hI.tsz
  slots:=fun i=>(hI.slots i).mono ⟨fun b h1 h2=>⟨h1,ho b h2,rfl⟩,fun _ _ h=>h,fun x v _ r' h1 h2=>by
   obtain⟨r,g1,g2,_⟩:=hf x r' h1
   exact⟨⟨r,g1,by omega⟩,rfl,fun _ _=>rfl⟩⟩
  rows:=fun x r' hx=>by
   obtain⟨r,g1,g2,g3,g4,_,_,g7⟩:=hf x r' hx
   obtain⟨h1,h2⟩:=hI.rows x r g1
   rw[g2]
   refine⟨h1,?_⟩
   cases hb:blk x with
   | none=>rw[hb]at h2;exact g4.trans h2
   | some g =>
    rw[hb]at h2
    exact⟨h2.1,h2.2.keep g4 g3 g7 rfl fun b k1 k2=>⟨k1,ho b k2,rfl⟩⟩
  inj:=fun x y r s g g' hx hy hg hg' he=>by
   obtain⟨r',g1,_⟩:=hf x r hx
   obtain⟨s',g2,_⟩:=hf y s hy
   exact hI.inj x y r' s' g g' g1 g2 hg hg' he
  big:=hI.big
  pha:=fun y r' g hy hm hg j x s n hc=>by
   obtain⟨r,g1,_,_,g4,_,_,g7⟩:=hf y r' hy
   obtain⟨h0,u,h1,h2⟩:=hI.pha y r g g1 (g7.symm.trans hm) hg j x s n (by rw[<- g4];exact hc)
   exact⟨h0,u,h1,h2.mono fun r'' k1=>by
    obtain⟨r2,q1,_⟩:=hf x r'' k1
    exact⟨⟨r2,q1⟩,rfl,fun _ _=>rfl⟩⟩
  ali:=fun y r' g hy hz hl hg j c d' hj hd'=>by
   obtain⟨r,g1,_,_,_,_,g6,_⟩:=hf y r' hy
   obtain rfl:=g6 hl
   obtain⟨u,h1,h2⟩:=hI.ali y r' g g1 hz hl hg j c d' hj hd'
   exact⟨u,h1,h2.mono ⟨fun b h1 h2=>⟨h1,ho b h2,rfl⟩,fun _ _ h=>h,fun x v _ r' h1 h2=>by
    obtain⟨r,g1,g2,_⟩:=hf x r' h1
    exact⟨⟨r,g1,by omega⟩,rfl,fun _ _=>rfl⟩⟩⟩ }
def forget (h:Nat->Option Row):Option Nat->Nat->Option Row
 | some y=>bB h y none
 | none=>h
theorem Inv.BZ (hI:Inv N M L w0 blk V t h a w) {w':World} {h1:Nat->Option Row} {old:Option Nat} {d e:Nat} {r0:Row} {go:Option (Nat×Nat)}
  (hos:w'.os=w.os) (htape:w'.tape=w.tape) (hout:w'.output=w.output) (hsize:w.heap.size<=w'.heap.size)
  (hblock:∀k,k<w.heap.size->(∀y g,old=some y->blk y=some g->k≠g.1)->w'.heap[k]? = w.heap[k]?)
  (hold:∀y,old=some y->∃r,h y=some r∧r.fz=false) (hh1:h1=forget h old) (hV:hX N V d e)
  (hnew:match go with
   | some g=>(w.heap.size<=g.1∨∃y g0,old=some y∧blk y=some g0∧g.1=g0.1)∧dw w' (fun b=>Own M h1 blk b∨b=g.1) g r0
   | none=>r0.cells=[]) (hfz:r0.fz=false) (hve:r0.v=e) (hnp:r0.mp=true->∀g,go=some g->∀j x s n:Nat,r0.cells[j]? = some (D.ph x s n)->PN d j x∧∃u,w'.cell? ⟨g.1,g.2+j,none⟩=some u∧PhR w' (bB h1 d (some r0)) (bB blk d go) x s n u:=by (intro h;cases h)) :
  Inv N M L w0 (bB blk d go) (fun x v=>V x v∨(x=d∧v=e)) t (bB h1 d (some r0)) a w':=by
 have hf:∀x r,h1 x=some r->h x=some r∧∀y,old=some y->x≠y:=by
  intro x r hx
  cases old with
  | none=>subst hh1;exact⟨hx,fun y hy=>by cases hy⟩
  | some y =>
   subst hh1
   simp only[forget]at hx
   by_cases hxy:x=y
   ·subst hxy;simp[bB]at hx
   ·rw[au _ _ hxy]at hx
    exact⟨hx,fun z hz=>by cases hz;exact hxy⟩
 have hne:∀x r g,h1 x=some r->blk x=some g->∀y g0,old=some y->blk y=some g0->g.1≠g0.1:=by
  intro x r g hx hg y g0 hy hg0 he
  obtain⟨s,hs,_⟩:=hold y hy
  exact (hf x r hx).2 y hy (hI.inj x y r s g g0 (hf x r hx).1 hs hg hg0 he)
 have hgn:∀x r g g2,h1 x=some r->blk x=some g->go=some g2->g.1≠g2.1:=by
  intro x r g g2 hx hg hg2 he
  subst hg2
  rcases hnew.1 with hn|⟨y,g0,hy,hg0,hgy⟩
  ·have:=hI.lt (hf x r hx).1 hg;omega
  ·exact hne x r g hx hg y g0 hy hg0 (he.trans hgy)
 have hkeep:∀b,b<w.heap.size->¬Own M h blk b->w'.heap[b]? = w.heap[b]?:=by
  intro b hb hn
  refine hblock b hb fun y g hy hg he =>?_
  obtain⟨s,hs,hz⟩:=hold y hy
  exact hn (.inr ⟨y,s,g,hs,hz,hg,he.symm⟩)
 have hown:∀b,b<w.heap.size->¬Own M h blk b->¬Own M (bB h1 d (some r0)) (bB blk d go) b:=by
  intro b hb hn hb'
  rcases hb' with hb'|⟨x,r,g,hx,hz,hg,he⟩
  ·exact hn (.inl hb')
  ·by_cases hxd:x=d
   ·subst hxd
    rw[aq]at hg
    subst hg
    rcases hnew.1 with hn'|⟨y,g0,hy,hg0,hgy⟩
    ·omega
    ·obtain⟨s,hs,hz'⟩:=hold y hy
     exact hn (.inr ⟨y,s,g0,hs,hz',hg0,by rw[<- hgy,he]⟩)
   ·rw[au _ _ hxd]at hx hg
    exact hn (.inr ⟨x,r,g,(hf x r hx).1,hz,hg,he⟩)
 have hk:∀b,b<w.heap.size->¬Own M h blk b->b<w'.heap.size∧¬Own M (bB h1 d (some r0)) (bB blk d go) b∧w'.heap[b]? = w.heap[b]? :=
  fun b h1 h2=>⟨by omega,hown b h1 h2,hkeep b h1 h2⟩
 have hrowsame:∀x r g,h1 x=some r->blk x=some g->w'.heap[g.1]? = w.heap[g.1]?:=fun x r g hx hg=>hblock _ (hI.lt (hf x r hx).1 hg) (fun y g0 hy hg0=>hne x r g hx hg y g0 hy hg0)
 exact {
  tab:=hI.tab.keep hk
  below:=hI.below.trans (L':=fun k=>∃y g,old=some y∧blk y=some g∧k=g.1) ⟨hos,htape,hout,hsize,fun k hk' hn=>hblock k hk' (fun y g hy hg he=>hn ⟨y,g,hy,hg,he⟩)⟩ (fun k ⟨y,g,hy,hg,he⟩ hlt=>by
   obtain⟨s,hs,_⟩:=hold y hy
   rcases hI.base hs hg with hb|hb
   ·omega
   ·rw[he];exact hb)
  mlt:=hI.mlt
  lent:=hI.lent
  pin:=fun go' hg=>⟨.inl (hI.pin go' hg).1,fun r hr hv=>by
   by_cases hxd:0=d
   ·subst hxd
    rw[aq]at hr
    simp only[af0]at hr
    subst hr
    rw[hve]at hv
    subst hv
    exact absurd (hI.pin go' hg).1 hV.no
   ·rw[au _ _ hxd]at hr
    rw[au _ _ hxd]
    obtain⟨k1,k2⟩:=(hI.pin go' hg).2 r (hf 0 r hr).1 hv
    exact⟨k1,fun g hgo=>(ca (hrowsame 0 r g hr (k1.trans hgo))).trans (k2 g hgo)⟩⟩
  defers:=hI.defers
  tsz:=hI.tsz
  slots:=fun i=>(hI.slots i).mono ⟨hk,fun _ _ h =>.inl h,fun x v hv r' g1 g2=>by
   by_cases hxd:x=d
   ·subst hxd
    rw[aq]at g1
    simp only[af0]at g1
    subst g1
    rw[hve]at g2
    subst g2
    exact absurd hv hV.no
   ·rw[au _ _ hxd]at g1
    exact⟨⟨r',(hf x r' g1).1,g2⟩,au _ _ hxd,fun g hg=>ca (hrowsame x r' g g1 hg)⟩⟩
  rows:=fun x r hx=>by
   by_cases hxd:x=d
   ·subst hxd
    rw[aq]at hx
    simp only[af0]at hx
    subst hx
    rw[aq]
    refine⟨fun _ =>.inr ⟨rfl,hve⟩,?_⟩
    cases go with
    | none=>exact hnew
    | some g =>
     obtain⟨n1,n2⟩:=hnew
     refine⟨?_,n2.keep rfl rfl rfl rfl fun b q1 q2=>⟨q1,fun hb=>q2 ?_,rfl⟩⟩
     rotate_left
     ·rcases hb with hb|⟨x',r,g',hx,hz,hg,he⟩
      ·exact .inl (.inl hb)
      ·by_cases hxd:x'=x
       ·subst hxd
        rw[aq]at hg
        cases hg
        exact .inr he.symm
       ·rw[au _ _ hxd]at hx hg
        exact .inl (.inr ⟨x',r,g',hx,hz,hg,he⟩)
     rcases n1 with hg|⟨y,g0,hy,hg0,hgy⟩
     ·exact .inl (afT hI.below.size hg)
     ·obtain⟨s,hs,_⟩:=hold y hy
      rw[hgy];exact hI.base hs hg0
   ·rw[au _ _ hxd]at hx
    rw[au _ _ hxd]
    exact⟨fun hn =>.inl ((hI.rows x r (hf x r hx).1).1 hn),(hI.rows x r (hf x r hx).1).2.keep (fun g hg=>hrowsame x r g hx hg) hk⟩
  inj:=fun x y r s g g' hx hy hg hg' he=>by
   by_cases hxd:x=d
   ·by_cases hyd:y=d
    ·rw[hxd,hyd]
    ·subst hxd
     rw[au _ _ hyd]at hy hg'
     rw[aq]at hg
     exact absurd he.symm (hgn y s g' g hy hg' hg)
   ·by_cases hyd:y=d
    ·subst hyd
     rw[au _ _ hxd]at hx hg
     rw[aq]at hg'
     exact absurd he (hgn x r g g' hx hg hg')
    ·rw[au _ _ hxd]at hx hg
     rw[au _ _ hyd]at hy hg'
     exact hI.inj x y r s g g' (hf x r hx).1 (hf y s hy).1 hg hg' he
  big:=hI.big
  pha:=fun y r g hy hm hg j x s n hc=>by
   by_cases hyd:y=d
   ·subst hyd
    rw[aq]at hy
    simp only[af0]at hy
    subst hy
    rw[aq]at hg
    exact hnp hm g hg j x s n hc
   ·rw[au _ _ hyd]at hy hg
    obtain⟨h0,u,k1,k2⟩:=hI.pha y r g (hf y r hy).1 hm hg j x s n hc
    have hlt:=hV.lt
    have hbig:=hI.big
    have hpk:PK=1000000:=rfl
    have hxd:x≠d:=by simp only[PN,NK]at h0;rw[hpk]at h0 hbig;omega
    exact⟨h0,u,(afN (a:=⟨g.1,g.2+j,none⟩) (hrowsame y r g hy hg)).trans k1,k2.mono fun r' g1=>by
     rw[au _ _ hxd]at g1
     exact⟨⟨r',(hf x r' g1).1⟩,au _ _ hxd,fun g' hg'=>ca (hrowsame x r' g' g1 hg')⟩⟩
  ali:=fun y r g hy hz hl hg j c d' hj hd'=>by
   by_cases hyd:y=d
   ·subst hyd
    rw[aq]at hy
    simp only[af0]at hy
    subst hy
    rw[hfz]at hz
    cases hz
   ·rw[au _ _ hyd]at hy hg
    obtain⟨u,h1,h2⟩:=hI.ali y r g (hf y r hy).1 hz hl hg j c d' hj hd'
    exact⟨u,(afN (a:=⟨g.1,g.2+j,none⟩) (hrowsame y r g hy hg)).trans h1,h2.mono ⟨hk,fun _ _ h =>.inl h,fun x v hv r' g1 g2=>by
     by_cases hxd:x=d
     ·subst hxd
      rw[aq]at g1
      simp only[af0]at g1
      subst g1
      rw[hve]at g2
      subst g2
      exact absurd hv hV.no
     ·rw[au _ _ hxd]at g1
      exact⟨⟨r',(hf x r' g1).1,g2⟩,au _ _ hxd,fun g hg=>ca (hrowsame x r' g g1 hg)⟩⟩⟩ }
theorem Inv.WD (hI:Inv N M L w0 blk V t h a w) {w':World} {h1:Nat->Option Row} {old:Option Nat} {d:Nat} {r0:Row} {go:Option (Nat×Nat)}
  (hos:w'.os=w.os) (htape:w'.tape=w.tape) (hout:w'.output=w.output) (hsize:w.heap.size<=w'.heap.size)
  (hblock:∀k,k<w.heap.size->(∀y g,old=some y->blk y=some g->k≠g.1)->w'.heap[k]? = w.heap[k]?)
  (hold:∀y,old=some y->∃r,h y=some r∧r.fz=false) (hh1:h1=forget h old) (hdN:N<=d) (hd0:d≠0) (hVd:¬V d r0.v) (hno:∀(y:Nat) (r:Row) (j s n:Nat),h1 y=some r->r.mp=true->r.cells[j]? = some (D.ph d s n)->False)
  (hnew:match go with
   | some g=>(w.heap.size<=g.1∨∃y g0,old=some y∧blk y=some g0∧g.1=g0.1)∧dw w' (fun b=>Own M h1 blk b∨b=g.1) g r0
   | none=>r0.cells=[]) (hfz:r0.fz=false) (hnp:r0.mp=true->∀j x s n:Nat,r0.cells[j]?≠some (D.ph x s n):=by (intro h;cases h)) :
  Inv N M L w0 (bB blk d go) V t (bB h1 d (some r0)) a w':=by
 have hbig:=hI.big
 have hpk:PK=1000000:=rfl
 have hf:∀x r,h1 x=some r->h x=some r∧∀y,old=some y->x≠y:=by
  intro x r hx
  cases old with
  | none=>subst hh1;exact⟨hx,fun y hy=>by cases hy⟩
  | some y =>
   subst hh1
   simp only[forget]at hx
   by_cases hxy:x=y
   ·subst hxy;simp[bB]at hx
   ·rw[au _ _ hxy]at hx
    exact⟨hx,fun z hz=>by cases hz;exact hxy⟩
 have hne:∀x r g,h1 x=some r->blk x=some g->∀y g0,old=some y->blk y=some g0->g.1≠g0.1:=by
  intro x r g hx hg y g0 hy hg0 he
  obtain⟨s,hs,_⟩:=hold y hy
  exact (hf x r hx).2 y hy (hI.inj x y r s g g0 (hf x r hx).1 hs hg hg0 he)
 have hgn:∀x r g g2,h1 x=some r->blk x=some g->go=some g2->g.1≠g2.1:=by
  intro x r g g2 hx hg hg2 he
  subst hg2
  rcases hnew.1 with hn|⟨y,g0,hy,hg0,hgy⟩
  ·have:=hI.lt (hf x r hx).1 hg;omega
  ·exact hne x r g hx hg y g0 hy hg0 (he.trans hgy)
 have hkeep:∀b,b<w.heap.size->¬Own M h blk b->w'.heap[b]? = w.heap[b]?:=by
  intro b hb hn
  refine hblock b hb fun y g hy hg he =>?_
  obtain⟨s,hs,hz⟩:=hold y hy
  exact hn (.inr ⟨y,s,g,hs,hz,hg,he.symm⟩)
 have hown:∀b,b<w.heap.size->¬Own M h blk b->¬Own M (bB h1 d (some r0)) (bB blk d go) b:=by
  intro b hb hn hb'
  rcases hb' with hb'|⟨x,r,g,hx,hz,hg,he⟩
  ·exact hn (.inl hb')
  ·by_cases hxd:x=d
   ·subst hxd
    rw[aq]at hg
    subst hg
    rcases hnew.1 with hn'|⟨y,g0,hy,hg0,hgy⟩
    ·omega
    ·obtain⟨s,hs,hz'⟩:=hold y hy
     exact hn (.inr ⟨y,s,g0,hs,hz',hg0,by rw[<- hgy,he]⟩)
   ·rw[au _ _ hxd]at hx hg
    exact hn (.inr ⟨x,r,g,(hf x r hx).1,hz,hg,he⟩)
 have hk:∀b,b<w.heap.size->¬Own M h blk b->b<w'.heap.size∧¬Own M (bB h1 d (some r0)) (bB blk d go) b∧w'.heap[b]? = w.heap[b]? :=
  fun b h1 h2=>⟨by omega,hown b h1 h2,hkeep b h1 h2⟩
 have hrowsame:∀x r g,h1 x=some r->blk x=some g->w'.heap[g.1]? = w.heap[g.1]?:=fun x r g hx hg=>hblock _ (hI.lt (hf x r hx).1 hg) (fun y g0 hy hg0=>hne x r g hx hg y g0 hy hg0)
 exact {
  tab:=hI.tab.keep hk
  below:=hI.below.trans (L':=fun k=>∃y g,old=some y∧blk y=some g∧k=g.1) ⟨hos,htape,hout,hsize,fun k hk' hn=>hblock k hk' (fun y g hy hg he=>hn ⟨y,g,hy,hg,he⟩)⟩ (fun k ⟨y,g,hy,hg,he⟩ hlt=>by
   obtain⟨s,hs,_⟩:=hold y hy
   rcases hI.base hs hg with hb|hb
   ·omega
   ·rw[he];exact hb)
  mlt:=hI.mlt
  lent:=hI.lent
  pin:=fun go' hg=>⟨(hI.pin go' hg).1,fun r hr hv=>by
   by_cases hxd:0=d
   ·exact absurd hxd.symm hd0
   ·rw[au _ _ hxd]at hr
    rw[au _ _ hxd]
    obtain⟨k1,k2⟩:=(hI.pin go' hg).2 r (hf 0 r hr).1 hv
    exact⟨k1,fun g hgo=>(ca (hrowsame 0 r g hr (k1.trans hgo))).trans (k2 g hgo)⟩⟩
  defers:=hI.defers
  tsz:=hI.tsz
  slots:=fun i=>(hI.slots i).mono ⟨hk,fun _ _ h=>h,fun x v hv r' g1 g2=>by
   by_cases hxd:x=d
   ·subst hxd
    rw[aq]at g1
    simp only[af0]at g1
    subst g1
    subst g2
    exact absurd hv hVd
   ·rw[au _ _ hxd]at g1
    exact⟨⟨r',(hf x r' g1).1,g2⟩,au _ _ hxd,fun g hg=>ca (hrowsame x r' g g1 hg)⟩⟩
  rows:=fun x r hx=>by
   by_cases hxd:x=d
   ·subst hxd
    rw[aq]at hx
    simp only[af0]at hx
    subst hx
    rw[aq]
    refine⟨fun hn=>by omega,?_⟩
    cases go with
    | none=>exact hnew
    | some g =>
     obtain⟨n1,n2⟩:=hnew
     refine⟨?_,n2.keep rfl rfl rfl rfl fun b q1 q2=>⟨q1,fun hb=>q2 ?_,rfl⟩⟩
     rotate_left
     ·rcases hb with hb|⟨x',r,g',hx,hz,hg,he⟩
      ·exact .inl (.inl hb)
      ·by_cases hxd:x'=x
       ·subst hxd
        rw[aq]at hg
        cases hg
        exact .inr he.symm
       ·rw[au _ _ hxd]at hx hg
        exact .inl (.inr ⟨x',r,g',hx,hz,hg,he⟩)
     rcases n1 with hg|⟨y,g0,hy,hg0,hgy⟩
     ·exact .inl (afT hI.below.size hg)
     ·obtain⟨s,hs,_⟩:=hold y hy
      rw[hgy];exact hI.base hs hg0
   ·rw[au _ _ hxd]at hx
    rw[au _ _ hxd]
    exact⟨fun hn=>(hI.rows x r (hf x r hx).1).1 hn,(hI.rows x r (hf x r hx).1).2.keep (fun g hg=>hrowsame x r g hx hg) hk⟩
  inj:=fun x y r s g g' hx hy hg hg' he=>by
   by_cases hxd:x=d
   ·by_cases hyd:y=d
    ·rw[hxd,hyd]
    ·subst hxd
     rw[au _ _ hyd]at hy hg'
     rw[aq]at hg
     exact absurd he.symm (hgn y s g' g hy hg' hg)
   ·by_cases hyd:y=d
    ·subst hyd
     rw[au _ _ hxd]at hx hg
     rw[aq]at hg'
     exact absurd he (hgn x r g g' hx hg hg')
    ·rw[au _ _ hxd]at hx hg
     rw[au _ _ hyd]at hy hg'
     exact hI.inj x y r s g g' (hf x r hx).1 (hf y s hy).1 hg hg' he
  big:=hI.big
  pha:=fun y r g hy hm hg j x s n hc=>by
   by_cases hyd:y=d
   ·subst hyd
    rw[aq]at hy
    simp only[af0]at hy
    subst hy
    exact absurd hc (hnp hm j x s n)
   ·rw[au _ _ hyd]at hy hg
    obtain⟨h0,u,k1,k2⟩:=hI.pha y r g (hf y r hy).1 hm hg j x s n hc
    have hxd:x≠d:=by
     intro e
     subst e
     exact hno y r j s n hy hm hc
    exact⟨h0,u,(afN (a:=⟨g.1,g.2+j,none⟩) (hrowsame y r g hy hg)).trans k1,k2.mono fun r' g1=>by
     rw[au _ _ hxd]at g1
     exact⟨⟨r',(hf x r' g1).1⟩,au _ _ hxd,fun g' hg'=>ca (hrowsame x r' g' g1 hg')⟩⟩
  ali:=fun y r g hy hz hl hg j c d' hj hd'=>by
   by_cases hyd:y=d
   ·subst hyd
    rw[aq]at hy
    simp only[af0]at hy
    subst hy
    rw[hfz]at hz
    cases hz
   ·rw[au _ _ hyd]at hy hg
    obtain⟨u,h1,h2⟩:=hI.ali y r g (hf y r hy).1 hz hl hg j c d' hj hd'
    exact⟨u,(afN (a:=⟨g.1,g.2+j,none⟩) (hrowsame y r g hy hg)).trans h1,h2.mono ⟨hk,fun _ _ h=>h,fun x v hv r' g1 g2=>by
     by_cases hxd:x=d
     ·subst hxd
      rw[aq]at g1
      simp only[af0]at g1
      subst g1
      subst g2
      exact absurd hv hVd
     ·rw[au _ _ hxd]at g1
      exact⟨⟨r',(hf x r' g1).1,g2⟩,au _ _ hxd,fun g hg=>ca (hrowsame x r' g g1 hg)⟩⟩⟩ }
theorem Inv.WE (hI:Inv N M L w0 blk V t h a w) {w':World} {h1:Nat->Option Row} {old:Option Nat} {d:Nat} {r0:Row} {go:Option (Nat×Nat)}
  (hos:w'.os=w.os) (htape:w'.tape=w.tape) (hout:w'.output=w.output) (hsize:w.heap.size<=w'.heap.size)
  (hblock:∀k,k<w.heap.size->(∀y g,old=some y->blk y=some g->k≠g.1)->w'.heap[k]? = w.heap[k]?)
  (hold:∀y,old=some y->∃r,h y=some r∧r.fz=false) (hh1:h1=forget h old) {y0:Nat} (hde:d=PK+y0) (hy0N:y0<N) (hVd:∀v,¬V d v) (hy0:∀r,h1 y0=some r->r.mp=false)
  (hnew:match go with
   | some g=>(w.heap.size<=g.1∨∃y g0,old=some y∧blk y=some g0∧g.1=g0.1)∧dw w' (fun b=>Own M h1 blk b∨b=g.1) g r0
   | none=>r0.cells=[]) (hfz:r0.fz=false) (hnp:r0.mp=true->∀j x s n:Nat,r0.cells[j]?≠some (D.ph x s n):=by (intro h;cases h)) :
  Inv N M L w0 (bB blk d go) V t (bB h1 d (some r0)) a w':=by
 have hpk:PK=1000000:=rfl
 have hbig:=hI.big
 refine hI.WD hos htape hout hsize hblock hold hh1 (by omega) (by omega) (hVd _) (fun y r j s n hy hm hc =>?_) hnew hfz hnp
 have hyh:h y=some r:=by
  cases old with
  | none=>subst hh1;exact hy
  | some z =>
   subst hh1
   simp only[forget]at hy
   by_cases hyz:y=z
   ·subst hyz;rw[aq]at hy;cases hy
   ·rwa [au _ _ hyz]at hy
 have hrow:=(hI.rows y r hyh).2
 cases hb:blk y with
 | none =>
  rw[hb]at hrow
  rw[show r.cells=[] from hrow]at hc
  cases hc
 | some g =>
  have h0:=(hI.pha y r g hyh hm hb j _ s n hc).1
  have:y=y0:=by simp only[PN,NK]at h0;rw[hpk]at h0 hde hbig;omega
  subst this
  rw[hy0 r hy]at hm
  cases hm
theorem Inv.PQ (hI:Inv N M L w0 blk V t h a w) {w':World} {h1:Nat->Option Row} {old:Option Nat} {d e ty:Nat} {lst fz:Bool} {go:Option (Nat×Nat)} {cs:List D}
  (hos:w'.os=w.os) (htape:w'.tape=w.tape) (hout:w'.output=w.output) (hsize:w.heap.size<=w'.heap.size)
  (hblock:∀k,k<w.heap.size->(∀y g,old=some y->blk y=some g->k≠g.1)->w'.heap[k]? = w.heap[k]?)
  (hold:∀y,old=some y->∃r,h y=some r∧r.fz=false) (hh1:h1=forget h old) (hV:hX N V d e)
  (hnew:match go with
   | some g=>(w.heap.size<=g.1∨∃y g0,old=some y∧blk y=some g0∧g.1=g0.1)∧∃vs:Array Value,w'.heap[g.1]? = some (.cells vs ty (0,0))∧g.2+cs.length<=vs.size∧∀j x,cs[j]? = some x->aS x=true∧RP w' (fun b=>Own M h1 blk b∨b=g.1) x (vs.getD (g.2+j) undef)
   | none=>cs=[]) (hfz:fz=false:=by rfl) :
  Inv N M L w0 (bB blk d go) (fun x v=>V x v∨(x=d∧v=e)) t (bB h1 d (some ⟨e,ty,cs,fz,lst,false⟩)) a w':=by
 refine hI.BZ (r0:=⟨e,ty,cs,fz,lst,false⟩) hos htape hout hsize hblock hold hh1 hV ?_ hfz rfl
 cases go with
 | none=>exact hnew
 | some g=>exact hnew
theorem Inv.WC (hI:Inv N M L w0 blk V t h a w) {w':World} {h1:Nat->Option Row} {old:Option Nat} {d e ty:Nat} {lst fz:Bool} {go:Option (Nat×Nat)} {cs:List D}
  (hos:w'.os=w.os) (htape:w'.tape=w.tape) (hout:w'.output=w.output) (hsize:w.heap.size<=w'.heap.size)
  (hblock:∀k,k<w.heap.size->(∀y g,old=some y->blk y=some g->k≠g.1)->w'.heap[k]? = w.heap[k]?)
  (hold:∀y,old=some y->∃r,h y=some r∧r.fz=false) (hh1:h1=forget h old) (hV:hX N V d e)
  (hnew:match go with
   | some g=>(w.heap.size<=g.1∨∃y g0,old=some y∧blk y=some g0∧g.1=g0.1)∧∃vs:Array Value,w'.heap[g.1]? = some (.cells vs ty (0,0))∧g.2+cs.length<=vs.size∧∀j x,cs[j]? = some x->aS x=true∧RP w (Own M h blk) x (vs.getD (g.2+j) undef)
   | none=>cs=[]) (hfz:fz=false:=by rfl) :
  Inv N M L w0 (bB blk d go) (fun x v=>V x v∨(x=d∧v=e)) t (bB h1 d (some ⟨e,ty,cs,fz,lst,false⟩)) a w':=by
 refine hI.PQ hos htape hout hsize hblock hold hh1 hV ?_ hfz
 cases go with
 | none=>exact hnew
 | some g =>
  obtain⟨n1,vs,n2,n3,n4⟩:=hnew
  refine⟨n1,vs,n2,n3,fun j x hj=>⟨(n4 j x hj).1,(n4 j x hj).2.keep fun b q1 q2=>⟨by omega,?_,?_⟩⟩⟩
  ·rintro (hb|rfl)
   ·apply q2
    rcases hb with hb|⟨x,r,g',hx,hz,hg',he⟩
    ·exact .inl hb
    ·refine .inr ⟨x,r,g',?_,hz,hg',he⟩
     subst hh1
     cases old with
     | none=>exact hx
     | some y =>
      simp only[forget]at hx
      by_cases hxy:x=y
      ·subst hxy;simp[bB]at hx
      ·rwa [au _ _ hxy]at hx
   ·rcases n1 with n1|⟨y,g0,hy,hg0,he⟩
    ·omega
    ·obtain⟨r,hr,hz⟩:=hold y hy
     exact q2 (.inr ⟨y,r,g0,hr,hz,hg0,he.symm⟩)
  ·refine hblock b q1 fun y g0 hy hg0 he =>?_
   obtain⟨r,hr,hz⟩:=hold y hy
   exact q2 (.inr ⟨y,r,g0,hr,hz,hg0,he.symm⟩)
theorem Inv.alloc (hI:Inv N M L w0 blk V t h a w) {d e ty:Nat} {lst:Bool} {cs:List D} {vs:Array Value} (hV:hX N V d e) (hl:cs.length<=vs.size)
  (hc:∀j x,cs[j]? = some x->aS x=true∧RP w (Own M h blk) x (vs.getD j undef)) :
  Inv N M L w0 (bB blk d (some (w.heap.size,0))) (fun x v=>V x v∨(x=d∧v=e)) t (bB h d (some ⟨e,ty,cs,false,lst,false⟩)) a (w.alloc (.cells vs ty)):=by
 have hold:∀b,b<w.heap.size->(w.alloc (.cells vs ty)).heap[b]? = w.heap[b]?:=fun b hb=>Below.heap_alloc w _ b hb
 have hb:=(Below.refl w.heap.size w).alloc (afR _) (.cells vs ty)
 refine hI.WC (h1:=h) (old:=none) hb.os hb.tape hb.output hb.size (fun k hk _=>hold k hk) (fun y hy=>by cases hy) rfl hV ?_
 exact⟨.inl (afR _),vs,heap_alloc_new w _,by simpa using hl,fun j x hj=>by simpa using hc j x hj⟩
theorem Inv.drop (hI:Inv N M L w0 blk V t h a w) (y:Nat):Inv N M L w0 blk V t (bB h y none) a w:=by
 have hf:∀x r,bB h y none x=some r->h x=some r:=by
  intro x r hx
  by_cases hxy:x=y
  ·subst hxy;rw[aq]at hx;cases hx
  ·rwa [au _ _ hxy]at hx
 have ho:∀b,¬Own M h blk b->¬Own M (bB h y none) blk b:=by
  intro b hb hb'
  rcases hb' with hb'|⟨x,r,g,hx,hz,hg,he⟩
  ·exact hb (.inl hb')
  ·exact hb (.inr ⟨x,r,g,hf x r hx,hz,hg,he⟩)
 exact {
  tab:=hI.tab.keep fun b h1 h2=>⟨h1,ho b h2,rfl⟩
  below:=hI.below
  mlt:=hI.mlt
  lent:=hI.lent
  pin:=fun go hg=>⟨(hI.pin go hg).1,fun r hr hv=>(hI.pin go hg).2 r (hf 0 r hr) hv⟩
  defers:=hI.defers
  tsz:=hI.tsz
  slots:=fun i=>(hI.slots i).mono ⟨fun b h1 h2=>⟨h1,ho b h2,rfl⟩,fun _ _ h=>h,fun x v _ r' h1 h2=>⟨⟨r',hf x r' h1,h2⟩,rfl,fun _ _=>rfl⟩⟩
  rows:=fun x r hx=>⟨(hI.rows x r (hf x r hx)).1,(hI.rows x r (hf x r hx)).2.keep (fun _ _=>rfl) (fun b k1 k2=>⟨k1,ho b k2,rfl⟩)⟩
  inj:=fun x y r s g g' hx hy hg hg' he=>hI.inj x y r s g g' (hf x r hx) (hf y s hy) hg hg' he
  big:=hI.big
  pha:=fun z r g hy hm hg j x s n hc=>by
   obtain⟨h0,u,k1,k2⟩:=hI.pha z r g (hf z r hy) hm hg j x s n hc
   exact⟨h0,u,k1,k2.mono fun r' g1=>⟨⟨r',hf x r' g1⟩,rfl,fun _ _=>rfl⟩⟩
  ali:=fun z r g hy hz hl hg j c d' hj hd'=>by
   obtain⟨u,h1,h2⟩:=hI.ali z r g (hf z r hy) hz hl hg j c d' hj hd'
   exact⟨u,h1,h2.mono ⟨fun b h1 h2=>⟨h1,ho b h2,rfl⟩,fun _ _ h=>h,fun x v _ r' h1 h2=>⟨⟨r',hf x r' h1,h2⟩,rfl,fun _ _=>rfl⟩⟩⟩ }
theorem Inv.iR (hI:Inv N M L w0 blk V t h a w) {x:Nat} {r:Row} (hx:h x=some r) (hz:r.fz=false) {r0:Row} {w':World} (hv0:r0.v=r.v)
  (hos:w'.os=w.os) (htape:w'.tape=w.tape) (hout:w'.output=w.output) (hsize:w.heap.size<=w'.heap.size) (hheap:∀b,b<w.heap.size->(∀g,blk x=some g->b≠g.1)->w'.heap[b]? = w.heap[b]?)
  (hnew:match blk x with
   | some g=>w'.shape? g.1=w.shape? g.1∧dw w' (Own M h blk) g r0
   | none=>r0.cells=[])
  (hal:r0.fz=true->r0.lst=false->∀g,blk x=some g->∀j c d,r0.cells[j]? = some c->alD c=some d->∃u,w'.cell? ⟨g.1,g.2+j,none⟩=some u∧RT w (Own M h blk) h blk V d u) (hph:r0.mp=true->∀g,blk x=some g->∀j x' s n:Nat,r0.cells[j]? = some (D.ph x' s n)->PN x j x'∧∃u,w'.cell? ⟨g.1,g.2+j,none⟩=some u∧PhR w h blk x' s n u:=by (intro h;cases h)) :
  Inv N M L w0 blk V t (bB h x (some r0)) a w':=by
 have hf:∀y s,bB h x (some r0) y=some s->∃s',h y=some s'∧s.v=s'.v∧(s.fz=false->s'.fz=false):=by
  intro y s hy
  by_cases hyx:y=x
  ·subst hyx
   rw[aq]at hy
   simp only[af0]at hy
   subst hy
   exact⟨r,hx,hv0,fun _=>hz⟩
  ·rw[au _ _ hyx]at hy
   exact⟨s,hy,rfl,id⟩
 have ho:∀b,¬Own M h blk b->¬Own M (bB h x (some r0)) blk b:=by
  intro b hb hb'
  rcases hb' with hb'|⟨y,s,g',hy,hz',hg',he⟩
  ·exact hb (.inl hb')
  ·obtain⟨s',h1,_,h3⟩:=hf y s hy
   exact hb (.inr ⟨y,s',g',h1,h3 hz',hg',he⟩)
 have hheap':∀b,b<w.heap.size->¬Own M h blk b->w'.heap[b]? = w.heap[b]?:=fun b h1 h2=>hheap b h1 (fun g hg e=>h2 (.inr ⟨x,r,g,hx,hz,hg,e.symm⟩))
 have hk:∀b,b<w.heap.size->¬Own M h blk b->b<w'.heap.size∧¬Own M (bB h x (some r0)) blk b∧w'.heap[b]? = w.heap[b]? :=
  fun b h1 h2=>⟨by omega,ho b h2,hheap' b h1 h2⟩
 have hother:∀y s g',y≠x->h y=some s->blk y=some g'->w'.heap[g'.1]? = w.heap[g'.1]?:=fun y s g' hyx hy hg'=>hheap _ (hI.lt hy hg') (fun g hg e=>hyx (hI.inj y x s r g' g hy hx hg' hg e))
 have hsame:∀y s g',h y=some s->blk y=some g'->w'.shape? g'.1=w.shape? g'.1:=by
  intro y s g' hy hg'
  by_cases hyx:y=x
  ·subst hyx;rw[hg']at hnew;exact hnew.1
  ·exact ca (hother y s g' hyx hy hg')
 exact {
  tab:=hI.tab.keep hk
  below:=hI.below.trans (L':=fun k=>∃g,blk x=some g∧k=g.1) ⟨hos,htape,hout,hsize,fun k hk hn=>hheap k hk (fun g hg e=>hn ⟨g,hg,e⟩)⟩ (fun k ⟨g,hg,he⟩ hlt=>by
   rcases hI.base hx hg with hb|hb
   ·omega
   ·rw[he];exact hb)
  mlt:=hI.mlt
  lent:=hI.lent
  pin:=fun go hg=>⟨(hI.pin go hg).1,fun s hs hv=>by
   obtain⟨s',g1,g2,_⟩:=hf 0 s hs
   obtain⟨k1,k2⟩:=(hI.pin go hg).2 s' g1 (by omega)
   exact⟨k1,fun g hgo=>(hsame 0 s' g g1 (k1.trans hgo)).trans (k2 g hgo)⟩⟩
  defers:=hI.defers
  tsz:=hI.tsz
  slots:=fun i=>(hI.slots i).mono ⟨hk,fun _ _ h=>h,fun y v _ s h1 h2=>by
   obtain⟨s',g1,g2,_⟩:=hf y s h1
   exact⟨⟨s',g1,by omega⟩,rfl,fun g' hg'=>hsame y s' g' g1 hg'⟩⟩
  rows:=fun y s hy=>by
   by_cases hyx:y=x
   ·subst hyx
    rw[aq]at hy
    simp only[af0]at hy
    subst hy
    refine⟨fun hn=>by rw[hv0];exact (hI.rows y r hx).1 hn,?_⟩
    cases hg:blk y with
    | none=>rw[hg]at hnew;exact hnew
    | some g =>
     rw[hg]at hnew
     exact⟨hI.base hx hg,hnew.2.keep rfl rfl rfl rfl fun b q1 q2=>⟨q1,ho b q2,rfl⟩⟩
   ·rw[au _ _ hyx]at hy
    exact⟨(hI.rows y s hy).1,(hI.rows y s hy).2.keep (fun g' hg'=>hother y s g' hyx hy hg') hk⟩
  inj:=fun y z s s' g1 g2 hy hz' hg1 hg2 he=>by
   obtain⟨r1,k1,_⟩:=hf y s hy
   obtain⟨r2,k2,_⟩:=hf z s' hz'
   exact hI.inj y z r1 r2 g1 g2 k1 k2 hg1 hg2 he
  big:=hI.big
  pha:=fun y r1 g hy hm hg j x' s n hc=>by
   by_cases hyx:y=x
   ·subst hyx
    rw[aq]at hy
    simp only[af0]at hy
    subst hy
    obtain⟨h0,u,k1,k2⟩:=hph hm g hg j x' s n hc
    exact⟨h0,u,k1,k2.mono fun r' g1=>by
     obtain⟨s',q1,_⟩:=hf x' r' g1
     exact⟨⟨s',q1⟩,rfl,fun g' hg'=>hsame x' s' g' q1 hg'⟩⟩
   ·rw[au _ _ hyx]at hy
    obtain⟨h0,u,k1,k2⟩:=hI.pha y r1 g hy hm hg j x' s n hc
    exact⟨h0,u,(afN (a:=⟨g.1,g.2+j,none⟩) (hother y r1 g hyx hy hg)).trans k1,k2.mono fun r' g1=>by
     obtain⟨s',q1,_⟩:=hf x' r' g1
     exact⟨⟨s',q1⟩,rfl,fun g' hg'=>hsame x' s' g' q1 hg'⟩⟩
  ali:=fun y r1 g hy hz1 hl hg j c d' hj hd'=>by
   have hm:∀ {u:Value},RT w (Own M h blk) h blk V d' u->RT w' (Own M (bB h x (some r0)) blk) (bB h x (some r0)) blk V d' u:=fun h2=>h2.mono ⟨hk,fun _ _ h=>h,fun y v _ s h1 h2=>by
    obtain⟨s',g1,g2,_⟩:=hf y s h1
    exact⟨⟨s',g1,by omega⟩,rfl,fun g' hg'=>hsame y s' g' g1 hg'⟩⟩
   by_cases hyx:y=x
   ·subst hyx
    rw[aq]at hy
    simp only[af0]at hy
    subst hy
    obtain⟨u,h1,h2⟩:=hal hz1 hl g hg j c d' hj hd'
    exact⟨u,h1,hm h2⟩
   ·rw[au _ _ hyx]at hy
    obtain⟨u,h1,h2⟩:=hI.ali y r1 g hy hz1 hl hg j c d' hj hd'
    exact⟨u,(afN (a:=⟨g.1,g.2+j,none⟩) (hother y r1 g hyx hy hg)).trans h1,hm h2⟩ }
theorem Inv.rewrite (hI:Inv N M L w0 blk V t h a w) {x:Nat} {r:Row} (hx:h x=some r) (hz:r.fz=false) {cs:List D} {lst fz:Bool} {w':World}
  (hos:w'.os=w.os) (htape:w'.tape=w.tape) (hout:w'.output=w.output) (hsize:w.heap.size<=w'.heap.size) (hheap:∀b,b<w.heap.size->(∀g,blk x=some g->b≠g.1)->w'.heap[b]? = w.heap[b]?)
  (hnew:match blk x with
   | some g=>w'.shape? g.1=w.shape? g.1∧∃vs:Array Value,w'.heap[g.1]? = some (.cells vs r.ty (0,0))∧g.2+cs.length<=vs.size∧∀j d,cs[j]? = some d->aS d=true∧RP w' (Own M h blk) d (vs.getD (g.2+j) undef)
   | none=>cs=[])
  (hal:fz=true->lst=false->∀g,blk x=some g->∀j c d,cs[j]? = some c->alD c=some d->∃u,w'.cell? ⟨g.1,g.2+j,none⟩=some u∧RT w (Own M h blk) h blk V d u) :
  Inv N M L w0 blk V t (bB h x (some ⟨r.v,r.ty,cs,fz,lst,false⟩)) a w':=by
 refine hI.iR (r0:=⟨r.v,r.ty,cs,fz,lst,false⟩) hx hz rfl hos htape hout hsize hheap ?_ hal
 cases hg:blk x with
 | none=>rw[hg]at hnew;exact hnew
 | some g=>rw[hg]at hnew;exact hnew
theorem Inv.write (hI:Inv N M L w0 blk V t h a w) {x:Nat} {r:Row} {g:Nat×Nat} (hx:h x=some r) (hz:r.fz=false) (hg:blk x=some g) (hmp:r.mp=false) {cs:List D} {vs vs0:Array Value} (h0:w.heap[g.1]? = some (.cells vs0 r.ty (0,0))) (hsz:vs.size=vs0.size)
  (hl:g.2+cs.length<=vs.size) (hc:∀j d,cs[j]? = some d->aS d=true∧RP w (Own M h blk) d (vs.getD (g.2+j) undef)) :
  Inv N M L w0 blk V t (bB h x (some { r with cells:=cs })) a (w.setRow g.1 vs):=by
 have hheap:∀b,b≠g.1->(w.setRow g.1 vs).heap[b]? = w.heap[b]?:=by
  intro b hb
  simp only[World.setRow,af1]
  rw[if_neg (Ne.symm hb)]
 have hsize:(w.setRow g.1 vs).heap.size=w.heap.size:=by simp[World.setRow]
 have hnew:(w.setRow g.1 vs).heap[g.1]? = some (.cells vs r.ty (0,0)):=setRow_heap w g.1 vs0 vs r.ty (0,0) h0
 have e0:({ r with cells:=cs } : Row)=⟨r.v,r.ty,cs,r.fz,r.lst,false⟩:=by rw[<- hmp]
 rw[e0]
 refine hI.rewrite (fz:=r.fz) (lst:=r.lst) hx hz rfl rfl rfl (by rw[hsize];exact afR _) (fun b _ hb=>hheap b (hb g hg)) ?_ (fun h=>by rw[hz]at h;cases h)
 rw[hg]
 exact⟨by simp[World.shape?,hnew,h0,hsz],vs,hnew,hl,fun j d hj=>⟨(hc j d hj).1,(hc j d hj).2.keep fun b q1 q2=>⟨by rw[hsize];exact q1,q2,hheap b (fun e=>q2 (.inr ⟨x,r,g,hx,hz,hg,e.symm⟩))⟩⟩⟩
end
structure wY (w:World) (M:Nat->Prop) (args:List D) (vs:Array Value):Prop where
 size:vs.size=args.length
 at_:∀j d,args[j]? = some d->RP w M d (vs.getD j undef)
 tab:UM w M
def sK (w w':World) (M:Nat->Prop) (old:Nat->Prop) (v:Value):RK->Prop
 | .clean d=>RP w' M d v
 | .fresh ty s n cells =>
  (∃(g:Nat×Nat) (c:Nat) (cs:Array Value),v=.slice (some ⟨g.1,g.2,none⟩) n c∧(w.heap.size<=g.1∨old g.1)∧w'.heap[g.1]? = some (.cells cs ty (0,0))∧n<=c∧c<=maxLen∧c*s+g.2=cs.size∧g.2+cells.length<=cs.size ∧
   ∀(j:Nat) d,cells[j]? = some d->aS d=true∧RP w' (fun b=>M b∨b=g.1) d (cs.getD (g.2+j) undef))∨(n=0∧cells=[]∧∃A,v=.slice A 0 0)
 | .same _ _ _=>False
def ss (go:Option (Nat×Nat)) (b:Nat):Prop:=∃g,go=some g∧b=g.1
def Sb (w:World) (M:Nat->Prop) (go:Option (Nat×Nat)) (r:Row):Prop :=
 match go with
 | some g=>dw w M g r
 | none=>r.cells=[]
def zI (w:World) (go:Option (Nat×Nat)) (d:D) (u:Value):Prop:=RT w (fun _=>False) (fun x=>if x=0 then some ⟨0,0,[],false,false,false⟩ else none) (fun _=>go) (fun _ _=>True) d u
def abe (w w':World) (M:Nat->Prop) (go:Option (Nat×Nat)) (r:Row):Option Row->Prop
 | some r1=>r1.ty=r.ty∧r1.fz=false∧(r1.mp=r.mp∧pY r1=true)∧(∀g,go=some g->w'.shape? g.1=w.shape? g.1)∧Sb w' (fun b=>M b∨ss go b) go r1
 | none=>True
def abg (w w':World) (M:Nat->Prop) (go:Option (Nat×Nat)) (v:Value):RK->Prop
 | .same s o n=>zI w' go (.buf 0 0 s o n) v
 | .clean d=>RP w' (fun b=>M b∨ss go b) d v
 | .fresh ty s n cells=>sK w w' M (ss go) v (.fresh ty s n cells)
def pq (P:Program) (f:FuncId) (lent:Option (D×Row)) (args:List D) (rk:RK) (out:Option Row):Prop :=
 match lent with
 | none=>∀(w:World) (M:Nat->Prop) (vs:Array Value),(∀b,M b->b<w.heap.size)->wY w M args vs->Calls P f vs w fun e w'=>∃v,e=.returned v∧Below w.heap.size w w'∧sK w w' M (fun _=>False) v rk
 | some (d0,r)=>∀(w:World) (M:Nat->Prop) (go:Option (Nat×Nat)) (u0:Value) (vs:Array Value),(∀b,M b->b<w.heap.size)->(∀b,ss go b->¬M b)->r.fz=false->pY r=true->Sb w (fun b=>M b∨ss go b) go r->zI w go d0 u0->wY w (fun b=>M b∨ss go b) args vs ->
  Calls P f (#[u0]++vs) w fun e w'=>∃v,e=.returned v∧dK (ss go) w w'∧abe w w' M go r out∧abg w w' M go v rk
def PI (P:Program) (f:FuncId) (args:List D) (r:D):Prop:=pq P f none args (.clean r) none
def dz (P:Program) (f:FuncId):Prop:=∃fn,P.funcs[f]? = some fn∧(fn.name == "runtime.NumGoroutine")=false∧fn.body.isNone=false
def Wz (w:World) (ty k:Nat) (go:Option (Nat×Nat)) (u:Value) (n:Nat) (cs:List Value):Prop :=
 (∃g c arr,go=some g∧u=.slice (some ⟨g.1,g.2,none⟩) n c∧w.heap[g.1]? = some (.cells arr ty (0,0))∧c*k+g.2=arr.size∧n<=c∧c<=maxLen∧∀(j:Nat) x,cs[j]? = some x->arr[g.2+j]? = some x)∨(go=none∧n=0∧cs=[]∧∃A,u=.slice A 0 0)
structure ab0 (P:Program) (f:FuncId) (p:Nat×Nat×Nat):Prop where
 callable:dz P f
 pos:0<p.2.1
 calls:∀(w:World) (go go':Option (Nat×Nat)) (u u':Value) (i n m:Nat) (cs cs':List Value),Wz w p.1 p.2.1 go u n cs->Wz w p.1 p.2.1 go' u' m cs'->(∀g g',go=some g->go'=some g'->g.1≠g'.1) ->
  cs.length=n*p.2.1->cs'.length=m*p.2.1->(∀x∈cs,x.oneCell'=true)->(∀x∈cs',x.oneCell'=true)->i<=n->0<m->(n+m)*p.2.2<=140737488355328 ->
  Calls P f #[u,.int .i64 i,u'] w fun e w'=>∃v,e=.returned v∧dK (ss go) w w' ∧
   ∃(g:Nat×Nat) (c:Nat) (arr:Array Value),v=.slice (some ⟨g.1,g.2,none⟩) (n+m) c∧(w.heap.size<=g.1∨ss go g.1)∧w'.heap[g.1]? = some (.cells arr p.1 (0,0))∧n+m<=c∧c<=maxLen∧c*p.2.1+g.2=arr.size ∧
    ∀(j:Nat) x,(cs.take (i*p.2.1)++(cs'++cs.drop (i*p.2.1)))[j]? = some x->arr[g.2+j]? = some x
def KH:D->Value
 | .int k n =>.int k n
 | .bool b =>.bool b
 | .str s =>.string s
 | _=>undef
def Aq:D->Bool
 | .int _ _ | .bool _ | .str _=>true
 | _=>false
def aa4:D->Value
 | .agg xs =>.agg (xs.map KH).toArray
 | d=>KH d
def abo:D->Bool
 | .agg xs=>xs.all Aq
 | d=>Aq d
theorem Hr {w:World} {M:Nat->Prop} {d:D} {u:Value} (hf:Aq d=true) (h:RP w M d u):u=KH d:=by
 cases h<;>first|rfl|cases hf
theorem XM {w:World} {M:Nat->Prop} {d:D} (hf:Aq d=true):aS d=true∧RP w M d (KH d):=by
 cases d with
 | int k n=>exact⟨rfl,.int k n⟩
 | bool b=>exact⟨rfl,.bool b⟩
 | str s=>exact⟨rfl,.str s⟩
 | _=>cases hf
theorem U7 {w:World} {M:Nat->Prop} {d:D} {u:Value} (hf:abo d=true) (h:RP w M d u):u=aa4 d:=by
 cases h with
 | agg xs us h1 h2 h3 =>
  simp only[aa4]
  congr 2
  apply List.ext_getElem
  ·simpa using h1
  ·intro i q1 q2
   have hi:i<xs.length:=by omega
   have hfx:Aq xs[i]=true:=af2.1 hf _ (af3 hi)
   have:=Hr hfx (h2 i _ (af4 hi))
   rw[List.getElem_map,<- this]
   simp[List.getD,q1]
 | _=>first|rfl|cases hf
structure Wr (P:Program) (f:FuncId) (p:Grow):Prop where
 callable:dz P f
 pos:0<p.k
 flat:∀ds afM cs,p.sem ds afM=some cs->(∀d∈ds,Aq d=true)∧(∀d∈afM,abo d=true)∧(∀d∈cs,Aq d=true)∧cs.length=p.k
 calls:∀(w:World) (gy:Nat×Nat) (ya:Array Value) (ty:Nat) (go:Option (Nat×Nat)) (u:Value) (n:Nat) (ds afM cs:List D),w.heap[gy.1]? = some (.cells ya ty (0,0))->ya[gy.2]? = some u->Wz w p.ty p.k go u n (ds.map KH) ->
  (∀g,go=some g->g.1≠gy.1)->ds.length=n*p.k->p.sem ds afM=some cs->(n+1)*p.bytes<=140737488355328 ->
  Calls P f (#[.pointer (some ⟨gy.1,gy.2,none⟩)]++(afM.map aa4).toArray) w fun e w'=>e=.returned (.int .i64 (n:Int))∧dK (fun b=>b=gy.1∨ss go b) w w' ∧
   ∃(g:Nat×Nat) (c:Nat) (arr:Array Value),(w.heap.size<=g.1∨ss go g.1)∧w'.heap[gy.1]? = some (.cells (ya.setIfInBounds gy.2 (.slice (some ⟨g.1,g.2,none⟩) (n+1) c)) ty (0,0))∧w'.heap[g.1]? = some (.cells arr p.ty (0,0)) ∧
    n+1<=c∧c<=maxLen∧c*p.k+g.2=arr.size∧∀(j:Nat) x,((ds++cs).map KH)[j]? = some x->arr[g.2+j]? = some x
structure F6 (w:World) (Q:Nat->Prop) (blk:Nat->Option (Nat×Nat)) (h:Nat->Option Row):Prop where
 rows:∀x r,h x=some r->match blk x with|some g=>dw w Q g r|none=>r.cells=[]
 inj:∀x y r s g g',h x=some r->h y=some s->blk x=some g->blk y=some g'->g.1=g'.1->x=y
 pha:∀y r g,h y=some r->r.mp=true->blk y=some g->∀j x s n:Nat,r.cells[j]? = some (D.ph x s n)->PN y j x∧∃u,w.cell? ⟨g.1,g.2+j,none⟩=some u∧PhR w h blk x s n u
def ic (ty t s nv:Nat) (cs:List D):Row:=⟨0,ty,[.nr t s nv cs],false,true,true⟩
def lH (r:Row) (x:Nat):Option Row:=if x=0 then some r else none
def uj (blk:Nat->Option (Nat×Nat)) (h:Nat->Option Row) (b:Nat):Prop:=∃x r g,h x=some r∧blk x=some g∧g.1=b
def Jg (P:Program) (f:FuncId) (ty t s o:Nat) (cs args:List D) (d:D) (cs':List D):Prop :=
 ∀(w:World) (M:Nat->Prop) (blk:Nat->Option (Nat×Nat)) (h h':Nat->Option Row) (g0:Nat×Nat) (vs:Array Value),h=EH (lH (ic ty t s 0 cs))->h'=EH (lH (ic ty t s 0 cs')) ->
  (∀b,M b->b<w.heap.size)->(∀b,uj blk h b->¬M b)->blk 0=some g0->F6 w (fun b=>M b∨uj blk h b) blk h->wY w (fun b=>M b∨uj blk h b) args vs ->
  Calls P f (#[.pointer (some ⟨g0.1,g0.2+o,none⟩)]++vs) w fun e w'=>∃v blk',e=.returned v∧dK (uj blk h) w w'∧blk' 0=some g0∧w'.shape? g0.1=w.shape? g0.1∧(∀b,uj blk' h' b->w.heap.size<=b∨uj blk h b)∧F6 w' (fun b=>M b∨uj blk' h' b) blk' h'∧RP w' (fun b=>M b∨uj blk' h' b) d v
def Jf (P:Program) (f:FuncId) (args:List D) (ty t s S n:Nat) (cs:List D):Prop :=
 ∀(w:World) (M:Nat->Prop) (h:Nat->Option Row) (vs:Array Value),h=EH (lH (ic ty t s 0 cs))->(∀b,M b->b<w.heap.size)->wY w M args vs ->
  Calls P f vs w fun e w'=>∃v blk,e=.returned v∧Below w.heap.size w w'∧(∀b,uj blk h b->w.heap.size<=b)∧F6 w' (fun b=>M b∨uj blk h b) blk h∧zI w' (blk 0) (.buf 0 0 S 0 n) v
structure bA (P:Program) (Γ:Env):Prop where
 calls:∀f lent args rk out,Γ.sem f lent args=some (rk,out)->pq P f lent args rk out∧dz P f
 ins:∀f p,Γ.ins f=some p->ab0 P f p
 grw:∀f p,Γ.grw f=some p->Wr P f p
 lnd:∀f p,Γ.nx.lnd f=some p->dz P f∧∀ty t s o cs args d cs',p.2 ty t s o cs args=some (d,cs')->Jg P f ty t s o cs args d cs'
 res:∀f p,Γ.nx.res f=some p->dz P f∧∀args ty t s S n cs,p args=some (ty,t,s,S,n,cs)->Jf P f args ty t s S n cs
theorem de.get {P:Program} {t:Nat} {τ:Ty} (h:de P t τ):∃d i z,P.underlying t=some d∧conv d=τ.ds∧P.info? t=some i∧i.size=τ.size∧i.bytes=τ.bytes∧i.zero=some z∧z.cells=τ.zero.toArray:=by
 have h1:=h.desc
 have h2:=h.info
 cases hd:P.underlying t with
 | none=>simp[hd]at h1
 | some d =>
  cases hi:P.info? t with
  | none=>simp[hi]at h2
  | some i =>
   simp only[hd,Option.map_some,af0]at h1
   simp only[hi,Option.map_some,af0,Prod.mk.injEq]at h2
   cases hz:i.zero with
   | none=>simp[hz]at h2
   | some z =>
    simp only[hz,Option.map_some,af0]at h2
    exact⟨d,i,z,rfl,h1,rfl,h2.1,h2.2.1,hz,by rw[<- h2.2.2]⟩
def dA (P:Program) (o:Oper) (a:Act) (w:World) (Φ:Value->World->Prop):Prop :=
 (∃v w',(execOp a.eval o).run P w=.ok (.value v) w'∧Φ v w')∨(∃w',(execOp a.eval o).run P w=.ok .skip w'∧Φ undef w') ∨
 (∃f args,(execOp a.eval o).run P w=.ok (.enter f args) w∧Calls P f args w (fun e w'=>∃v,e=.returned v∧Φ v w'))
theorem dA.mono {P:Program} {o:Oper} {a:Act} {w:World} {Φ Ψ:Value->World->Prop} (h:dA P o a w Φ) (hm:∀v w',Φ v w'->Ψ v w'):dA P o a w Ψ:=by
 rcases h with⟨v,w',h1,h2⟩|⟨w',h1,h2⟩|⟨f,args,h1,h2⟩
 ·exact .inl ⟨v,w',h1,hm _ _ h2⟩
 ·exact .inr (.inl ⟨w',h1,hm _ _ h2⟩)
 ·exact .inr (.inr ⟨f,args,h1,h2.mono fun e w' ⟨v,h3,h4⟩=>⟨v,h3,hm _ _ h4⟩⟩)
theorem dA.wp {P:Program} {o:Oper} {a:Act} {w:World} {Φ:Value->World->Prop} {K:Act->World->Prop} {Q:Exit->Act->World->Prop} (h:dA P o a w Φ) (hK:∀v w',Φ v w'->K (a.put o.dst v) w'):o.wp P a w K Q:=by
 unfold Oper.wp
 rcases h with⟨v,w',hr,hp⟩|⟨w',hr,hp⟩|⟨f,args,hr,hp⟩
 ·rw[hr];exact hK v w' hp
 ·rw[hr];exact hK undef w' hp
 ·rw[hr]
  refine hp.mono fun e w' ⟨v,he,hv⟩ =>?_
  subst he
  exact hK v w' hv
section
variable {N:Nat} {M:Nat->Prop} {L:iB} {w0:World} {blk:Nat->Option (Nat×Nat)} {V:Nat->Nat->Prop} {t:Nat->D} {h:Nat->Option Row} {a:Act} {w:World}
structure mP (M:Nat->Prop) (h:Nat->Option Row) (blk:Nat->Option (Nat×Nat)) (fr:List Nat) (M':Nat->Prop):Prop where
 le:∀b,M' b->Own M h blk b
 no:∀x,x∈fr->∀r g,h x=some r->blk x=some g->¬M' g.1
theorem mP.left {fr fr':List Nat} {M':Nat->Prop} (hl:mP M h blk (fr++fr') M'):mP M h blk fr M':=⟨hl.le,fun x hx=>hl.no x (af5 _ hx)⟩
theorem mP.right {fr fr':List Nat} {M':Nat->Prop} (hl:mP M h blk (fr++fr') M'):mP M h blk fr' M':=⟨hl.le,fun x hx=>hl.no x (af6 _ hx)⟩
theorem Inv.eS (hI:Inv N M L w0 blk V t h a w) (fr:List Nat):mP M h blk fr (Own M (aH h (gP h fr)) blk) where
 le b hb:=by
  rcases hb with hb|⟨x,r',g,hx,hz,hg,rfl⟩
  ·exact .inl hb
  ·rw[y9]at hx
   split at hx
   ·cases hr:h x with
    | none=>simp[hr]at hx
    | some r=>simp only[hr,Option.map_some,af0]at hx;subst hx;rw[JN]at hz;cases hz
   ·exact .inr ⟨x,r',g,hx,hz,hg,rfl⟩
 no x hx r g hr hg hb:=by
  rcases hb with hb|⟨y,r',g',hy,hz,hg',he⟩
  ·exact hI.notM hr hg hb
  ·rw[y9]at hy
   split at hy
   ·cases hr':h y with
    | none=>simp[hr']at hy
    | some r''=>simp only[hr',Option.map_some,af0]at hy;subst hy;rw[JN]at hz;cases hz
   ·rename_i hyf
    have:y=x:=hI.inj y x r' r g' g hy hr hg' hg he
    subst this
    exact hyf hx
theorem Inv.HJ (hI:Inv N M L w0 blk V t h a w) (fr:List Nat):mP M h blk fr (fun b=>Own M h blk b∧∀x,x∈fr->∀r g,h x=some r->blk x=some g->g.1≠b) where
 le b hb:=hb.1
 no x hx r g hr hg hb:=hb.2 x hx r g hr hg rfl
theorem oe {x v:Nat} {r:Row} (hl:ml h x v=some r):h x=some r∧r.v=v:=by
 unfold ml at hl
 split at hl
 ·split at hl
  ·simp only[af0]at hl
   subst hl
   exact⟨by assumption,by assumption⟩
  ·cases hl
 ·cases hl
theorem bU {x v:Nat} {r:Row} (hl:live h x v=some r):h x=some r∧r.v=v:=by
 unfold live at hl
 split at hl
 ·split at hl
  ·rename_i hc
   simp only[af0]at hl
   subst hl
   exact⟨by assumption,hc.1⟩
  ·cases hl
 ·cases hl
theorem gi {x v:Nat} {r:Row} (hl:live h x v=some r):r.mp=false:=by
 unfold live at hl
 split at hl
 ·split at hl
  ·rename_i hc
   simp only[af0]at hl
   subst hl
   exact hc.2
  ·cases hl
 ·cases hl
theorem Ax {x v:Nat} {r:Row} (hl:wI h x v=some r):h x=some r∧r.v=v∧r.mp=true∧pY r=true:=by
 unfold wI at hl
 split at hl
 ·rename_i r' hr
  split at hl
  ·rename_i hc
   simp only[af0]at hl
   subst hl
   exact⟨hr,hc⟩
  ·cases hl
 ·cases hl
theorem rA {r:Row} (h:r.mp=false):pY r=true:=by unfold pY;rw[h]
theorem xQ {r:Row} (h:pY r=true) (hm:r.mp=true):∃ks vs,r.cells=[.mpc ks vs]:=by
 unfold pY at h
 split at h
 ·rename_i ks vs _ hc;exact⟨ks,vs,hc⟩
 ·cases h
 ·rename_i hh;rw[hm]at hh;cases hh
theorem DD {x v:Nat} {ks:List bV} {vs:List D} (hl:gh h x v=some (ks,vs)):∃r,h x=some r∧r.v=v∧r.mp=true∧r.cells=[.mpc ks vs]∧r.ty<900000:=by
 unfold gh at hl
 split at hl
 ·rename_i r hr
  split at hl
  ·rename_i hc
   split at hl
   ·rename_i hcs
    simp only[af0,Prod.mk.injEq]at hl
    obtain⟨rfl,rfl⟩:=hl
    exact⟨r,hr,hc.1,hc.2.1,hcs,hc.2.2⟩
   ·cases hl
  ·cases hl
 ·cases hl
theorem b9 {α:Type} (l:List α) (o n j:Nat):((l.drop o).take n)[j]? = if j<n then l[o+j]? else none:=by
 rw[af7]
 split
 ·rw[af8]
 ·rfl
theorem Inv.xc (hI:Inv N M L w0 blk V t h a w) {x v s o n:Nat} {r:Row} {u:Value} (hl:live h x v=some r) (hr:RT w (Own M h blk) h blk V (.buf x v s o n) u) :
  (∃(g:Nat×Nat) (o' c:Nat) (cs:Array Value),blk x=some g∧u=.slice (some ⟨g.1,o',none⟩) n c∧n<=c∧c<=maxLen∧w.heap[g.1]? = some (.cells cs r.ty (0,0))∧(0<c∨o=0->o'=g.2+o∧c*s+o'=cs.size) ∧
   g.2+r.cells.length<=cs.size∧∀j d,r.cells[j]? = some d->aS d=true∧RP w (Own M h blk) d (cs.getD (g.2+j) undef))∨(blk x=none∧n=0∧r.cells=[]∧∃A,u=.slice A 0 0):=by
 obtain⟨hx,hv⟩:=bU hl
 rcases hr.2 r hx hv with⟨g,o',c,N',t',g0,g1,g2,g3,g4,g5⟩|⟨g0,g1,A,g2⟩
 ·obtain⟨cs,h3,h4,h5⟩:=hI.DB hx g0 (gi hl)
  have:(r.ty,cs.size)=(t',N'):=by simpa [World.shape?,h3] using g5
  simp only[Prod.mk.injEq]at this
  exact .inl ⟨g,o',c,cs,g0,g1,g3,g4,h3,fun h0=>by obtain⟨k1,k2⟩:=g2 h0;exact⟨k1,by rw[k2,this.2]⟩,h4,h5⟩
 ·have:=(hI.rows x r hx).2
  rw[g0]at this
  exact .inr ⟨g0,g1,this,A,g2⟩
theorem aK {w:World} {g:Nat} {cs:Array Value} {ty:Nat} (hh:w.heap[g]? = some (.cells cs ty (0,0))) {j:Nat} (hj:j<cs.size):w.cell? ⟨g,j,none⟩=some (cs.getD j undef):=by
 simp[World.cell?,hh,hj]
theorem Inv.cZ (hI:Inv N M L w0 blk V t h a w) {d d':D} {fr:List Nat} {u:Value} {M':Nat->Prop} (hc:cZ h d=some (d',fr)) (hl:mP M h blk fr M') (hr:RT w (Own M h blk) h blk V d u):RP w M' d' u∧aS d'=true:=by
 have hk:∀b,b<w.heap.size->¬Own M h blk b->b<w.heap.size∧¬M' b∧w.heap[b]? = w.heap[b]?:=fun b h1 h2=>⟨h1,fun hb=>h2 (hl.le b hb),rfl⟩
 cases d with
 | int k n=>simp only[Am.cZ,af0,Prod.mk.injEq]at hc;obtain⟨rfl,rfl⟩:=hc;exact⟨RP.keep hk hr,rfl⟩
 | bool b=>simp only[Am.cZ,af0,Prod.mk.injEq]at hc;obtain⟨rfl,rfl⟩:=hc;exact⟨RP.keep hk hr,rfl⟩
 | str s=>simp only[Am.cZ,af0,Prod.mk.injEq]at hc;obtain⟨rfl,rfl⟩:=hc;exact⟨RP.keep hk hr,rfl⟩
 | sl x y n xs=>simp only[Am.cZ,af0,Prod.mk.injEq]at hc;obtain⟨rfl,rfl⟩:=hc;exact⟨RP.keep hk hr,rfl⟩
 | buf x v s o n =>
  simp only[Am.cZ]at hc
  split at hc
  ·rename_i r hlv
   split at hc
   ·rename_i hle
    simp only[af0,Prod.mk.injEq]at hc
    obtain⟨rfl,rfl⟩:=hc
    rcases hI.xc hlv hr with⟨g,o',c,cs,g0,g1,g2,g3,g4,g5,g7,g8⟩|⟨g0,g1,g2,A,g3⟩
    ·subst g1
     refine⟨.sl (some ⟨g.1,o',none⟩) c false false n _ (fun j=>cs.getD (g.2+(o+j)) undef) g2 g3 (fun h=>by cases h) (fun h=>by cases h) (fun h=>by cases h) (fun hne =>?_) (fun j y hj =>?_) (fun y hy =>?_),rfl⟩
     ·have hn:0<n:=by
       rcases af9 n with h0|h0
       ·subst h0;simp at hne
       ·exact h0
      have ho:=(g5 (.inl (by omega))).1
      subst ho
      refine⟨g.1,g.2+o,rfl,hI.lt (bU hlv).1 g0,hl.no x (by simp) r g (bU hlv).1 g0,fun j hj =>?_⟩
      simp only[aga,agb]at hj
      rw[agc]
      exact aK g4 (by omega)
     ·rw[b9]at hj
      split at hj
      ·exact (g8 _ _ hj).2.keep hk
      ·cases hj
     ·obtain⟨j,hj⟩:=agd hy
      rw[b9]at hj
      split at hj
      ·exact (g8 _ _ hj).1
      ·cases hj
    ·subst g1 g3
     have hnil:List.take (0*s) (List.drop o r.cells)=[]:=by simp
     rw[hnil]
     exact⟨.sl A 0 false false 0 [] (fun _=>undef) (afR _) (afS _) (fun h=>by cases h) (fun _=>⟨rfl,rfl⟩) (fun h=>by cases h) (fun h=>absurd rfl h) (fun j y hj=>by simp at hj) (fun y hy=>by simp at hy),rfl⟩
   ·cases hc
  ·cases hc
 | _=>simp[Am.cZ]at hc
theorem ur {h:Nat->Option Row} {d:D} (hd:∀xs,d ≠ .agg xs):Am.nR h d=Am.cZ h d:=by
 cases d<;>first|rfl|exact absurd rfl (hd _)
theorem Inv.nR (hI:Inv N M L w0 blk V t h a w) {d d':D} {fr:List Nat} {u:Value} {M':Nat->Prop} (hc:nR h d=some (d',fr)) (hl:mP M h blk fr M') (hr:RT w (Own M h blk) h blk V d u):RP w M' d' u:=by
 by_cases hd:∀xs,d ≠ .agg xs
 ·rw[ur hd]at hc
  exact (hI.cZ hc hl hr).1
 ·have hk:∀b,b<w.heap.size->¬Own M h blk b->b<w.heap.size∧¬M' b∧w.heap[b]? = w.heap[b]?:=fun b h1 h2=>⟨h1,fun hb=>h2 (hl.le b hb),rfl⟩
  simp only[ne_eq,Classical.not_forall,Classical.not_not]at hd
  obtain⟨xs,rfl⟩:=hd
  simp only[Am.nR,af0,Prod.mk.injEq]at hc
  obtain⟨rfl,rfl⟩:=hc
  exact RP.keep hk (show RP w (Own M h blk) (.agg xs) u from hr)
theorem Inv.NY (hI:Inv N M L w0 blk V t h a w) {x v:Nat} {ks:List bV} {vs:List D} {u:Value} (hl:gh h x v=some (ks,vs)) (hr:RT w (Own M h blk) h blk V (.mp x v) u) :
  ∃(g:Nat×Nat) (r:Row),h x=some r∧r.v=v∧r.mp=true∧r.cells=[.mpc ks vs]∧blk x=some g∧u=.map (some g.1)∧vs.length=ks.length∧∃(ents:Array MapEntry) (clock:Nat),w.heap[g.1]? = some (.map ents clock)∧ents.size=ks.length∧MapKept.Stamped ents clock∧∃us:Nat->Value,(∀j k,ks[j]? = some k->∃e:MapEntry,ents[j]? = some e∧e.key=jI k∧e.val=us j)∧∀j x,vs[j]? = some x->RP w (Own M h blk) x (us j):=by
 obtain⟨r,h1,h2,h3,h4,hty⟩:=DD hl
 obtain⟨g,k1,k2⟩:=hr.2 r h1 h2
 have hi:=hI.rowIs h1 k1
 unfold dw at hi
 rw[h3]at hi
 rcases hi with hi|⟨hi,_⟩
 rotate_left
 ·rw[h4]at hi
  have:=hi _ (age.2 rfl)
  cases this
 obtain⟨ks',vs',i1,i2,hA,_⟩:=hi
 obtain⟨ents,clock,i3,i4,hst,us,i5,i6⟩:=hA hty
 rw[h4]at i1
 simp only[agf,D.mpc.injEq,and_true]at i1
 obtain⟨rfl,rfl⟩:=i1
 exact⟨g,r,h1,h2,h3,h4,k1,k2,i2,ents,clock,i3,i4,hst,us,i5,i6⟩
theorem Inv.TA (hI:Inv N M L w0 blk V t h a w) {x v:Nat} {ks:List bV} {vs:List D} {u:Value} {M':Nat->Prop} (hl:gh h x v=some (ks,vs)) (hno:∀r g,h x=some r->blk x=some g->¬M' g.1)
  (hk:∀b,b<w.heap.size->¬Own M h blk b->b<w.heap.size∧¬M' b∧w.heap[b]? = w.heap[b]?) (hr:RT w (Own M h blk) h blk V (.mp x v) u):RP w M' (.mpc ks vs) u:=by
 obtain⟨g,r,h1,h2,h3,h4,h5,rfl,h6,ents,clock,h7,h8,_,us,h9,h10⟩:=hI.NY hl hr
 refine .mpc ks vs (some g.1) us h6 (fun h=>by cases h) (fun b hb =>?_) (fun j y hj=>(h10 j y hj).keep hk)
 simp only[af0]at hb
 subst hb
 exact⟨hI.lt h1 h5,hno r g h1 h5,ents,clock,h7,h8,h9⟩
theorem Inv.aP (hI:Inv N M L w0 blk V t h a w) {d d':D} {fr:List Nat} {u:Value} {M':Nat->Prop} (hc:aP h d=some (d',fr)) (hl:mP M h blk fr M') (hr:RT w (Own M h blk) h blk V d u):RP w M' d' u:=by
 have hk:∀b,b<w.heap.size->¬Own M h blk b->b<w.heap.size∧¬M' b∧w.heap[b]? = w.heap[b]?:=fun b h1 h2=>⟨h1,fun hb=>h2 (hl.le b hb),rfl⟩
 have one:∀d,Am.aP h d=(match Am.cZ h d with|some (d',fr)=>some (canon d',fr)|none=>none)->Am.aP h d=some (d',fr)->RT w (Own M h blk) h blk V d u->RP w M' d' u:=by
  intro d he hc hr
  rw[he]at hc
  split at hc
  ·rename_i d1 fr1 h1
   simp only[af0,Prod.mk.injEq]at hc
   obtain⟨rfl,rfl⟩:=hc
   exact (hI.cZ h1 hl hr).1.canon
  ·cases hc
 cases d with
 | ptr x v o =>
  simp only[Am.aP]at hc
  split at hc
  ·rename_i r hlv
   split at hc
   ·rename_i hle
    simp only[af0,Prod.mk.injEq]at hc
    obtain⟨rfl,rfl⟩:=hc
    obtain⟨hx,hv⟩:=bU hlv
    obtain⟨g,g0,g1⟩:=hr.2 r hx hv
    obtain⟨cs,g2,g3,g4⟩:=hI.DB hx g0 (gi hlv)
    subst g1
    refine .ip _ _ (fun j=>cs.getD (g.2+(o+j)) undef) (fun hne=>⟨g.1,g.2+o,rfl,hI.lt hx g0,hl.no x (by simp) r g hx g0,fun j hj =>?_⟩) (fun j y hj =>?_) (fun y hy =>?_)
    ·simp only[agb]at hj
     rw[agc]
     exact aK g2 (by omega)
    ·rw[af8]at hj
     exact (g4 _ _ hj).2.keep hk
    ·obtain⟨j,hj⟩:=agd hy
     rw[af8]at hj
     exact (g4 _ _ hj).1
   ·cases hc
  ·cases hc
 | agg xs=>simp only[Am.aP,af0,Prod.mk.injEq]at hc;obtain⟨rfl,rfl⟩:=hc;exact (RP.keep hk hr).e8
 | ip xs=>simp only[Am.aP,af0,Prod.mk.injEq]at hc;obtain⟨rfl,rfl⟩:=hc;exact RP.keep hk hr
 | fn f=>simp only[Am.aP,af0,Prod.mk.injEq]at hc;obtain⟨rfl,rfl⟩:=hc;exact RP.keep hk hr
 | box1 x v s o n =>
  simp only[Am.aP]at hc
  split at hc
  ·rename_i d1 fr1 h1
   simp only[af0,Prod.mk.injEq]at hc
   obtain⟨rfl,rfl⟩:=hc
   obtain⟨u',rfl,_,hr⟩:=hr
   obtain⟨k1,k2⟩:=hI.cZ h1 hl (show RT w (Own M h blk) h blk V (.buf x v s o n) u' from hr)
   refine .agg _ [u'] rfl (fun j x hj =>?_) (fun x hx =>?_)
   ·cases j with
    | zero=>simp only[List.getElem?_cons_zero,af0]at hj;subst hj;exact k1.canon
    | succ j=>simp at hj
   ·simp only[age]at hx
    rw[hx,kX]
    exact k2
  ·cases hc
 | mpc ks vs=>simp only[Am.aP,af0,Prod.mk.injEq]at hc;obtain⟨rfl,rfl⟩:=hc;exact RP.keep hk hr
 | mp x v =>
  simp only[Am.aP]at hc
  split at hc
  ·rename_i ks vs h1
   simp only[af0,Prod.mk.injEq]at hc
   obtain⟨rfl,rfl⟩:=hc
   exact hI.TA h1 (hl.no x (by simp)) hk hr
  ·cases hc
 | pm x v y =>
  simp only[Am.aP]at hc
  split at hc
  ·rename_i r hlv
   split at hc
   ·rename_i y' v' hcs
    split at hc
    ·rename_i hcond
     obtain⟨c1,c2,rfl⟩:=hcond
     split at hc
     ·rename_i ks vs h1
      simp only[af0,Prod.mk.injEq]at hc
      obtain⟨rfl,rfl⟩:=hc
      obtain⟨hx,hv⟩:=bU hlv
      obtain⟨g,g0,g1⟩:=hr.2 r hx hv
      obtain⟨u',k1,k2⟩:=hI.ali x r g hx c1 c2 g0 0 (.alm y' v') (.mp y' v') (by rw[hcs];rfl) rfl
      have k3:=hI.TA h1 (hl.no y' (by simp)) hk k2
      subst g1
      refine .ip _ _ (fun _=>u') (fun _=>⟨g.1,g.2+0,rfl,hI.lt hx g0,hl.no x (by simp) r g hx g0,fun j hj =>?_⟩) (fun j z hj =>?_) (fun z hz =>?_)
      ·simp only[List.length_cons,List.length_nil]at hj
       have:j=0:=by omega
       subst this
       exact k1
      ·cases j with
       | zero=>simp only[List.getElem?_cons_zero,af0]at hj;subst hj;exact k3
       | succ j=>simp at hj
      ·simp only[age]at hz
       subst hz
       rfl
     ·cases hc
    ·cases hc
   ·cases hc
  ·cases hc
 | _=>exact one _ rfl hc hr
theorem BV {w:World} {M:Nat->Prop} {h:Nat->Option Row} {blk:Nat->Option (Nat×Nat)} {V:Nat->Nat->Prop} {d:D} {u:Value} (hr:RC w M h blk V d u):RT w M h blk V d u:=by
 cases d with
 | ptr x v o=>exact hr
 | mp x v=>exact hr
 | pm x v y=>exact hr
 | _=>exact bq hr
theorem Inv.cH (hI:Inv N M L w0 blk V t h a w) {M':Nat->Prop} : ∀ {ds ds':List D} {fr:List Nat} {us:List Value},cH h ds=some (ds',fr)->mP M h blk fr M'->us.length=ds.length ->
  (∀j d,ds[j]? = some d->RT w (Own M h blk) h blk V d (us.getD j undef))->us.length=ds'.length∧∀j d,ds'[j]? = some d->RP w M' d (us.getD j undef)
 | [],ds',fr,us,hc,hl,hlen,hr=>by
  simp only[Am.cH,af0,Prod.mk.injEq]at hc
  obtain⟨rfl,rfl⟩:=hc
  exact⟨hlen,fun j d hj=>by simp at hj⟩
 | d::ds,ds',fr,us,hc,hl,hlen,hr=>by
  simp only[Am.cH]at hc
  split at hc
  ·rename_i d1 fr1 h1
   split at hc
   ·rename_i ds1 fr2 h2
    simp only[af0,Prod.mk.injEq]at hc
    obtain⟨rfl,rfl⟩:=hc
    cases us with
    | nil=>simp at hlen
    | cons u us =>
     have i1:=hI.aP h1 hl.left (hr 0 d rfl)
     obtain⟨i2,i3⟩:=hI.cH h2 hl.right (by simpa using hlen) (fun j d hj=>by simpa using hr (j+1) d (by simpa using hj))
     refine⟨by simp[i2],fun j x hj =>?_⟩
     cases j with
     | zero=>simp only[List.getElem?_cons_zero,af0]at hj;subst hj;simpa using i1
     | succ j=>simpa using i3 j x (by simpa using hj)
   ·cases hc
  ·cases hc
theorem Inv.bE (hI:Inv N M L w0 blk V t h a w) {d d':D} {fr:List Nat} {u:Value} {M':Nat->Prop} (hc:bE h d=some (d',fr)) (hl:mP M h blk fr M') (hr:RT w (Own M h blk) h blk V d u):RP w M' d' u:=by
 cases d with
 | clo f kk xs =>
  simp only[Am.bE]at hc
  split at hc
  ·rename_i ys fr1 h1
   simp only[af0,Prod.mk.injEq]at hc
   obtain⟨rfl,rfl⟩:=hc
   obtain⟨us,k1,k2,k3⟩:=hr
   subst k1
   obtain⟨i1,i2⟩:=hI.cH h1 hl k2 (fun j d hj=>BV (k3 j d hj))
   exact .clo f kk ys us i1 i2
  ·cases hc
 | _=>exact hI.aP (by rw[<- hc];rfl) hl hr
theorem Inv.bn (hI:Inv N M L w0 blk V t h a w) {M':Nat->Prop} : ∀ {ds ds':List D} {fr:List Nat} {us:List Value},bn h ds=some (ds',fr)->mP M h blk fr M'->us.length=ds.length ->
  (∀j d,ds[j]? = some d->RT w (Own M h blk) h blk V d (us.getD j undef))->us.length=ds'.length∧∀j d,ds'[j]? = some d->RP w M' d (us.getD j undef)
 | [],ds',fr,us,hc,hl,hlen,hr=>by
  simp only[Am.bn,af0,Prod.mk.injEq]at hc
  obtain⟨rfl,rfl⟩:=hc
  exact⟨hlen,fun j d hj=>by simp at hj⟩
 | d::ds,ds',fr,us,hc,hl,hlen,hr=>by
  simp only[Am.bn]at hc
  split at hc
  ·rename_i d1 fr1 h1
   split at hc
   ·rename_i ds1 fr2 h2
    simp only[af0,Prod.mk.injEq]at hc
    obtain⟨rfl,rfl⟩:=hc
    cases us with
    | nil=>simp at hlen
    | cons u us =>
     have i1:=hI.bE h1 hl.left (hr 0 d rfl)
     obtain⟨i2,i3⟩:=hI.bn h2 hl.right (by simpa using hlen) (fun j d hj=>by simpa using hr (j+1) d (by simpa using hj))
     refine⟨by simp[i2],fun j x hj =>?_⟩
     cases j with
     | zero=>simp only[List.getElem?_cons_zero,af0]at hj;subst hj;simpa using i1
     | succ j=>simpa using i3 j x (by simpa using hj)
   ·cases hc
  ·cases hc
theorem Inv.dY (hI:Inv N M L w0 blk V t h a w) {d:D} {cs:List D} {fr:List Nat} {u:Value} {M':Nat->Prop} (hc:dY h d=some (cs,fr)) (hl:mP M h blk fr M') (hr:RT w (Own M h blk) h blk V d u) :
  u.cells.size=cs.length∧∀j x,cs[j]? = some x->aS x=true∧RP w M' x (u.cells.getD j undef):=by
 have hk:∀b,b<w.heap.size->¬Own M h blk b->b<w.heap.size∧¬M' b∧w.heap[b]? = w.heap[b]?:=fun b h1 h2=>⟨h1,fun hb=>h2 (hl.le b hb),rfl⟩
 have one:∀d,(∀xs,d ≠ .agg xs)->Am.dY h d=some (cs,fr)->RT w (Own M h blk) h blk V d u->u.cells.size=cs.length∧∀j x,cs[j]? = some x->aS x=true∧RP w M' x (u.cells.getD j undef):=by
  intro d hne hc hr
  have:∃d',Am.cZ h d=some (d',fr)∧cs=[d']:=by
   have e:Am.dY h d=match Am.cZ h d with|some (d',fr)=>some ([d'],fr)|none=>none:=by
    cases d<;>first|rfl|exact absurd rfl (hne _)
   rw[e]at hc
   split at hc
   ·rename_i d' fr' h1
    simp only[af0,Prod.mk.injEq]at hc
    obtain⟨rfl,rfl⟩:=hc
    exact⟨d',h1,rfl⟩
   ·cases hc
  obtain⟨d',h1,rfl⟩:=this
  obtain⟨h2,h3⟩:=hI.cZ h1 hl hr
  rw[h2.cells h3]
  refine⟨rfl,fun j x hj =>?_⟩
  cases j with
  | zero=>simp only[List.getElem?_cons_zero,af0]at hj;subst hj;exact⟨h3,by simpa using h2⟩
  | succ j=>simp at hj
 cases d with
 | agg xs =>
  simp only[Am.dY,af0,Prod.mk.injEq]at hc
  obtain⟨rfl,rfl⟩:=hc
  have hr':RP w (Own M h blk) (.agg xs) u:=hr
  cases hr' with
  | agg xs us h1 h2 h3 =>
   refine⟨by simp[Value.cells,h1],fun j x hj=>⟨h3 x (agk hj),?_⟩⟩
   have:=(h2 j x hj).keep hk
   simpa [Value.cells] using this
 | _=>exact one _ (fun _ h=>by cases h) hc hr
end
theorem nM (g o j:Nat):(⟨g,o,none⟩:Addr).add j=⟨g,o+j,none⟩:=by unfold Addr.add;split<;>simp_all
def At (w:World) (M:Nat->Prop) (g o:Nat) (xs:List D):Prop:=∀j x,xs[j]? = some x->aS x=true∧∃v,w.cell? ⟨g,o+j,none⟩=some v∧RP w M x v
theorem At.drop {w:World} {M:Nat->Prop} {g o:Nat} {xs:List D} (h:At w M g o xs) (k:Nat):At w M g (o+k) (xs.drop k):=by
 intro j x hj
 rw[af8]at hj
 obtain⟨h1,v,h2,h3⟩:=h _ _ hj
 exact⟨h1,v,by rw[agc];exact h2,h3⟩
theorem At.take {w:World} {M:Nat->Prop} {g o:Nat} {xs:List D} (h:At w M g o xs) (k:Nat):At w M g o (xs.take k):=by
 intro j x hj
 rw[af7]at hj
 split at hj
 ·exact h _ _ hj
 ·cases hj
theorem At.aex {w:World} {M:Nat->Prop} {g o:Nat} {xs:List D} (h:At w M g o xs) :
  ∃us:List Value,us.length=xs.length∧(∀j u,us[j]? = some u->w.cell? ⟨g,o+j,none⟩=some u)∧(∀j x,xs[j]? = some x->RP w M x (us.getD j undef))∧(∀x∈xs,aS x=true):=by
 refine⟨(List.range xs.length).map fun j=>(w.cell? ⟨g,o+j,none⟩).getD undef,by simp,fun j u hj =>?_,fun j x hj =>?_,fun x hx =>?_⟩
 ·obtain⟨hlt,he⟩:=agl.1 hj
  simp only[agm,agn]at hlt
  simp only[List.getElem_map,ago]at he
  obtain⟨_,v,h2,_⟩:=h j _ (af4 hlt)
  rw[h2]at he ⊢
  simpa using he
 ·have hlt:j<xs.length:=(agl.1 hj).1
  obtain⟨_,v,h2,h3⟩:=h j x hj
  have:((List.range xs.length).map fun j=>(w.cell? ⟨g,o+j,none⟩).getD undef).getD j undef=v:=by
   simp[List.getD,afO,hlt,h2]
  rw[this];exact h3
 ·obtain⟨j,hj⟩:=agd hx
  exact (h j x hj).1
section
variable {P:Program} {T:Nat->Option Ty}
theorem kC {ty:Nat} {τ:Ty} (hτ:de P ty τ) (w:World):(isAgg ty).run P w=.ok τ.ds.nn w:=by
 obtain⟨d,i,z,h1,h2,h3,h4,h5,h6,h7⟩:=hτ.get
 rw[<- h2]
 simp only[isAgg,agp,run_underlying h1,Result.andThen_ok]
 cases d<;>rfl
theorem run_sizeOf {ty:Nat} {τ:Ty} (hτ:de P ty τ) (w:World):(sizeOf ty).run P w=.ok τ.size w:=by
 obtain⟨d,i,z,h1,h2,h3,h4,h5,h6,h7⟩:=hτ.get
 simp[Go.sizeOf,typeInfo,h3,h4]
theorem iz {ty:Nat} {τ:Ty} (hτ:de P ty τ) (w:World):∃z,(zeroValue ty).run P w=.ok z w∧z.cells=τ.zero.toArray:=by
 obtain⟨d,i,z,h1,h2,h3,h4,h5,h6,h7⟩:=hτ.get
 exact⟨z,by simp[zeroValue,typeInfo,h3,h6],h7⟩
theorem jk {ty:Nat} {τ:Ty} (hτ:de P ty τ) (w:World) (g o:Nat) (us:List Value) (hl:us.length=τ.size) (hc:∀j u,us[j]? = some u->w.cell? ⟨g,o+j,none⟩=some u)
  (h1:τ.ds.nn=false->us.length=1):(loadVar ty ⟨g,o,none⟩).run P w=.ok (if τ.ds.nn then .agg us.toArray else us.getD 0 undef) w:=by
 simp only[loadVar,agp,kC hτ,Result.andThen_ok]
 cases ha:τ.ds.nn with
 | true =>
  have:=run_loadCells_list (P:=P) w ⟨g,o,none⟩ us (fun j v hj=>by rw[nM];exact hc j v hj)
  rw[hl]at this
  simp[run_sizeOf hτ,this]
 | false =>
  have hl1:=h1 ha
  match us,hl1 with
  | [u],_ =>
   have:=hc 0 u rfl
   simp only[Nat.add_zero]at this
   simp[run_load,this]
variable {N:Nat} {M:Nat->Prop} {L:iB} {w0:World} {blk:Nat->Option (Nat×Nat)} {V:Nat->Nat->Prop} {t:Nat->D} {h:Nat->Option Row} {a:Act} {w:World} {e:Nat} {o:Oper} {Γ:Env}
def aX (N:Nat) (M:Nat->Prop) (L:iB) (w0:World) (V:Nat->Nat->Prop) (t:Nat->D) (h:Nat->Option Row) (a:Act) (e:Nat) (dst:Option Nat) (E:bu) (v:Value) (w':World):Prop :=
 ∃blk',Inv N M L w0 blk' (fun x n=>V x n∨(dst=some x∧n=e)) t (aH h E.hw) a w' ∧
  RT w' (Own M (aH h E.hw) blk') (aH h E.hw) blk' (fun x n=>V x n∨(dst=some x∧n=e)) E.val v
theorem aX.dh (hI:Inv N M L w0 blk V t h a w) {d:D} {v:Value} {dst:Option Nat} (hr:RT w (Own M h blk) h blk V d v):aX N M L w0 V t h a e dst ⟨d,[]⟩ v w :=
 ⟨blk,hI.weaken fun _ _ h =>.inl h,hr.mono ⟨fun _ h1 h2=>⟨h1,h2,rfl⟩,fun _ _ h =>.inl h,fun _ _ _ r' h1 h2=>⟨⟨r',h1,h2⟩,rfl,fun _ _=>rfl⟩⟩⟩
theorem aX.JK (hI:Inv N M L w0 blk V t h a w) {d:D} {v:Value} {dst:Option Nat} (fr:List Nat) (hr:RP w (Own M (aH h (gP h fr)) blk) d v):aX N M L w0 V t h a e dst ⟨d,gP h fr⟩ v w :=
 ⟨blk,(hI.freeze fr).weaken fun _ _ h =>.inl h,bq hr⟩
theorem aD {v:Value} {w':World} {Φ:Value->World->Prop} (hr:(execOp a.eval o).run P w=.ok (.value v) w') (hp:Φ v w'):dA P o a w Φ := .inl ⟨v,w',hr,hp⟩
theorem G0 (hI:Inv N M L w0 blk V t h a w) {x:Operand} (ho:o.op=.move x∨o.op=.assign x):dA P o a w (aX N M L w0 V t h a e o.dst ⟨ev t x,[]⟩):=by
 refine aD (v:=a.eval x) (w':=w) ?_ (aX.dh hI (hI.ev x))
 rcases ho with ho|ho<;>simp[execOp,ho]
theorem z8 (hI:Inv N M L w0 blk V t h a w) {ty:Nat} {x:Operand} {E:bu} (ho:o.op=.assign x) (hV:∀d,o.dst=some d->hX N V d e) (hE:bG T ty e o.dst h (ev t x)=some E):dA P o a w (aX N M L w0 V t h a e o.dst E):=by
 have hp:=hI.ev x
 have hstay:E=⟨ev t x,[]⟩->dA P o a w (aX N M L w0 V t h a e o.dst E):=fun h=>by subst h;exact G0 hI (.inr ho)
 generalize ev t x=q at *
 have hrun:(execOp a.eval o).run P w=.ok (.value (a.eval x)) w:=by simp[execOp,ho]
 cases q with
 | buf y v s c n =>
  simp only[bG]at hE
  split at hE
  ·rename_i d r hd hl
   split at hE
   ·simp only[af0]at hE
    exact hstay hE.symm
   ·rename_i hz
    simp only[Bool.not_eq_true]at hz
    simp only[af0]at hE
    subst hE
    obtain⟨hy,hv⟩:=bU hl
    have hI':=hI.WC (w':=w) (h1:=forget h (some y)) (old:=some y) (d:=d) (e:=e) (ty:=r.ty) (lst:=r.lst) (fz:=r.fz) (hfz:=hz) (go:=blk y) (cs:=r.cells) rfl rfl rfl (afR _) (fun _ _ _=>rfl)
     (fun y' hy'=>by cases hy';exact⟨r,hy,hz⟩) rfl (hV d hd) (by
      have:=(hI.rows y r hy).2
      cases hg:blk y with
      | none=>rw[hg]at this;exact this
      | some g =>
       rw[hg]at this
       have k0:=this.2
       unfold dw at k0
       rw[gi hl]at k0
       obtain⟨cs,k1,k2,k3⟩:=k0
       exact⟨.inr ⟨y,g,rfl,hg,rfl⟩,cs,k1,k2,k3⟩)
    have e1:({ r with v:=e } : Row)=⟨e,r.ty,r.cells,r.fz,r.lst,false⟩:=by rw[<- gi hl]
    rw[e1]
    refine aD hrun ⟨bB blk d (blk y),?_,?_⟩
    ·show Inv _ _ _ _ _ _ _ (bB (bB h y none) d (some _)) _ _
     refine hI'.weaken fun x v hx =>?_
     rcases hx with hx|⟨rfl,rfl⟩
     ·exact .inl hx
     ·exact .inr ⟨hd,rfl⟩
    ·refine⟨.inr ⟨hd,rfl⟩,fun r' _ _ =>?_⟩
     rw[aq]
     exact hp.2 r hy hv
  ·split at hE
   ·simp only[af0]at hE
    exact hstay hE.symm
   ·simp only[af0]at hE
    subst hE
    exact aD hrun ⟨blk,hI.weaken fun _ _ h =>.inl h,trivial⟩
 | sl nl tight n xs =>
  unfold bG at hE
  split at hE
  ·rename_i hq;cases hq
  ·rename_i hq
   cases hq
   split at hE
   ·rename_i d τ hd hτ
    split at hE
    ·rename_i el hds
     split at hE
     ·rename_i φ hφ
      simp only[af0]at hE
      subst hE
      have hu:a.eval x=.slice none 0 0:=by
       have hp':RP w (Own M h blk) (.sl true true 0 []) (a.eval x):=hp
       generalize a.eval x=u at *
       cases hp' with
       | sl A c nl tight n xs us h1 h2 h3 h4 h5 h6 h7 h8=>obtain⟨rfl,rfl⟩:=(h3 rfl).1 rfl;rfl
      have hI':=hI.WC (w':=w) (h1:=forget h none) (old:=none) (d:=d) (e:=e) (ty:=el) (lst:=true) (fz:=false) (go:=none) (cs:=[]) rfl rfl rfl (afR _) (fun _ _ _=>rfl)
       (fun y' hy'=>by cases hy') rfl (hV d hd) rfl
      refine aD hrun ⟨bB blk d none,?_,?_⟩
      ·refine hI'.weaken fun x v hx =>?_
       rcases hx with hx|⟨rfl,rfl⟩
       ·exact .inl hx
       ·exact .inr ⟨hd,rfl⟩
      ·refine⟨.inr ⟨hd,rfl⟩,fun r' _ _ =>.inr ⟨aq _ _ _,rfl,none,hu⟩⟩
     ·cases hE
    ·cases hE
   ·cases hE
  ·simp only[af0]at hE
   exact hstay hE.symm
 | _=>exact hstay (by simp only[bG,af0]at hE;exact hE.symm)
theorem Xm (hI:Inv N M L w0 blk V t h a w) {ty:Nat} {q:Nat->Bool} {x:Operand} {E:bu} (ho:o.op=.assign x) (hV:∀d,o.dst=some d->hX N V d e) (hE:pH T q ty e o.dst h (ev t x)=some E):dA P o a w (aX N M L w0 V t h a e o.dst E):=by
 have hx:=hI.ev x
 unfold pH at hE
 split at hE
 ·rename_i d hd
  split at hE
  ·rw[<- hd]at hE
   exact z8 hI ho hV hE
  ·unfold gF at hE
   split at hE
   ·rename_i d' fr hc
    simp only[af0]at hE
    subst hE
    exact aD (v:=a.eval x) (w':=w) (by simp[execOp,ho]) (aX.JK hI fr (hI.nR hc (hI.eS fr) hx).e8)
   ·cases hE
 ·rename_i hd
  rw[<- hd]at hE
  exact z8 hI ho hV hE
theorem uk {b:Bool} {u:Value} {h:Nat->Option Row} (hr:RT w M h blk V (.bool b) u):u=.bool b:=by
 have h':RP w M (.bool b) u:=hr
 cases h';rfl
theorem kI {k:IntKind} {n:Int} {u:Value} {h:Nat->Option Row} (hr:RT w M h blk V (.int k n) u):u=.int k n:=by
 have h':RP w M (.int k n) u:=hr
 cases h';rfl
theorem BX {s:ByteArray} {u:Value} {h:Nat->Option Row} (hr:RT w M h blk V (.str s) u):u=.string s:=by
 have h':RP w M (.str s) u:=hr
 cases h';rfl
theorem G1 (hI:Inv N M L w0 blk V t h a w) {c x y:Operand} {b:Bool} (ho:o.op=.pick c x y) (hc:ev t c=.bool b):dA P o a w (aX N M L w0 V t h a e o.dst ⟨ev t (if b then x else y),[]⟩):=by
 refine aD (v:=a.eval (if b then x else y)) (w':=w) ?_ (aX.dh hI (hI.ev _))
 have h1:=hI.ev c
 rw[hc]at h1
 have h2:=uk h1
 cases b<;>simp[execOp,ho,h2,asBool]
theorem oG (zs:List Value) (hz:(zs.map lh).all aS=true) {w:World} {M:Nat->Prop} (j:Nat) (x:D) (hj:(zs.map lh)[j]? = some x):aS x=true∧RP w M x (zs.toArray.getD j undef):=by
 have hp:aS x=true:=by
  rw[af2]at hz
  exact hz x (agk hj)
 refine⟨hp,?_⟩
 rw[afO]at hj
 cases hv:zs[j]? with
 | none=>simp[hv]at hj
 | some v =>
  simp only[hv,Option.map_some,af0]at hj
  subst hj
  have hv':zs.toArray.getD j undef=v:=by simp[hv]
  rw[hv']
  have:=Wy w M (fun _=>none) (fun _=>none) (fun _ _=>True) v
  generalize lh v=d at *
  cases d<;>first|exact this|simp[aS]at hp
theorem BW {d e:Nat} {g:Nat×Nat} {o:Nat} {V':Nat->Nat->Prop} {h':Nat->Option Row} {blk':Nat->Option (Nat×Nat)} (hV:V' d e) (hb:blk' d=some g):RT w M h' blk' V' (.ptr d e o) (.pointer (some ⟨g.1,g.2+o,none⟩)) :=
 ⟨hV,fun _ _ _=>⟨g,hb,rfl⟩⟩
theorem PW {hint:Nat->Option Nat} (hT:gz P T) (hI:Inv N M L w0 blk V t h a w) {ty d:Nat} {τ:Ty} (ho:o.op=.alloc ty) (hd:o.dst=some d) (hτ:T ty=some τ) (hV:hX N V d e) (hz:(τ.zero.map lh).all aS=true) :
  dA P o a w (aX N M L w0 V t h a e o.dst ⟨match hint d with|some y =>.pm d e y|none =>.ptr d e 0,[(d,some ⟨e,ty,τ.zero.map lh,false,false,false⟩)]⟩):=by
 obtain⟨z,hz1,hz2⟩:=iz (hT ty τ hτ) w
 have hI':=hI.alloc (d:=d) (e:=e) (ty:=ty) (lst:=false) (cs:=τ.zero.map lh) (vs:=τ.zero.toArray) hV (by simp) (fun j x hj=>oG τ.zero hz j x hj)
 refine aD (v := .pointer (some ⟨w.heap.size,0,none⟩)) (w':=w.alloc (.cells τ.zero.toArray ty)) ?_ ⟨bB blk d (some (w.heap.size,0)),?_,?_⟩
 ·simp[execOp,ho,Instr.alloc,hz1,newVar,newRow,hz2]
 ·refine hI'.weaken fun x v hx =>?_
  rcases hx with hx|⟨rfl,rfl⟩
  ·exact .inl hx
  ·exact .inr ⟨hd,rfl⟩
 ·cases hint d with
  | none=>exact BW (g:=(w.heap.size,0)) (o:=0) (.inr ⟨hd,rfl⟩) (aq _ _ _)
  | some y=>exact⟨.inr ⟨hd,rfl⟩,fun _ _ _=>⟨(w.heap.size,0),aq _ _ _,rfl⟩⟩
theorem za {fr:List Nat} {x:Nat} (hx:fr.contains x=false):aH h (gP h fr) x=h x:=by
 rw[y9,if_neg (by simpa using hx)]
theorem Xo (hI:Inv N M L w0 blk V t h a w) {ty d:Nat} {x:Operand} {cs:List D} {fr:List Nat} (ho:o.op=.box ty x) (hd:o.dst=some d) (hV:hX N V d e) (hc:dY h (ev t x)=some (cs,fr)) :
  dA P o a w (aX N M L w0 V t h a e o.dst ⟨.ptr d e 0,gP h fr++[(d,some ⟨e,ty,cs,false,false,false⟩)]⟩):=by
 obtain⟨h1,h2⟩:=hI.dY hc (hI.eS fr) (hI.ev x)
 have hI':=(hI.freeze fr).alloc (d:=d) (e:=e) (ty:=ty) (lst:=false) (cs:=cs) (vs:=(a.eval x).cells) hV (by omega) h2
 refine aD (v := .pointer (some ⟨w.heap.size,0,none⟩)) (w':=w.alloc (.cells (a.eval x).cells ty)) ?_ ⟨bB blk d (some (w.heap.size,0)),?_,?_⟩
 ·simp[execOp,ho,Instr.box,newVar,newRow]
 ·show Inv _ _ _ _ _ _ _ (aH h (gP h fr++[(d,some ⟨e,ty,cs,false,false,false⟩)])) _ _
  rw[fB]
  refine hI'.weaken fun x v hx =>?_
  rcases hx with hx|⟨rfl,rfl⟩
  ·exact .inl hx
  ·exact .inr ⟨hd,rfl⟩
 ·exact BW (g:=(w.heap.size,0)) (o:=0) (.inr ⟨hd,rfl⟩) (aq _ _ _)
theorem Inv.rowAt (hI:Inv N M L w0 blk V t h a w) {x:Nat} {r:Row} {g:Nat×Nat} (hx:h x=some r) (hg:blk x=some g) (hmp:r.mp=false):At w (Own M h blk) g.1 g.2 r.cells:=by
 obtain⟨cs,h3,h4,h5⟩:=hI.DB hx hg hmp
 intro j d hj
 have hlt:=(agl.1 hj).1
 exact⟨(h5 j d hj).1,cs.getD (g.2+j) undef,aK h3 (by omega),(h5 j d hj).2⟩
theorem RP.adA {M':Nat->Prop} {xs:List D} {u:Value} (hr:RP w M' (.ip xs) u):∃ad,u=.pointer (some ad)∧(xs≠[]->∃b o,ad=⟨b,o,none⟩∧At w M' b o xs):=by
 cases hr with
 | ip xs ad us h6 h7 h8 =>
  refine⟨ad,rfl,fun hne =>?_⟩
  obtain⟨b,o,rfl,_,_,g3⟩:=h6 hne
  exact⟨b,o,rfl,fun j x hj=>⟨h8 x (agk hj),us j,g3 j (agl.1 hj).1,h7 j x hj⟩⟩
theorem oO (hT:gz P T) (hI:Inv N M L w0 blk V t h a w) {ty:Nat} {p:Operand} {τ:Ty} {g c:Nat} {xs:List D} {d:D} (ho:o.op=.load ty p) (hτ:T ty=some τ) (hp:a.eval p=.pointer (some ⟨g,c,none⟩))
  (hat:At w (Own M h blk) g c xs) (hl:xs.length=τ.size) (hd:iL τ xs=some d):dA P o a w (aX N M L w0 V t h a e o.dst ⟨d,[]⟩):=by
 obtain⟨us,h1,h2,h3,h4⟩:=hat.aex
 have hone:τ.ds.nn=false->xs.length=1∧xs=[d]:=by
  intro hf
  simp only[iL,hf,ags,if_false]at hd
  split at hd
  ·simp only[af0]at hd;subst hd;exact⟨rfl,rfl⟩
  ·cases hd
 have hrun:=jk (hT ty τ hτ) w g c us (by rw[h1,hl]) h2 (fun hf=>by rw[h1];exact (hone hf).1)
 refine aD (v:=if τ.ds.nn then .agg us.toArray else us.getD 0 undef) (w':=w) ?_ (aX.dh hI ?_)
 ·simp[execOp,ho,Instr.loadAt,Instr.sureAddr,hp,hrun]
 ·apply bq
  cases ha:τ.ds.nn with
  | true =>
   simp only[iL,ha,if_true,af0]at hd
   subst hd
   exact .agg xs us h1 h3 h4
  | false =>
   obtain⟨_,rfl⟩:=hone ha
   exact h3 0 d rfl
theorem Jy (hT:gz P T) (hI:Inv N M L w0 blk V t h a w) {ty:Nat} {p:Operand} {τ:Ty} {x c:Nat} {r:Row} {g:Nat×Nat} {d:D} (ho:o.op=.load ty p) (hτ:T ty=some τ) (hp:a.eval p=.pointer (some ⟨g.1,g.2+c,none⟩))
  (hx:h x=some r) (hmp:r.mp=false) (hz:r.fz=true) (hl:r.lst=false) (hg:blk x=some g) (hle:c+τ.size<=r.cells.length) (hd:PR τ.ds.nn ((r.cells.drop c).take τ.size)=some d):dA P o a w (aX N M L w0 V t h a e o.dst ⟨d,[]⟩):=by
 have hlen:((r.cells.drop c).take τ.size).length=τ.size:=by simp;omega
 generalize hcs:(r.cells.drop c).take τ.size=cs at hd hlen
 unfold PR at hd
 split at hd
 ·rename_i y v s o' n
  simp only[af0]at hd
  have hs1:τ.size=1:=by simpa using hlen.symm
  have hj:r.cells[c]? = some (.ali y v s o' n):=by
   have:((r.cells.drop c).take τ.size)[0]? = some (.ali y v s o' n):=by rw[hcs];rfl
   rw[b9,if_pos (by omega)]at this
   simpa using this
  obtain⟨u,h1,h2⟩:=hI.ali x r g hx hz hl hg c _ (.buf y v s o' n) hj rfl
  have hrun:=jk (hT ty τ hτ) w g.1 (g.2+c) [u] (by simpa using hs1.symm) (fun j v hj=>by
   cases j with
   | zero=>simp only[List.getElem?_cons_zero,af0]at hj;subst hj;simpa using h1
   | succ j=>simp at hj) (fun _=>rfl)
  refine aD (v:=if τ.ds.nn then .agg [u].toArray else [u].getD 0 undef) (w':=w) ?_ (aX.dh hI ?_)
  ·simp[execOp,ho,Instr.loadAt,Instr.sureAddr,hp,hrun]
  ·cases hA:τ.ds.nn with
   | false =>
    rw[hA]at hd
    simp only[ags,if_false]at hd
    subst hd
    exact h2
   | true =>
    rw[hA]at hd
    simp only[if_true]at hd
    subst hd
    obtain⟨_,u2,c2,r2⟩:=hI.rowAt hx hg hmp c _ hj
    rw[h1]at c2
    cases c2
    exact⟨u,rfl,r2.pg rfl,h2⟩
 ·cases hd
theorem UX (hT:gz P T) (hI:Inv N M L w0 blk V t h a w) {ty:Nat} {p:Operand} {τ:Ty} {E:bu} (ho:o.op=.load ty p) (hτ:T ty=some τ) (hE:di τ h (ev t p)=some E):dA P o a w (aX N M L w0 V t h a e o.dst E):=by
 have hp:=hI.ev p
 generalize ev t p=q at *
 cases q with
 | ptr x v c =>
  simp only[di]at hE
  split at hE
  ·rename_i r hl
   split at hE
   ·rename_i hle
    split at hE
    ·rename_i d hd
     simp only[af0]at hE
     subst hE
     obtain⟨hx,hv⟩:=bU hl
     obtain⟨g,hg,hp'⟩:=hp.2 r hx hv
     have:=((hI.rowAt hx hg (gi hl)).drop c).take τ.size
     exact oO hT hI ho hτ hp' this (by simp;omega) hd
    ·cases hE
   ·cases hE
  ·cases hE
 | ip xs =>
  simp only[di]at hE
  split at hE
  ·rename_i hle
   split at hE
   ·rename_i d hd
    simp only[af0]at hE
    subst hE
    obtain⟨ad,h1,h2⟩:=RP.adA (M':=Own M h blk) hp
    by_cases hne:xs=[]
    ·subst hne
     have hz:τ.size=0:=by simpa using hle
     have hA:τ.ds.nn=true:=by
      cases hA:τ.ds.nn with
      | true=>rfl
      | false=>simp[iL,hA]at hd
     have hsz:=run_sizeOf (hT ty τ hτ) w
     refine aD (v := .agg #[]) (w':=w) ?_ (aX.dh hI ?_)
     ·simp[execOp,ho,Instr.loadAt,Instr.sureAddr,h1,loadVar,kC (hT ty τ hτ),hA,hsz,hz,loadCells,loadCellsFrom]
     ·simp only[iL,hA,if_true,List.take_nil,af0]at hd
      subst hd
      exact bq (.agg [] [] rfl (fun j x hj=>by simp at hj) (fun x hx=>by simp at hx))
    ·obtain⟨b,c,rfl,g3⟩:=h2 hne
     exact oO hT hI ho hτ h1 (At.take g3 _) (by simp;omega) hd
   ·cases hE
  ·cases hE
 | _=>simp[di]at hE
theorem wJ {h:Nat->Option Row} {x v:Nat} {r:Row} {y s n:Nat} (hl:kp h x v=some (r,y,s,n)):h x=some r∧r.v=v∧r.mp=true∧r.cells=[.ph y s n]:=by
 unfold kp at hl
 split at hl
 ·rename_i r' hx
  split at hl
  ·rename_i hc
   split at hl
   ·rename_i y' s' n' hcs
    simp only[af0,Prod.mk.injEq]at hl
    obtain⟨rfl,rfl,rfl,rfl⟩:=hl
    exact⟨hx,hc.1,hc.2,hcs⟩
   ·cases hl
  ·cases hl
 ·cases hl
theorem Xr (hT:gz P T) (hI:Inv N M L w0 blk V t h a w) {ty:Nat} {p:Operand} {τ:Ty} {x v y:Nat} {E:bu} (ho:o.op=.load ty p) (hτ:T ty=some τ) (hp:RT w (Own M h blk) h blk V (.pm x v y) (a.eval p)) (hE:nW τ h x v y (kp h x v)=some E):dA P o a w (aX N M L w0 V t h a e o.dst E):=by
 cases hl:kp h x v with
 | none=>rw[hl]at hE;cases hE
 | some q =>
  obtain⟨ry,y',s,n⟩:=q
  rw[hl]at hE
  simp only[nW]at hE
  obtain⟨hx,hv,hmp,hcs⟩:=wJ hl
  split at hE
  ·rename_i r hy
   split at hE
   ·rename_i hcond
    obtain⟨rfl,c2,c3,c4,c5,c6⟩:=hcond
    simp only[af0]at hE
    subst hE
    obtain⟨g,hg,hp'⟩:=hp.2 ry hx hv
    obtain⟨_,u,h1,h2⟩:=hI.pha x ry g hx hmp hg 0 _ _ _ (by rw[hcs];rfl)
    have hrun:=jk (hT ty τ hτ) w g.1 (g.2+0) [u] (by simpa using c6.symm) (fun j v hj=>by
     cases j with
     | zero=>simp only[List.getElem?_cons_zero,af0]at hj;subst hj;simpa using h1
     | succ j=>simp at hj) (fun _=>rfl)
    have hless:=hI.eS [y']
    have hk:∀b,b<w.heap.size->¬Own M h blk b->b<w.heap.size∧¬Own M (aH h (gP h [y'])) blk b∧w.heap[b]? = w.heap[b]?:=fun b h1 h2=>⟨h1,fun hb=>h2 (hless.le b hb),rfl⟩
    have hsl:RP w (Own M (aH h (gP h [y'])) blk) (.sl false false n r.cells) u:=by
     rcases h2 r hy with⟨g',c,N',ty',g0,rfl,g2,g3,g4,g5⟩|⟨g0,rfl,A,rfl⟩
     ·obtain⟨arr,k1,k2,k3⟩:=hI.DB hy g0 c3
      refine .sl (some ⟨g'.1,g'.2,none⟩) c false false n _ (fun j=>arr.getD (g'.2+j) undef) g3 g4 (fun h=>by cases h) (fun h=>by cases h) (fun h=>by cases h) (fun _=>⟨g'.1,g'.2,rfl,hI.lt hy g0,hless.no y' (by simp) r g' hy g0,fun j hj=>aK k1 (by omega)⟩) (fun j d hj=>(k3 j d hj).2.keep hk) (fun d hd =>?_)
      obtain⟨j,hj⟩:=agd hd
      exact (k3 j d hj).1
     ·have:=(hI.rows y' r hy).2
      rw[g0]at this
      have hc:r.cells=[]:=this
      rw[hc]
      exact .sl A 0 false false 0 [] (fun _=>undef) (afR _) (afS _) (fun h=>by cases h) (fun _=>⟨rfl,rfl⟩) (fun h=>by cases h) (fun h=>absurd rfl h) (fun j d hj=>by simp at hj) (fun d hd=>by simp at hd)
    simp only[Nat.add_zero]at hrun hp'
    refine aD (v:=if τ.ds.nn then .agg [u].toArray else [u].getD 0 undef) (w':=w) ?_ (aX.JK hI [y'] ?_)
    ·simp[execOp,ho,Instr.loadAt,Instr.sureAddr,hp',hrun]
    ·cases hA:τ.ds.nn with
     | false=>exact hsl
     | true =>
      refine .agg [_] [u] rfl (fun j d hj =>?_) (fun d hd =>?_)
      ·cases j with
       | zero=>simp only[List.getElem?_cons_zero,af0]at hj;subst hj;exact hsl
       | succ j=>simp at hj
      ·simp only[age]at hd
       subst hd
       rfl
   ·cases hE
  ·cases hE
theorem aaw (hT:gz P T) (hI:Inv N M L w0 blk V t h a w) {ty:Nat} {p:Operand} {τ:Ty} {E:bu} (ho:o.op=.load ty p) (hτ:T ty=some τ) (hE:mf τ h (ev t p)=some E):dA P o a w (aX N M L w0 V t h a e o.dst E):=by
 have hp:=hI.ev p
 have hold:=UX (P:=P) (o:=o) (e:=e) (E:=E) hT hI ho hτ
 generalize ev t p=q at *
 cases q with
 | ptr x v c =>
  simp only[mf]at hE
  cases hl:live h x v with
  | none=>rw[hl]at hE;cases hE
  | some r =>
   rw[hl]at hE
   simp only[mH]at hE
   split at hE
   ·rename_i hfl
    simp only[agt,agu]at hfl
    split at hE
    ·rename_i hle
     split at hE
     ·rename_i d had
      simp only[af0]at hE
      subst hE
      obtain⟨hx,hv⟩:=bU hl
      obtain⟨g,hg,hp'⟩:=hp.2 r hx hv
      exact Jy hT hI ho hτ hp' hx (gi hl) hfl.1 hfl.2 hg hle had
     ·exact hold hE
    ·cases hE
   ·exact hold hE
 | pm x v y =>
  simp only[mf]at hE
  split at hE
  ·rename_i r hl
   split at hE
   ·rename_i y' v' hcs
    split at hE
    ·rename_i hcond
     obtain⟨c1,c2,c3,c4⟩:=hcond
     simp only[af0]at hE
     subst hE
     obtain⟨hx,hv⟩:=bU hl
     obtain⟨g,hg,hp'⟩:=hp.2 r hx hv
     obtain⟨u,h1,h2⟩:=hI.ali x r g hx c1 c2 hg 0 (.alm y' v') (.mp y' v') (by rw[hcs];rfl) rfl
     have hrun:=jk (hT ty τ hτ) w g.1 (g.2+0) [u] (by simpa using c3.symm) (fun j v hj=>by
      cases j with
      | zero=>simp only[List.getElem?_cons_zero,af0]at hj;subst hj;simpa using h1
      | succ j=>simp at hj) (fun _=>rfl)
     refine aD (v:=u) (w':=w) ?_ (aX.dh hI h2)
     rw[c4]at hrun
     simp only[Nat.add_zero]at hrun hp'
     simp[execOp,ho,Instr.loadAt,Instr.sureAddr,hp',hrun]
    ·cases hE
   ·cases hE
  ·exact Xr hT hI ho hτ hp hE
 | _=>exact hold hE
theorem po (cur:Array Value) (us:List Value) (c j:Nat) (hle:c+us.length<=cur.size) :
  (cur.toList.take c++us++cur.toList.drop (c+us.length)).toArray.getD j undef=if j<c then cur.getD j undef else if j<c+us.length then us.getD (j-c) undef else cur.getD j undef:=by
 have hmin:min c cur.size=c:=by omega
 simp only[afW,List.getElem?_toArray,agv]
 by_cases h1:j<c
 ·rw[if_pos h1,agw (by simp;omega),agw (by simp;omega),af7,if_pos h1]
  simp
 ·rw[if_neg h1]
  by_cases h2:j<c+us.length
  ·rw[if_pos h2,agw (by simp;omega),agx (by simp;omega)]
   simp[hmin]
  ·rw[if_neg h2,agx (by simp;omega),af8]
   have:c+us.length+(j-(List.take c cur.toList++us).length)=j:=by simp;omega
   rw[this]
   simp
theorem kv {cells cs:List D} {c j:Nat} (hle:c+cs.length<=cells.length):(putCells cells c cs)[j]? = if j<c then cells[j]? else if j<c+cs.length then cs[j-c]? else cells[j]?:=by
 have hmin:min c cells.length=c:=by omega
 unfold putCells
 by_cases h1:j<c
 ·rw[if_pos h1,agw (by simp;omega),agw (by simp;omega),af7,if_pos h1]
 ·rw[if_neg h1]
  by_cases h2:j<c+cs.length
  ·rw[if_pos h2,agw (by simp;omega),agx (by simp;omega)]
   simp[hmin]
  ·rw[if_neg h2,agx (by simp;omega),af8]
   congr 1
   simp;omega
theorem ib {cells cs:List D} {c:Nat} (hle:c+cs.length<=cells.length):(putCells cells c cs).length=cells.length:=by
 simp[putCells];omega
theorem spliced {w:World} {M:Nat->Prop} {cells cs:List D} {cur:Array Value} {us:List Value} {b c:Nat} (hle:c+cs.length<=cells.length) (hus:us.length=cs.length) (hcur:b+cells.length<=cur.size)
  (h5:∀j d,cells[j]? = some d->aS d=true∧RP w M d (cur.getD (b+j) undef)) (u2:∀j d,cs[j]? = some d->aS d=true∧RP w M d (us.getD j undef)) (j:Nat) (d:D) (hj:(putCells cells c cs)[j]? = some d) :
  aS d=true∧RP w M d ((cur.toList.take (b+c)++us++cur.toList.drop (b+c+us.length)).toArray.getD (b+j) undef):=by
 rw[kv hle]at hj
 rw[po _ _ _ _ (by omega),hus]
 split
 ·rename_i h1
  rw[if_pos (by omega)]at hj
  exact h5 j d hj
 ·rename_i h1
  rw[if_neg (by omega)]at hj
  split
  ·rename_i h2
   rw[if_pos (by omega)]at hj
   have:b+j-(b+c)=j-c:=by omega
   rw[this]
   exact u2 _ d hj
  ·rename_i h2
   rw[if_neg (by omega)]at hj
   exact h5 j d hj
theorem DA (b:Bool) (cs:List D):(pj b cs).length=cs.length:=by cases b<;>simp[pj]
theorem Rh {w:World} {M:Nat->Prop} {cs:List D} {us:List Value} {b:Bool} (u2:∀j d,cs[j]? = some d->aS d=true∧RP w M d (us.getD j undef)) (j:Nat) (d:D) (hj:(pj b cs)[j]? = some d):aS d=true∧RP w M d (us.getD j undef):=by
 cases b with
 | false=>exact u2 j d hj
 | true =>
  simp only[pj,if_true,afO,afP]at hj
  obtain⟨x,hx,rfl⟩:=hj
  obtain⟨k1,k2⟩:=u2 j x hx
  exact⟨by rw[kX];exact k1,k2.canon⟩
theorem P5 (hT:gz P T) (hI:Inv N M L w0 blk V t h a w) {ty:Nat} {p x:Operand} {τ:Ty} {E:bu} (ho:o.op=.store ty p x) (hτ:T ty=some τ) (hE:cB τ h (ev t p) (ev t x)=some E):dA P o a w (aX N M L w0 V t h a e o.dst E):=by
 have hp:=hI.ev p
 have hq:=hI.ev x
 generalize ev t p=q at *
 generalize ev t x=z at *
 cases q with
 | ptr y v c =>
  simp only[cB]at hE
  split at hE
  ·rename_i r hl
   split at hE
   ·rename_i cs fr hc
    split at hE
    ·rename_i hcond
     obtain⟨c1,c2,c3,c4⟩:=hcond
     simp only[af0]at hE
     subst hE
     obtain⟨hx,hv⟩:=bU hl
     obtain⟨g,hg,hp'⟩:=hp.2 r hx hv
     have hx':aH h (gP h fr) y=some r:=by rw[za c4];exact hx
     have hIf:=hI.freeze fr
     obtain⟨u1,u2⟩:=hI.dY hc (hI.eS fr) hq
     obtain⟨cur,h3,h4,h5⟩:=hIf.DB hx' hg (gi hl)
     have hrun:=run_storeCells_at P g.1 (g.2+c) r.ty (a.eval x).cells.toList 0 cur w h3 (by simp only[Array.length_toList];omega) (fun v hv=>by
      obtain⟨j,hj⟩:=agd hv
      have hjl:=(agl.1 hj).1
      simp only[Array.length_toList]at hjl
      obtain⟨q1,q2⟩:=u2 j _ (af4 (by omega))
      have:(a.eval x).cells.getD j undef=v:=by simp at hj;simp[hj]
      rw[this]at q2
      exact q2.pg q1)
     rw[agr]at hrun
     have hul:(a.eval x).cells.toList.length=cs.length:=by simp only[Array.length_toList];exact u1
     have hlen:(cur.toList.take (g.2+c)++(a.eval x).cells.toList++cur.toList.drop (g.2+c+(a.eval x).cells.toList.length)).toArray.size=cur.size:=by
      simp;omega
     have hpl:=DA r.lst cs
     have hw:=hIf.write hx' c3 hg (gi hl) (cs:=putCells r.cells c (pj r.lst cs)) h3 hlen (by rw[hlen,ib (by omega)];exact h4)
      (fun j d hj=>spliced (by omega) (by omega) h4 h5 (Rh (fun j d hj=>by simpa [List.getD] using u2 j d hj)) j d hj)
     refine .inr (.inl ⟨w.setRow g.1 (cur.toList.take (g.2+c)++(a.eval x).cells.toList++cur.toList.drop (g.2+c+(a.eval x).cells.toList.length)).toArray,?_,blk,?_,trivial⟩)
     ·have hsz:(a.eval x).cells.size=τ.size:=by omega
      simp[execOp,ho,Instr.storeAt,Instr.sureAddr,hp',storeVar,run_sizeOf (hT ty τ hτ),hsz,hrun]
     ·rw[fB]
      exact hw.weaken fun _ _ h =>.inl h
    ·cases hE
   ·cases hE
  ·cases hE
 | _=>simp[cB]at hE
theorem G2 (hT:gz P T) (hI:Inv N M L w0 blk V t h a w) {ty:Nat} {p x:Operand} {τ:Ty} {y:Nat} {r:Row} {g:Nat×Nat} {c d:D} {u':Value} (ho:o.op=.store ty p x) (hτ:T ty=some τ) (c1:τ.size=1) (c3:r.cells.length=1) (c4:r.fz=false) (hmp:r.mp=false)
  (hx:h y=some r) (hg:blk y=some g) (hp':a.eval p=.pointer (some ⟨g.1,g.2+0,none⟩)) (hu:(a.eval x).cells = #[u']) (hone:u'.oneCell'=true) (hc:alD c=some d) (hpl:aS c=true) (hrp:∀w' M',RP w' M' c u') (hq2:RT w (Own M h blk) h blk V d u') :
  dA P o a w (aX N M L w0 V t h a e o.dst ⟨.und,[(y,some ⟨r.v,r.ty,[c],true,false,false⟩)]⟩):=by
 obtain⟨cur,h3,h4,h5⟩:=hI.DB hx hg hmp
 have hrun:=run_storeCells_at P g.1 (g.2+0) r.ty [u'] 0 cur w h3 (by simp;omega) (fun v hv=>by
  simp only[age]at hv
  subst hv
  exact hone)
 rw[agr]at hrun
 have hsize:cur.size=(cur.toList.take (g.2+0)++[u']++cur.toList.drop (g.2+0+[u'].length)).toArray.size:=by simp;omega
 have hcu:(cur.toList.take (g.2+0)++[u']++cur.toList.drop (g.2+0+[u'].length)).toArray.getD g.2 undef=u':=by
  simp only[afW]
  have:(cur.toList.take g.2).length=g.2:=by simp;omega
  simp[agz,this]
 generalize hnv:(cur.toList.take (g.2+0)++[u']++cur.toList.drop (g.2+0+[u'].length)).toArray=nv at hrun hsize hcu
 have hnew:(w.setRow g.1 nv).heap[g.1]? = some (.cells nv r.ty (0,0)):=setRow_heap w g.1 cur nv r.ty (0,0) h3
 have hhs:(w.setRow g.1 nv).heap.size=w.heap.size:=by simp[World.setRow]
 have hheap:∀b,b≠g.1->(w.setRow g.1 nv).heap[b]? = w.heap[b]?:=by
  intro b hb
  simp only[World.setRow,af1]
  rw[if_neg (Ne.symm hb)]
 have hw:=hI.rewrite (fz:=true) (lst:=false) (cs:=[c]) (w':=w.setRow g.1 nv) hx c4 rfl rfl rfl (by rw[hhs];exact afR _) (fun b _ hb=>hheap b (hb g hg)) (by
  rw[hg]
  refine⟨by simp[World.shape?,hnew,h3,hsize],nv,hnew,by simp;omega,fun j d hj =>?_⟩
  cases j with
  | zero =>
   simp only[List.getElem?_cons_zero,af0]at hj
   subst hj
   rw[agr,hcu]
   exact⟨hpl,hrp _ _⟩
  | succ j=>simp at hj) (fun _ _ g' hg' j c' d' hj hd'=>by
  rw[hg]at hg'
  cases hg'
  cases j with
  | zero =>
   simp only[List.getElem?_cons_zero,af0]at hj
   subst hj
   rw[hc]at hd'
   cases hd'
   refine⟨u',?_,hq2⟩
   rw[agr,aK hnew (by omega),hcu]
  | succ j=>simp at hj)
 refine .inr (.inl ⟨w.setRow g.1 nv,?_,blk,?_,trivial⟩)
 ·simp[execOp,ho,Instr.storeAt,Instr.sureAddr,hp',storeVar,run_sizeOf (hT ty τ hτ),c1,hu,hrun]
 ·exact hw.weaken fun _ _ h =>.inl h
theorem U0 (hT:gz P T) (hI:Inv N M L w0 blk V t h a w) (hP:∀x v,V x v->x<N∨2*PK<=x) {ty:Nat} {p x:Operand} {τ:Ty} {y x1 s1 n1:Nat} {r q:Row} {g:Nat×Nat} {u':Value} (ho:o.op=.store ty p x) (hτ:T ty=some τ) (c1:τ.size=1) (c3:r.cells.length=1) (c4:r.fz=false) (hmp:r.mp=false)
  (hx:h y=some r) (hyN:y<N) (hg:blk y=some g) (hp':a.eval p=.pointer (some ⟨g.1,g.2+0,none⟩)) (hu:(a.eval x).cells = #[u']) (hone:u'.oneCell'=true) (hx1:h x1=some q) (hqf:q.fz=false) (hql:q.lst=true) (hqm:q.mp=false) (hne:y≠x1)
  (hrel:(∃g' o' c N' t,blk x1=some g'∧u'=.slice (some ⟨g'.1,o',none⟩) n1 c∧(0<c∨0=0->o'=g'.2+0∧c*s1+o'=N')∧n1<=c∧c<=maxLen∧w.shape? g'.1=some (t,N'))∨(blk x1=none∧n1=0∧∃A,u'=.slice A 0 0)) :
  dA P o a w (aX N M L w0 V t h a e o.dst ⟨.und,[(x1,none),(PK+y,some ⟨0,q.ty,q.cells,false,true,false⟩),(y,some ⟨r.v,r.ty,[.ph (PK+y) s1 n1],false,false,true⟩)]⟩):=by
 obtain⟨cur,h3,h4,h5⟩:=hI.DB hx hg hmp
 have hrun:=run_storeCells_at P g.1 (g.2+0) r.ty [u'] 0 cur w h3 (by simp;omega) (fun v hv=>by
  simp only[age]at hv
  subst hv
  exact hone)
 rw[agr]at hrun
 have hsize:cur.size=(cur.toList.take (g.2+0)++[u']++cur.toList.drop (g.2+0+[u'].length)).toArray.size:=by simp;omega
 have hcu:(cur.toList.take (g.2+0)++[u']++cur.toList.drop (g.2+0+[u'].length)).toArray.getD g.2 undef=u':=by
  simp only[afW]
  have:(cur.toList.take g.2).length=g.2:=by simp;omega
  simp[agz,this]
 generalize hnv:(cur.toList.take (g.2+0)++[u']++cur.toList.drop (g.2+0+[u'].length)).toArray=nv at hrun hsize hcu
 have hnew:(w.setRow g.1 nv).heap[g.1]? = some (.cells nv r.ty (0,0)):=setRow_heap w g.1 cur nv r.ty (0,0) h3
 have hhs:(w.setRow g.1 nv).heap.size=w.heap.size:=by simp[World.setRow]
 have hheap:∀b,b≠g.1->(w.setRow g.1 nv).heap[b]? = w.heap[b]?:=by
  intro b hb
  simp only[World.setRow,af1]
  rw[if_neg (Ne.symm hb)]
 have hbig:=hI.big
 have hpk:PK=1000000:=rfl
 have hyk:y≠PK+y:=by omega
 have hV0:∀v,¬V (PK+y) v:=fun v hv=>by have:=hP _ _ hv;omega
 have hrow1:=(hI.rows x1 q hx1).2
 have hown1:∀b,Own M (forget h (some x1)) blk b->Own M h blk b:=fun b hb=>by
  rcases hb with hb|⟨z,r',g',hz,hz2,hz3,hz4⟩
  ·exact .inl hb
  ·simp only[forget]at hz
   by_cases hzx:z=x1
   ·subst hzx;rw[aq]at hz;cases hz
   ·rw[au _ _ hzx]at hz
    exact .inr ⟨z,r',g',hz,hz2,hz3,hz4⟩
 have hA:=hI.WE (w':=w) (h1:=forget h (some x1)) (old:=some x1) (d:=PK+y) (r0:=⟨0,q.ty,q.cells,false,true,false⟩) (go:=blk x1) (y0:=y) rfl rfl rfl (afR _) (fun _ _ _=>rfl) (fun y' hy'=>by cases hy';exact⟨q,hx1,hqf⟩) rfl rfl hyN hV0
  (fun r' hr'=>by
   simp only[forget]at hr'
   rw[au _ _ hne,hx]at hr'
   cases hr'
   exact hmp) (by
  cases hb:blk x1 with
  | none=>rw[hb]at hrow1;exact hrow1
  | some g' =>
   obtain⟨arr,k1,k2,k3⟩:=hI.DB hx1 hb hqm
   refine⟨.inr ⟨x1,g',rfl,hb,rfl⟩,arr,k1,k2,fun j d hj=>⟨(k3 j d hj).1,(k3 j d hj).2.keep fun b q1 q2=>⟨q1,?_,rfl⟩⟩⟩
   rintro (hn|rfl)
   ·exact q2 (hown1 b hn)
   ·exact q2 (.inr ⟨x1,q,g',hx1,hqf,hb,rfl⟩)) rfl
 have hxA:bB (forget h (some x1)) (PK+y) (some (⟨0,q.ty,q.cells,false,true,false⟩:Row)) y=some r:=by
  rw[au _ _ hyk]
  simp only[forget]
  rw[au _ _ hne,hx]
 have hgA:bB blk (PK+y) (blk x1) y=some g:=by rw[au _ _ hyk,hg]
 have hB:=hA.iR (r0:=⟨r.v,r.ty,[.ph (PK+y) s1 n1],false,false,true⟩) (w':=w.setRow g.1 nv) hxA c4 rfl rfl rfl rfl (by rw[hhs];exact afR _) (fun b _ hb=>hheap b (hb g hgA)) (by
  rw[hgA]
  refine⟨by simp[World.shape?,hnew,h3,hsize],.inr ⟨fun d hd=>by simp only[age]at hd;subst hd;rfl,nv,hnew,by simp;omega,fun j d hj =>?_⟩⟩
  cases j with
  | zero=>simp only[List.getElem?_cons_zero,af0]at hj;subst hj;trivial
  | succ j=>simp at hj) (fun h=>by cases h) (fun _ g' hg' j x' s n hc=>by
  rw[hgA]at hg'
  cases hg'
  cases j with
  | succ j=>simp at hc
  | zero =>
  simp only[List.getElem?_cons_zero,af0,D.ph.injEq]at hc
  obtain⟨rfl,rfl,rfl⟩:=hc
  refine⟨⟨by omega,.inl rfl⟩,u',by rw[agr,aK hnew (by omega),hcu],fun r' _ =>?_⟩
  rw[aq]
  rcases hrel with⟨g',o',c,N',t,k0,k1,k2,k3,k4,k5⟩|hrel
  ·obtain⟨k6,k7⟩:=k2 (.inr rfl)
   rw[agr]at k6
   subst k6
   exact .inl ⟨g',c,N',t,k0,k1,k7,k3,k4,k5⟩
  ·exact .inr hrel)
 refine .inr (.inl ⟨w.setRow g.1 nv,?_,bB blk (PK+y) (blk x1),?_,trivial⟩)
 ·simp[execOp,ho,Instr.storeAt,Instr.sureAddr,hp',storeVar,run_sizeOf (hT ty τ hτ),c1,hu,hrun]
 ·exact hB.weaken fun _ _ h =>.inl h
theorem Xx (hT:gz P T) (hI:Inv N M L w0 blk V t h a w) (hP:∀x v,V x v->x<N∨2*PK<=x) {ty:Nat} {p x:Operand} {τ:Ty} {E:bu} (ho:o.op=.store ty p x) (hτ:T ty=some τ) (hE:cJ τ h (ev t p) (ev t x)=some E):dA P o a w (aX N M L w0 V t h a e o.dst E):=by
 have hp:=hI.ev p
 have hq:=hI.ev x
 have hold:=P5 (P:=P) (o:=o) (e:=e) (E:=E) hT hI ho hτ
 generalize ev t p=q at *
 generalize ev t x=z at *
 cases z with
 | box1 x1 v1 s1 o1 n1 =>
  cases q with
  | ptr y v c =>
   simp only[cJ]at hE
   split at hE
   ·rename_i r hl
    split at hE
    ·rename_i hcond
     obtain⟨c1,rfl,c3,c4,c5⟩:=hcond
     simp only[af0]at hE
     subst hE
     obtain⟨hx,hv⟩:=bU hl
     obtain⟨g,hg,hp'⟩:=hp.2 r hx hv
     obtain⟨u',hu,hone,hq'⟩:=hq
     exact G2 hT hI ho hτ c1 c3 c4 (gi hl) hx hg hp' (by rw[hu];rfl) hone rfl rfl (fun _ _ =>.ali _ _ _ _ _ _ hone) (show RT w (Own M h blk) h blk V (.buf x1 v1 s1 o1 n1) u' from hq')
    ·cases hE
   ·cases hE
  | pm y v k =>
   simp only[cJ]at hE
   split at hE
   ·rename_i r q hl hl1
    split at hE
    ·rename_i hcond
     obtain⟨c1,rfl,c3,c4,c5,c6,c7,c8,c9,rfl,c10⟩:=hcond
     simp only[af0]at hE
     subst hE
     obtain⟨hx,hv⟩:=bU hl
     obtain⟨hx1,hv1⟩:=bU hl1
     obtain⟨g,hg,hp'⟩:=hp.2 r hx hv
     obtain⟨u',hu,hone,hq'⟩:=hq
     exact U0 hT hI hP ho hτ c1 c3 c4 (gi hl) hx (by have:=hP _ _ hp.1;omega) hg hp' (by rw[hu];rfl) hone hx1 c6 c7 (gi hl1) c9 (hq'.2 q hx1 hv1)
    ·cases hE
   ·cases hE
  | _=>simp[cJ]at hE
 | mp y1 v1 =>
  cases q with
  | pm y v c =>
   simp only[cJ]at hE
   split at hE
   ·rename_i r hl
    split at hE
    ·rename_i hcond
     obtain⟨c1,c2,c3,c4,c5,c6⟩:=hcond
     subst c2
     simp only[af0]at hE
     subst hE
     obtain⟨hx,hv⟩:=bU hl
     obtain⟨g,hg,hp'⟩:=hp.2 r hx hv
     obtain⟨⟨ks,vs⟩,hm⟩:=Option.isSome_iff_exists.1 c6
     obtain⟨g2,_,_,_,_,_,_,hu,_⟩:=hI.NY hm hq
     exact G2 hT hI ho hτ c1 c3 c4 (gi hl) hx hg hp' (by rw[hu];rfl) rfl rfl rfl (fun _ _ =>.alm _ _ _ rfl) (by rw[<- hu];exact hq)
    ·cases hE
   ·cases hE
  | _=>simp[cJ]at hE
 | _=>exact hold hE
end
section
variable {P:Program} {T:Nat->Option Ty} {N:Nat} {M:Nat->Prop} {L:iB} {w0:World} {blk:Nat->Option (Nat×Nat)} {V:Nat->Nat->Prop} {t:Nat->D} {h:Nat->Option Row} {a:Act} {w:World} {e:Nat} {o:Oper} {Γ:Env}
theorem fY {d:TypeDesc} {fs:List (Nat×Nat)} (h:conv d=.struct fs):∃F,d=.struct F∧(F.toList.map fun f=>(f.type,f.offset))=fs:=by
 cases d<;>simp[conv]at h
 exact⟨_,rfl,h⟩
theorem e9 {d:TypeDesc} {e:Nat} (h:conv d=.slice e):d=.slice e:=by
 cases d<;>simp[conv]at h
 rw[h]
theorem xh {d:TypeDesc} {n e:Nat} (h:conv d=.arr n e):d=.array n e:=by
 cases d<;>simp[conv]at h
 rw[h.1,h.2]
theorem pS {d:TypeDesc} (h:conv d=.str):d=.string:=by
 cases d<;>simp[conv]at h
 rfl
theorem uw {d:TypeDesc} (h:conv d=.bool):d=.bool:=by
 cases d<;>simp[conv]at h
 rfl
theorem xi {d:TypeDesc} {k:IntKind} (h:conv d=.int k):d=.int k:=by
 cases d<;>simp[conv]at h
 rw[h]
theorem under (hT:gz P T) {ty:Nat} {τ:Ty} (hτ:T ty=some τ):∃d,P.underlying ty=some d∧conv d=τ.ds:=by
 obtain⟨d,i,z,h1,h2,_⟩:=(hT ty τ hτ).get
 exact⟨d,h1,h2⟩
theorem Ms {F:Array Field} {fs:List (Nat×Nat)} (hF:(F.toList.map fun f=>(f.type,f.offset))=fs) {i ft off:Nat} (hi:fs[i]? = some (ft,off)):∃f,F[i]? = some f∧f.type=ft∧f.offset=off:=by
 rw[<- hF,afO]at hi
 cases hf:F[i]? with
 | none=>simp[hf]at hi
 | some f=>simp[hf]at hi;exact⟨f,rfl,hi.1,hi.2⟩
theorem RP.Th {M':Nat->Prop} {xs:List D} {ad:Addr} {us:Nat->Value} (k:Nat) (h6:xs≠[]->∃b o,ad=⟨b,o,none⟩∧b<w.heap.size∧¬M' b∧∀j,j<xs.length->w.cell? ⟨b,o+j,none⟩=some (us j))
  (h7:∀j x,xs[j]? = some x->RP w M' x (us j)) (h8:∀x∈xs,aS x=true):RP w M' (.ip (xs.drop k)) (.pointer (some (ad.add k))):=by
 refine .ip _ _ (fun j=>us (k+j)) (fun hne =>?_) (fun j x hj =>?_) (fun x hx=>h8 x (agA hx))
 ·have hne':xs≠[]:=by rintro rfl;simp at hne
  obtain⟨b,o,rfl,g1,g2,g3⟩:=h6 hne'
  refine⟨b,o+k,nM _ _ _,g1,g2,fun j hj =>?_⟩
  rw[agb]at hj
  rw[agc]
  exact g3 (k+j) (by omega)
 ·rw[af8]at hj
  exact h7 _ _ hj
theorem Xu (hI:Inv N M L w0 blk V t h a w) {x:Operand} {E:bu} (ho:o.op=.nilCheck x) (hE:iH h (ev t x)=some E):dA P o a w (aX N M L w0 V t h a e o.dst E):=by
 have hp:=hI.ev x
 generalize hq:ev t x=q at *
 cases q with
 | ptr y v c =>
  simp only[iH]at hE
  split at hE
  ·rename_i r hl
   simp only[af0]at hE
   subst hE
   obtain⟨hx,hv⟩:=oe hl
   obtain⟨g,hg,hp'⟩:=hp.2 r hx hv
   refine aD (v := .pointer (some ⟨g.1,g.2+c,none⟩)) (w':=w) ?_ (aX.dh hI ?_)
   ·simp[execOp,ho,hp']
   ·rw[<- hp'];exact hp
  ·cases hE
 | ip xs =>
  simp only[iH,af0]at hE
  subst hE
  have hp2:=hp
  obtain⟨ad,h1,_⟩:=RP.adA (M':=Own M h blk) hp
  refine aD (v := .pointer (some ad)) (w':=w) ?_ (aX.dh hI ?_)
  ·simp[execOp,ho,h1]
  ·rw[<- h1];exact hp2
 | _=>simp[iH]at hE
theorem CB (hT:gz P T) (hI:Inv N M L w0 blk V t h a w) {x:Operand} {ty i:Nat} {τ:Ty} {E:bu} (ho:o.op=.fieldAddr ty x i) (hτ:T ty=some τ) (hE:dD T τ h i (ev t x)=some E) :
  dA P o a w (aX N M L w0 V t h a e o.dst E):=by
 have hp:=hI.ev x
 have run:∀(ad:Addr) (fs:List (Nat×Nat)) (ft off:Nat) (φ:Ty),τ.ds=.struct fs->fs[i]? = some (ft,off)->T ft=some φ->φ.size≠0->a.eval x=.pointer (some ad) ->
   (execOp a.eval o).run P w=.ok (.value (.pointer (some (ad.add off)))) w:=by
  intro ad fs ft off φ hds hi hφ hz hv
  obtain⟨d,hd,hc⟩:=under hT hτ
  rw[hds]at hc
  obtain⟨F,rfl,hF⟩:=fY hc
  obtain⟨f,hf,rfl,rfl⟩:=Ms hF hi
  have hsz:=run_sizeOf (P:=P) (hT _ _ hφ) w
  simp[execOp,ho,Instr.fieldAt,run_underlying hd,hf,hv,Instr.sureAddr,fieldPlace,hsz,hz]
 generalize hq:ev t x=q at *
 cases q with
 | ptr y v c =>
  simp only[dD]at hE
  split at hE
  ·rename_i r fs hl hds
   split at hE
   ·rename_i ft off hi
    split at hE
    ·rename_i φ hφ
     split at hE
     ·cases hE
     ·rename_i hz
      simp only[af0]at hE
      subst hE
      obtain⟨hx,hv⟩:=oe hl
      obtain⟨g,hg,hp'⟩:=hp.2 r hx hv
      refine aD (run _ fs ft off φ hds hi hφ hz hp') (aX.dh hI ⟨hp.1,fun r' h1 h2=>⟨g,hg,by rw[nM,agc]⟩⟩)
    ·cases hE
   ·cases hE
  ·cases hE
 | pm y v k =>
  simp only[dD]at hE
  split at hE
  ·rename_i q fs hl hds
   split at hE
   ·rename_i ft hi
    split at hE
    ·rename_i φ hφ
     split at hE
     ·cases hE
     ·rename_i hz
      simp only[af0]at hE
      subst hE
      obtain⟨ry,y',s,n⟩:=q
      obtain⟨hx,hv,_,_⟩:=wJ hl
      obtain⟨g,hg,hp'⟩:=hp.2 ry hx hv
      refine aD (run _ fs ft 0 φ hds hi hφ hz hp') (aX.dh hI ⟨hp.1,fun r' h1 h2=>⟨g,hg,by rw[nM,agr]⟩⟩)
    ·cases hE
   ·cases hE
  ·cases hE
 | ip xs =>
  simp only[dD]at hE
  split at hE
  ·rename_i fs hds
   split at hE
   ·rename_i ft off hi
    split at hE
    ·rename_i φ hφ
     split at hE
     ·cases hE
     ·rename_i hz
      simp only[af0]at hE
      subst hE
      have hp':RP w (Own M h blk) (.ip xs) (a.eval x):=hp
      generalize hu:a.eval x=u at *
      cases hp' with
      | ip xs ad us h6 h7 h8=>exact aD (run _ fs ft off φ hds hi hφ hz rfl) (aX.dh hI (bq (RP.Th off h6 h7 h8)))
    ·cases hE
   ·cases hE
  ·cases hE
 | _=>simp[dD]at hE
theorem si (hT:gz P T) {x ix:Operand} {ty el n c:Nat} {τ φ:Ty} {k:IntKind} {i:Int} {ad:Addr} (ho:o.op=.indexAddr ty x ix) (hτ:T ty=some τ) (hds:τ.ds=.slice el) (hφ:T el=some φ)
  (hi:0<=i∧i<n) (hx:a.eval x=.slice (some ad) n c) (hix:a.eval ix=.int k i):(execOp a.eval o).run P w=.ok (.value (.pointer (some (ad.add (i.toNat*φ.size))))) w:=by
 obtain⟨d,hd,hc⟩:=under hT hτ
 rw[hds]at hc
 have:=e9 hc
 subst this
 have hsz:=run_sizeOf (P:=P) (hT _ _ hφ) w
 simp only[execOp,ho,Instr.indexAt,hx,hix,asIntOf,agp,Sem.run_pure,Result.andThen_ok,run_underlying hd]
 rw[if_pos hi]
 simp[hsz]
theorem Bt (hT:gz P T) {x ix:Operand} {ty el n:Nat} {τ φ:Ty} {k:IntKind} {i:Int} {ad:Addr} (ho:o.op=.indexAddr ty x ix) (hτ:T ty=some τ) (hds:τ.ds=.arr n el) (hφ:T el=some φ)
  (hi:0<=i∧i<n) (hx:a.eval x=.pointer (some ad)) (hix:a.eval ix=.int k i):(execOp a.eval o).run P w=.ok (.value (.pointer (some (ad.add (i.toNat*φ.size))))) w:=by
 obtain⟨d,hd,hc⟩:=under hT hτ
 rw[hds]at hc
 have:=xh hc
 subst this
 have hsz:=run_sizeOf (P:=P) (hT _ _ hφ) w
 simp only[execOp,ho,Instr.indexAt,hx,hix,asIntOf,agp,Sem.run_pure,Result.andThen_ok,run_underlying hd,Instr.sureAddr]
 rw[if_pos hi]
 simp[hsz]
theorem CC (hT:gz P T) (hI:Inv N M L w0 blk V t h a w) {x ix:Operand} {ty:Nat} {τ:Ty} {E:bu} (ho:o.op=.indexAddr ty x ix) (hτ:T ty=some τ) (hE:bD T τ h (ev t x) (ev t ix)=some E) :
  dA P o a w (aX N M L w0 V t h a e o.dst E):=by
 have hp:=hI.ev x
 have hix:=hI.ev ix
 generalize ev t x=q at *
 generalize ev t ix=z at *
 cases z with
 | int k i =>
  have hiv:=kI hix
  cases q with
  | sl nl tight n xs =>
   simp only[bD]at hE
   split at hE
   ·rename_i el hds
    split at hE
    ·rename_i φ hφ
     split at hE
     ·rename_i hi
      simp only[af0]at hE
      subst hE
      have hp':RP w (Own M h blk) (.sl nl tight n xs) (a.eval x):=hp
      generalize hu:a.eval x=u at *
      cases hp' with
      | sl A c nl tight n xs us h1 h2 h3 h4 h5 h6 h7 h8 =>
       cases A with
       | none=>have:=(h4 rfl).1;omega
       | some ad=>exact aD (si hT ho hτ hds hφ hi hu hiv) (aX.dh hI (bq (RP.Th _ (fun hne=>by
         obtain⟨b,o,hA,rest⟩:=h6 hne
         cases hA
         exact⟨b,o,rfl,rest⟩) h7 h8)))
     ·cases hE
    ·cases hE
   ·cases hE
  | buf y v s c n =>
   simp only[bD]at hE
   split at hE
   ·rename_i r el hl hds
    split at hE
    ·rename_i φ hφ
     split at hE
     ·rename_i hi
      obtain⟨hs,hi⟩:=hi
      simp only[af0]at hE
      subst hE
      obtain⟨hx,hv⟩:=oe hl
      rcases hp.2 r hx hv with⟨g,o',c',N',t',g0,g1,g2,g3,_⟩|⟨_,h0,_⟩
      ·have ho':=(g2 (.inl (by omega))).1
       subst ho'
       exact aD (si hT ho hτ hds hφ hi g1 hiv) (aX.dh hI ⟨hp.1,fun r' h1 h2=>⟨g,g0,by rw[nM,hs,agc]⟩⟩)
      ·omega
     ·cases hE
    ·cases hE
   ·cases hE
  | ptr y v c =>
   simp only[bD]at hE
   split at hE
   ·rename_i r n el hl hds
    split at hE
    ·rename_i φ hφ
     split at hE
     ·rename_i hi
      simp only[af0]at hE
      subst hE
      obtain⟨hx,hv⟩:=bU hl
      obtain⟨g,hg,hp'⟩:=hp.2 r hx hv
      exact aD (Bt hT ho hτ hds hφ hi hp' hiv) (aX.dh hI ⟨hp.1,fun r' h1 h2=>⟨g,hg,by rw[nM,agc]⟩⟩)
     ·cases hE
    ·cases hE
   ·cases hE
  | _=>simp[bD]at hE
 | _=>cases q<;>simp[bD]at hE
end
section
variable {P:Program} {T:Nat->Option Ty} {N:Nat} {M:Nat->Prop} {L:iB} {w0:World} {blk:Nat->Option (Nat×Nat)} {V:Nat->Nat->Prop} {t:Nat->D} {h:Nat->Option Row} {a:Act} {w:World} {e:Nat} {o:Oper} {Γ:Env}
theorem O2 (hT:gz P T) {ft off:Nat} {φ:Ty} (hφ:T ft=some φ) {xs:List D} {us:List Value} {d:D} {M':Nat->Prop} (hl:us.length=xs.length) (h2:∀j x,xs[j]? = some x->RP w M' x (us.getD j undef)) (h3:∀x∈xs,aS x=true)
  (hd:Ic φ xs off=some d):∃v,(part ft us.toArray off).run P w=.ok v w∧RP w M' d v:=by
 unfold Ic at hd
 split at hd
 ·rename_i hA
  split at hd
  ·rename_i hle
   simp only[af0]at hd
   subst hd
   refine⟨.agg (us.toArray.extract off (off+φ.size)),by simp[part,kC (hT _ _ hφ),hA,run_sizeOf (hT _ _ hφ)],?_⟩
   have he:us.toArray.extract off (off+φ.size)=((us.drop off).take φ.size).toArray:=by
    apply Array.ext'
    simp[Array.toList_extract,List.extract]
   rw[he]
   refine .agg _ _ (by simp[hl]) (fun j x hj =>?_) (fun x hx=>h3 x (agA (agC hx)))
   rw[b9]at hj
   split at hj
   ·rename_i hjl
    have:=h2 _ x hj
    have hg:((us.drop off).take φ.size).getD j undef=us.getD (off+j) undef:=by
     simp only[agv,b9,if_pos hjl]
    rw[hg];exact this
   ·cases hj
  ·cases hd
 ·rename_i hA
  have hA':φ.ds.nn=false:=by simpa using hA
  have hlt:=(agl.1 hd).1
  have h4:=h2 off d hd
  refine⟨us.getD off undef,?_,h4⟩
  have:us.toArray[off]? = some (us.getD off undef):=by
   simp[List.getD,af4 (show off<us.length by omega)]
  simp[part,kC (hT _ _ hφ),hA',this]
theorem PZ (hT:gz P T) (hI:Inv N M L w0 blk V t h a w) {x:Operand} {ty i:Nat} {τ:Ty} {E:bu} (ho:o.op=.field ty x i) (hτ:T ty=some τ) (hE:kO T τ i (ev t x)=some E):dA P o a w (aX N M L w0 V t h a e o.dst E):=by
 have hp:=hI.ev x
 generalize ev t x=q at *
 cases q with
 | agg xs =>
  simp only[kO]at hE
  split at hE
  ·rename_i fs hds
   split at hE
   ·rename_i ft off hi
    split at hE
    ·rename_i φ hφ
     split at hE
     ·rename_i d hd
      simp only[af0]at hE
      subst hE
      have hp':RP w (Own M h blk) (.agg xs) (a.eval x):=hp
      generalize hu:a.eval x=u at *
      cases hp' with
      | agg xs us h1 h2 h3 =>
       obtain⟨v,hv1,hv2⟩:=O2 hT hφ h1 h2 h3 hd
       obtain⟨dd,hdd,hc⟩:=under hT hτ
       rw[hds]at hc
       obtain⟨F,rfl,hF⟩:=fY hc
       obtain⟨f,hf,rfl,rfl⟩:=Ms hF hi
       refine aD (v:=v) (w':=w) ?_ (aX.dh hI (bq hv2))
       simp[execOp,ho,Instr.field,run_underlying hdd,hf,hu,asAgg,hv1]
     ·cases hE
    ·cases hE
   ·cases hE
  ·cases hE
 | _=>simp[kO]at hE
theorem P0 (hT:gz P T) (hI:Inv N M L w0 blk V t h a w) {x ix:Operand} {ty:Nat} {τ:Ty} {E:bu} (ho:o.op=.index ty x ix) (hτ:T ty=some τ) (hE:fC T τ (ev t x) (ev t ix)=some E) :
  dA P o a w (aX N M L w0 V t h a e o.dst E):=by
 have hp:=hI.ev x
 have hix:=hI.ev ix
 generalize ev t x=q at *
 generalize ev t ix=z at *
 obtain⟨dd,hdd,hc⟩:=under hT hτ
 cases z with
 | int k i =>
  have hiv:=kI hix
  cases q with
  | str s =>
   have hs:=BX hp
   simp only[fC]at hE
   split at hE
   ·rename_i hds
    rw[hds]at hc
    have:=pS hc
    subst this
    split at hE
    ·rename_i h0
     split at hE
     ·rename_i b hb
      simp only[af0]at hE
      subst hE
      refine aD (v := .int .u8 b.toNat) (w':=w) ?_ (aX.dh hI (bq (.int _ _)))
      simp only[execOp,ho,Instr.index,hiv,hs,asIntOf,agp,Sem.run_pure,Result.andThen_ok,run_underlying hdd]
      rw[if_pos h0,hb]
      rfl
     ·cases hE
    ·cases hE
   ·cases hE
  | agg xs =>
   simp only[fC]at hE
   split at hE
   ·rename_i n el hds
    rw[hds]at hc
    have:=xh hc
    subst this
    split at hE
    ·rename_i φ hφ
     split at hE
     ·rename_i hi
      split at hE
      ·rename_i d hd
       simp only[af0]at hE
       subst hE
       have hp':RP w (Own M h blk) (.agg xs) (a.eval x):=hp
       generalize hu:a.eval x=u at *
       cases hp' with
       | agg xs us h1 h2 h3 =>
        obtain⟨v,hv1,hv2⟩:=O2 hT hφ h1 h2 h3 hd
        refine aD (v:=v) (w':=w) ?_ (aX.dh hI (bq hv2))
        simp only[execOp,ho,Instr.index,hiv,hu,asIntOf,agp,Sem.run_pure,Result.andThen_ok,run_underlying hdd]
        rw[if_pos hi]
        simp[run_sizeOf (hT _ _ hφ),hv1]
      ·cases hE
     ·cases hE
    ·cases hE
   ·cases hE
  | _=>simp[fC]at hE
 | _=>cases q<;>simp[fC]at hE
theorem lC {d:D} {n:Nat} (h:mq d=some n):∃k,d=.int k n:=by
 cases d with
 | int k i =>
  simp only[mq]at h
  split at h
  ·simp only[af0]at h;exact⟨k,by rw[<- h];congr 1;omega⟩
  ·cases h
 | _=>simp[mq]at h
theorem run_sliceBound (k:IntKind) (n y:Nat) (c:BoundsCode) (hle:n<=y):(Instr.sliceBound (.int k n) y c).run P w=.ok n w:=by
 have h2:(n:Int)<=(y:Int):=by omega
 simp[Instr.sliceBound,asIntOf,h2]
theorem rT (b:Bool) {n cap l k:Nat} {lo hi:Option D} {vlo vhi:Option Value} (hn:n<=cap) (hb:sP n lo hi=some (l,k))
  (hlo:∀d,lo=some d->∃v,vlo=some v∧∀k n,d=.int k n->v=.int k n) (hlo':lo=none->vlo=none)
  (hhi:∀d,hi=some d->∃v,vhi=some v∧∀k n,d=.int k n->v=.int k n) (hhi':hi=none->vhi=none) :
  (Instr.sliceBounds b n cap vlo vhi none).run P w=.ok (l,k,cap) w∧l<=k∧k<=n:=by
 unfold sP at hb
 split at hb
 ·rename_i k' l' h1 h2
  split at hb
  ·rename_i hle
   simp only[af0,Prod.mk.injEq]at hb
   obtain⟨rfl,rfl⟩:=hb
   refine⟨?_,hle.1,hle.2⟩
   have hv1:(hi=none∧vhi=none∧k'=n)∨∃q,vhi=some (.int q (k':Nat)):=by
    cases hi with
    | none=>simp at h1;exact .inl ⟨rfl,hhi' rfl,h1.symm⟩
    | some d =>
     obtain⟨q,rfl⟩:=lC h1
     obtain⟨v,hv,hv'⟩:=hhi _ rfl
     exact .inr ⟨q,by rw[hv,hv' _ _ rfl]⟩
   have hv2:(lo=none∧vlo=none∧l'=0)∨∃q,vlo=some (.int q (l':Nat)):=by
    cases lo with
    | none=>simp at h2;exact .inl ⟨rfl,hlo' rfl,h2.symm⟩
    | some d =>
     obtain⟨q,rfl⟩:=lC h2
     obtain⟨v,hv,hv'⟩:=hlo _ rfl
     exact .inr ⟨q,by rw[hv,hv' _ _ rfl]⟩
   rcases hv1 with⟨_,rfl,rfl⟩|⟨q1,rfl⟩<;>rcases hv2 with⟨_,rfl,rfl⟩|⟨q2,rfl⟩
   ·simp[Instr.sliceBounds]
   ·simp[Instr.sliceBounds,run_sliceBound q2 l' _ _ hle.1]
   ·simp[Instr.sliceBounds,run_sliceBound q1 k' cap _ (by omega)]
   ·simp[Instr.sliceBounds,run_sliceBound q1 k' cap _ (by omega),run_sliceBound q2 l' _ _ hle.1]
  ·cases hb
 ·cases hb
theorem OY (b:Bool) {n cap l k m:Nat} {lo:Option D} {hi:D} {vlo:Option Value} {vhi vm:Value} {q:IntKind} (hb:sP n lo (some hi)=some (l,k)) (hm:vm=.int q m) (hmc:m<=cap) (hkm:k<=m)
  (hlo:∀d,lo=some d->∃v,vlo=some v∧∀k n,d=.int k n->v=.int k n) (hlo':lo=none->vlo=none)
  (hhi:∀k n,hi=.int k n->vhi=.int k n):(Instr.sliceBounds b n cap vlo (some vhi) (some vm)).run P w=.ok (l,k,m) w∧l<=k∧k<=n:=by
 unfold sP at hb
 split at hb
 ·rename_i k' l' h1 h2
  split at hb
  ·rename_i hle
   simp only[af0,Prod.mk.injEq]at hb
   obtain⟨rfl,rfl⟩:=hb
   refine⟨?_,hle.1,hle.2⟩
   obtain⟨q1,rfl⟩:=lC h1
   have hv1:=hhi _ _ rfl
   subst hv1 hm
   have hv2:(lo=none∧vlo=none∧l'=0)∨∃q,vlo=some (.int q (l':Nat)):=by
    cases lo with
    | none=>simp at h2;exact .inl ⟨rfl,hlo' rfl,h2.symm⟩
    | some d =>
     obtain⟨q,rfl⟩:=lC h2
     obtain⟨v,hv,hv'⟩:=hlo _ rfl
     exact .inr ⟨q,by rw[hv,hv' _ _ rfl]⟩
   rcases hv2 with⟨_,rfl,rfl⟩|⟨q2,rfl⟩
   ·simp[Instr.sliceBounds,run_sliceBound q m cap _ hmc,run_sliceBound q1 k' m _ hkm]
   ·simp[Instr.sliceBounds,run_sliceBound q m cap _ hmc,run_sliceBound q1 k' m _ hkm,run_sliceBound q2 l' _ _ hle.1]
  ·cases hb
 ·cases hb
theorem Inv.evo (hI:Inv N M L w0 blk V t h a w) (x:Option Operand):(∀d,x.map (Am.ev t)=some d->∃v,x.map a.eval=some v∧∀k n,d=.int k n->v=.int k n)∧(x.map (Am.ev t)=none->x.map a.eval=none):=by
 cases x with
 | none=>exact⟨fun d hd=>by simp at hd,fun _=>rfl⟩
 | some x =>
  refine⟨fun d hd=>⟨a.eval x,rfl,fun k n hk =>?_⟩,fun hd=>by simp at hd⟩
  simp only[Option.map_some,af0]at hd
  have:=hI.ev x
  rw[hd,hk]at this
  exact kI this
theorem RP.cut {M':Nat->Prop} {A:Option Addr} {c n l k m s:Nat} {nl tight nl' tight':Bool} {xs:List D} (hr:RP w M' (.sl nl tight n xs) (.slice A n c)) (hlk:l<=k) (hkn:k<=n) (hkm:k<=m) (hmc:m<=c) (ht:tight'=true->m=k) (hnl:nl'=true->nl=true∧tight=true∧tight'=true) :
  RP w M' (.sl nl' tight' (k-l) ((xs.drop (l*s)).take ((k-l)*s))) (.slice (if m=l then A else A.map (·.add (l*s))) (k-l) (m-l)):=by
 cases hr with
 | sl A c nl tight n xs us h1 h2 h3 h4 h5 h6 h7 h8 =>
  refine .sl _ _ nl' tight' _ _ (fun j=>us (l*s+j)) (by omega) (by omega) (fun hn =>?_) (fun hn =>?_) (fun ht'=>by rw[ht ht']) (fun hne =>?_) (fun j x hj =>?_) (fun x hx=>h8 x (agA (agC hx)))
  ·obtain⟨q1,q2,q3⟩:=hnl hn
   obtain⟨rfl,rfl⟩:=(h3 q1).1 q2
   refine⟨fun _=>⟨by simp,by omega⟩,fun q=>by rw[q3]at q;cases q⟩
  ·have hA:A=none:=by
    cases A with
    | none=>rfl
    | some ad=>split at hn<;>simp at hn
   have:=h4 hA
   omega
  ·have hxs:xs≠[]:=by rintro rfl;simp at hne
   have hkl:l<k:=by
    rcases agD l k with h'|h'
    ·exact h'
    ·have:k-l=0:=by omega
     simp[this]at hne
   obtain⟨b,c',rfl,g1,g2,g3⟩:=h6 hxs
   rw[if_neg (by omega)]
   refine⟨b,c'+l*s,by simp[nM],g1,g2,fun j hj =>?_⟩
   simp only[aga,agb]at hj
   have:=g3 (l*s+j) (by omega)
   rw[<- agc]at this
   exact this
  ·rw[b9]at hj
   split at hj
   ·exact h7 _ x hj
   ·cases hj
theorem P4 (hT:gz P T) (hI:Inv N M L w0 blk V t h a w) {x:Operand} {lo hi mx:Option Operand} {ty:Nat} {τ:Ty} {E:bu} (ho:o.op=.slice ty x lo hi mx) (hτ:T ty=some τ)
  (hE:cv T τ h (ev t x) (lo.map (ev t)) (hi.map (ev t)) (mx.map (ev t))=some E):dA P o a w (aX N M L w0 V t h a e o.dst E):=by
 have hp:=hI.ev x
 obtain⟨hl1,hl2⟩:=hI.evo lo
 obtain⟨hh1,hh2⟩:=hI.evo hi
 obtain⟨hm1,hm2⟩:=hI.evo mx
 generalize ev t x=q at *
 obtain⟨dd,hdd,hc⟩:=under hT hτ
 have hlv:lo.map a.eval=lo.map a.eval:=rfl
 cases q with
 | str s =>
  have hs:=BX hp
  simp only[cv]at hE
  split at hE
  ·rename_i l k hds hmx hb
   rw[hds]at hc
   have:=pS hc
   subst this
   simp only[af0]at hE
   subst hE
   obtain⟨hrun,_,_⟩:=rT (P:=P) (w:=w) false (afR _) hb hl1 hl2 hh1 hh2
   have hmn:=hm2 hmx
   refine aD (v := .string (s.extract l k)) (w':=w) ?_ (aX.dh hI (bq (.str _)))
   simp only[execOp,ho,Instr.sliceAt,agp,run_underlying hdd,Result.andThen_ok,Instr.slice,hs,hmn]
   simp[hrun]
  ·cases hE
 | sl nl tight n xs =>
  have hp':RP w (Own M h blk) (.sl nl tight n xs) (a.eval x):=hp
  have hex:∃A c,a.eval x=.slice A n c∧n<=c∧(tight=true->c=n):=by
   generalize a.eval x=u at *
   cases hp' with
   | sl A c nl tight n xs us h1 h2 h3 h4 h5 h6 h7 h8=>exact⟨A,c,rfl,h1,h5⟩
  obtain⟨A,c,hu,hnc,htight⟩:=hex
  rw[hu]at hp'
  simp only[cv]at hE
  split at hE
  ·rename_i el hds
   rw[hds]at hc
   have:=e9 hc
   subst this
   split at hE
   ·rename_i φ l k hφ hb
    split at hE
    ·rename_i hmx
     simp only[af0]at hE
     subst hE
     obtain⟨hrun,hlk,hkn⟩:=rT (P:=P) (w:=w) true hnc hb hl1 hl2 hh1 hh2
     have hmn:=hm2 hmx
     refine aD (v := .slice (if c=l then A else A.map (·.add (l*φ.size))) (k-l) (c-l)) (w':=w) ?_ (aX.dh hI (bq (hp'.cut hlk hkn (by omega) (afR _) (fun ht =>?_) (fun hq =>?_))))
     ·simp only[execOp,ho,Instr.sliceAt,agp,run_underlying hdd,Result.andThen_ok,Instr.slice,hu,hmn]
      simp[hrun,run_sizeOf (hT _ _ hφ)]
     ·simp only[agt,beq_iff_eq]at ht
      rw[htight ht.1,ht.2]
     ·simp only[agt]at hq
      refine⟨hq.1,hq.2,?_⟩
      have hc0:c=0∧n=0:=by
       cases hp' with
       | sl A c nl tight n xs us h1 h2 h3 h4 h5 h6 h7 h8=>have:=((h3 hq.1).1 hq.2).2;omega
      simp only[agt,beq_iff_eq]
      exact⟨hq.2,by omega⟩
    ·rename_i md hmx
     split at hE
     ·rename_i m hd hm hhi
      split at hE
      ·rename_i hcond
       simp only[af0]at hE
       subst hE
       obtain⟨q,rfl⟩:=lC hm
       obtain⟨vm,hvm,hvm'⟩:=hm1 _ hmx
       obtain⟨vh,hvh,hvh'⟩:=hh1 _ hhi
       rw[hhi]at hb
       obtain⟨hrun,hlk,hkn⟩:=OY (P:=P) (w:=w) true (cap:=c) hb (hvm' _ _ rfl) (by omega) hcond.1 hl1 hl2 hvh'
       refine aD (v := .slice (if m=l then A else A.map (·.add (l*φ.size))) (k-l) (m-l)) (w':=w) ?_ (aX.dh hI (bq (hp'.cut hlk hkn hcond.1 (by omega) (fun ht=>by simpa using ht) (fun hq=>by cases hq))))
       simp only[execOp,ho,Instr.sliceAt,agp,run_underlying hdd,Result.andThen_ok,Instr.slice,hu,hvm,hvh]
       simp[hrun,run_sizeOf (hT _ _ hφ)]
      ·cases hE
     ·cases hE
   ·cases hE
  ·cases hE
 | buf y v s c0 n =>
  simp only[cv]at hE
  split at hE
  ·rename_i r el hl hds hmx
   rw[hds]at hc
   have:=e9 hc
   subst this
   split at hE
   ·rename_i φ l k hφ hb
    split at hE
    ·rename_i hs
     obtain⟨hs,hs0⟩:=hs
     simp only[af0]at hE
     subst hE
     obtain⟨hx,hv⟩:=bU hl
     have hmn:=hm2 hmx
     rcases hp.2 r hx hv with⟨g,o',c,N',t',g0,g1,g2,g3,g4,g5⟩|⟨g0,g1,A,g2⟩
     ·obtain⟨hrun,hlk,hkn⟩:=rT (P:=P) (w:=w) true g3 hb hl1 hl2 hh1 hh2
      refine aD (v := .slice (if c=l then (some ⟨g.1,o',none⟩) else (some ⟨g.1,o'+l*φ.size,none⟩)) (k-l) (c-l)) (w':=w) ?_ (aX.dh hI ⟨hp.1,fun r' h1 h2 =>.inl ?_⟩)
      ·simp only[execOp,ho,Instr.sliceAt,agp,run_underlying hdd,Result.andThen_ok,Instr.slice,g1,hmn]
       simp[hrun,run_sizeOf (hT _ _ hφ),nM]
      ·by_cases hcl:c=l
       ·rw[if_pos hcl]
        refine⟨g,o',c-l,N',t',g0,rfl,fun hh =>?_,by omega,by omega,g5⟩
        rcases hh with hh|hh
        ·omega
        ·have hl0:l*s=0:=by omega
         have:l=0:=by
          rcases Nat.mul_eq_zero.1 hl0 with h'|h'
          ·exact h'
          ·omega
         subst this
         obtain⟨q1,q2⟩:=g2 (.inr (by omega))
         rw[Nat.sub_zero,hl0]
         exact⟨by omega,q2⟩
       ·rw[if_neg hcl]
        refine⟨g,o'+l*φ.size,c-l,N',t',g0,rfl,fun hh =>?_,by omega,by omega,g5⟩
        obtain⟨q1,q2⟩:=g2 (.inl (by omega))
        have hle:l*s<=c*s:=agE _ (by omega)
        rw[hs,Nat.sub_mul]
        exact⟨by omega,by omega⟩
     ·subst g1
      obtain⟨hrun,hlk,hkn⟩:=rT (P:=P) (w:=w) (cap:=0) true (afR _) hb hl1 hl2 hh1 hh2
      have hk0:k=0:=by omega
      have hl0:l=0:=by omega
      subst hk0 hl0
      refine aD (v := .slice A 0 0) (w':=w) ?_ (aX.dh hI ⟨hp.1,fun r' h1 h2 =>.inr ⟨g0,rfl,A,rfl⟩⟩)
      simp only[execOp,ho,Instr.sliceAt,agp,run_underlying hdd,Result.andThen_ok,Instr.slice,g2,hmn]
      simp[hrun,run_sizeOf (hT _ _ hφ)]
    ·cases hE
   ·cases hE
  ·cases hE
 | _=>simp[cv]at hE
end
section
variable {P:Program} {T:Nat->Option Ty} {N:Nat} {M:Nat->Prop} {L:iB} {w0:World} {blk:Nat->Option (Nat×Nat)} {V:Nat->Nat->Prop} {t:Nat->D} {h:Nat->Option Row} {a:Act} {w:World} {e:Nat} {o:Oper} {Γ:Env}
theorem O7 (cur us:Array Value) (off:Nat) (hle:off+us.size<=cur.size) :
  us.zipIdx.foldl (fun cs (p:Value×Nat)=>cs.setIfInBounds (off+p.2) p.1) cur=(cur.toList.take off++us.toList++cur.toList.drop (off+us.toList.length)).toArray:=by
 have key:∀(l:List Value) (k:Nat) (c:Array Value),off+k+l.length<=c.size ->
   (l.zipIdx k).foldl (fun cs (p:Value×Nat)=>cs.setIfInBounds (off+p.2) p.1) c=(c.toList.take (off+k)++l++c.toList.drop (off+k+l.length)).toArray:=by
  intro l
  induction l with
  | nil=>intro k c _;simp
  | cons v l ih =>
   intro k c hc
   simp only[List.zipIdx_cons,List.foldl_cons]
   simp only[List.length_cons]at hc
   rw[ih (k+1) _ (by simp;omega)]
   have:=list_seg_step c.toList (off+k) v l (by simp;omega)
   simp only[Array.toList_setIfInBounds]
   congr 1
 have:=key us.toList 0 cur (by simp;omega)
 rw[agr]at this
 rw[<- this,<- Array.foldl_toList,Array.toList_zipIdx]
theorem Y4 {w:World} {M:Nat->Prop} {cells cs:List D} {cur:Array Value} {us:List Value} {c:Nat} (hle:c+cs.length<=cells.length) (hus:us.length=cs.length) (hcur:cells.length<=cur.size)
  (h5:∀j d,cells[j]? = some d->aS d=true∧RP w M d (cur.getD j undef)) (u2:∀j d,cs[j]? = some d->aS d=true∧RP w M d (us.getD j undef)) (j:Nat) (d:D) (hj:(putCells cells c cs)[j]? = some d) :
  aS d=true∧RP w M d ((cur.toList.take c++us++cur.toList.drop (c+us.length)).toArray.getD j undef):=by
 have:=spliced (cur:=cur) (b:=0) hle hus (by omega) (fun j d hj=>by rw[agF];exact h5 j d hj) u2 j d hj
 simp only[agF]at this
 exact this
theorem Lk {w:World} {M:Nat->Prop} {cs:List D} {f:Nat->Value} (u2:∀(j:Nat) d,cs[j]? = some d->aS d=true∧RP w M d (f j)) (j:Nat) (d:D) (hj:(cs.map canon)[j]? = some d):aS d=true∧RP w M d (f j):=by
 rw[afO,afP]at hj
 obtain⟨x,hx,rfl⟩:=hj
 obtain⟨k1,k2⟩:=u2 j x hx
 exact⟨by rw[kX];exact k1,k2.canon⟩
theorem Inv.gO (hI:Inv N M L w0 blk V t h a w) {place:Nat->Option (Nat×Nat)} {M':Nat->Prop} : ∀ {parts:List (Nat×Operand)} {cells out:List D} {fr:List Nat} {cur:Array Value},
  gO h place cells (parts.map fun p=>(p.1,Am.ev t p.2))=some (out,fr)->mP M h blk fr M'->cells.length=cur.size->(∀j d,cells[j]? = some d->aS d=true∧RP w M' d (cur.getD j undef)) ->
  ∃cur',Instr.fill place cur (parts.map fun p=>(p.1,a.eval p.2))=some cur'∧out.length=cur'.size∧out.length=cells.length∧∀j d,out[j]? = some d->aS d=true∧RP w M' d (cur'.getD j undef)
 | [],cells,out,fr,cur,hf,hl,hsz,hc=>by
  simp only[agG,Am.gO,af0,Prod.mk.injEq]at hf
  obtain⟨rfl,rfl⟩:=hf
  exact⟨cur,rfl,hsz,rfl,hc⟩
 | (i,x)::parts,cells,out,fr,cur,hf,hl,hsz,hc=>by
  simp only[afX,Am.gO]at hf
  split at hf
  ·rename_i off size cs fr1 h1 h2
   split at hf
   ·rename_i hle
    split at hf
    ·rename_i out' fr2 h3
     simp only[af0,Prod.mk.injEq]at hf
     obtain⟨rfl,rfl⟩:=hf
     obtain⟨u1,u2⟩:=hI.dY h2 hl.left (hI.ev x)
     have hul:(a.eval x).cells.toList.length=cs.length:=by simp only[Array.length_toList];exact u1
     have hle':off+cs.length<=cells.length:=by omega
     obtain⟨cur',i1,i2,i3,i4⟩:=hI.gO (cur:=(cur.toList.take off++(a.eval x).cells.toList++cur.toList.drop (off+(a.eval x).cells.toList.length)).toArray) h3 hl.right
      (by rw[ib hle'];simp;omega)
      (fun j d hj=>Y4 hle' hul (by omega) hc (fun j d hj=>by simpa [List.getD] using u2 j d hj) j d hj)
     refine⟨cur',?_,i2,by rw[i3,ib hle'],i4⟩
     rw[<- i1]
     simp only[afX,Instr.fill,h1]
     have hcond:(decide ((a.eval x).cells.size≠size)||decide (off+(a.eval x).cells.size>cur.size))=false:=by simp;omega
     rw[if_neg (by simpa using hcond)]
     congr 1
     exact O7 cur (a.eval x).cells off (by omega)
    ·cases hf
   ·cases hf
  ·cases hf
theorem kZ (hT:gz P T):∀(F:List Field),(∀f∈F,(T f.type).isSome=true)->(F.mapM fun f=>(do pure (f.offset,<- Go.sizeOf f.type):Sem (Nat×Nat))).run P w=.ok (F.map fun f=>(f.offset,((T f.type).map (·.size)).getD 0)) w
 | [],_=>by simp
 | f::F,hF=>by
  have h1:=hF f (by simp)
  cases hφ:T f.type with
  | none=>simp[hφ]at h1
  | some φ =>
   have ih:=kZ hT F (fun g hg=>hF g (by simp[hg]))
   simp only[List.mapM_cons,agp,run_sizeOf (hT _ _ hφ),Result.andThen_ok,Sem.run_pure,afX,hφ,Option.map_some,Option.getD_some]
   rw[ih]
   rfl
theorem wD (hT:gz P T) (hI:Inv N M L w0 blk V t h a w) {ty:Nat} {parts:Array (Nat×Operand)} {τ:Ty} {E:bu} (ho:o.op=.build ty parts) (hτ:T ty=some τ) (hE:ey T τ h (parts.toList.map fun p=>(p.1,ev t p.2))=some E) :
  dA P o a w (aX N M L w0 V t h a e o.dst E):=by
 obtain⟨dd,hdd,hc⟩:=under hT hτ
 unfold ey at hE
 split at hE
 ·rename_i fs hds
  rw[hds]at hc
  obtain⟨F,rfl,hF⟩:=fY hc
  split at hE
  ·rename_i hcond
   simp only[agt]at hcond
   split at hE
   ·rename_i cs fr hf
    simp only[af0]at hE
    subst hE
    obtain⟨z,hz1,hz2⟩:=iz (hT ty τ hτ) w
    obtain⟨cur',i1,i2,i3,i4⟩:=hI.gO hf (hI.eS fr) (cur:=τ.zero.toArray) (by simp) (fun j d hj=>oG τ.zero hcond.2 j d hj)
    have hsome:∀f∈F.toList,(T f.type).isSome=true:=by
     intro f hf'
     have:=hcond.1
     rw[af2]at this
     exact this (f.type,f.offset) (by rw[<- hF];exact afQ.2 ⟨f,hf',rfl⟩)
    have hpl:(fun i=>(F.map fun f=>(f.offset,((T f.type).map (·.size)).getD 0))[i]?)=fieldAt T fs:=by
     funext i
     simp only[fieldAt,<- hF,afO,Array.getElem?_map]
     rw[agI]
     cases hfi:F[i]? with
     | none=>rfl
     | some f =>
      have:=hsome f (by simpa using agJ hfi)
      cases hφ:T f.type with
      | none=>simp[hφ]at this
      | some φ=>simp[hφ]
    refine aD (v := .agg cur') (w':=w) ?_ ?_
    ·have hm:=kZ (P:=P) (w:=w) hT F.toList hsome
     have hm':(F.mapM fun f=>(do pure (f.offset,<- Go.sizeOf f.type):Sem (Nat×Nat))).run P w=.ok (F.map fun f=>(f.offset,((T f.type).map (·.size)).getD 0)) w:=by
      rw[agK,Sem.run_map,hm]
      simp only[Result.andThen_ok]
      congr 1
      apply Array.ext'
      simp
     rw[<- hpl]at i1
     simp only[execOp,ho,Instr.build,agp,hz1,Result.andThen_ok,run_underlying hdd,hm',hz2,agL]
     rw[i1]
     rfl
    ·have:(⟨.agg cs,gP h fr⟩:bu)=⟨.agg cs,gP h fr⟩:=rfl
     have hag:cur'=cur'.toList.toArray:=by simp
     rw[hag]
     refine aX.JK hI fr (.agg cs _ (by simp;omega) (fun j d hj =>?_) (fun d hd =>?_))
     ·have:=(i4 j d hj).2
      simpa [List.getD] using this
     ·obtain⟨j,hj⟩:=agd hd
      exact (i4 j d hj).1
   ·cases hE
  ·cases hE
 ·cases hE
theorem Xn (hT:gz P T) (hI:Inv N M L w0 blk V t h a w) {q:Nat->Bool} {ty:Nat} {parts:Array (Nat×Operand)} {τ:Ty} {E:bu} (ho:o.op=.build ty parts) (hτ:T ty=some τ) (hE:nS q T τ h o.dst (parts.toList.map fun p=>(p.1,ev t p.2))=some E) :
  dA P o a w (aX N M L w0 V t h a e o.dst E):=by
 unfold nS at hE
 split at hE
 ·split at hE
  ·exact wD hT hI ho hτ hE
  ·split at hE
   ·rename_i fs x v s o' n hds hps
    split at hE
    ·rename_i hcond
     obtain⟨k1,k2,k3,k4⟩:=hcond
     simp only[af0]at hE
     subst hE
     obtain⟨dd,hdd,hc⟩:=under hT hτ
     rw[hds]at hc
     obtain⟨F,rfl,hF⟩:=fY hc
     obtain⟨p0,hp0,hpe⟩:∃p0,parts.toList=[p0]∧(p0.1,ev t p0.2)=(0,D.buf x v s o' n):=by
      cases hpl:parts.toList with
      | nil=>rw[hpl]at hps;cases hps
      | cons p0 l =>
       rw[hpl]at hps
       simp only[afX,agf,List.map_eq_nil_iff]at hps
       exact⟨p0,by rw[hps.2],hps.1⟩
     simp only[Prod.mk.injEq]at hpe
     have hr:=hI.ev p0.2
     rw[hpe.2]at hr
     have hlv:∃r,ml h x v=some r:=by
      simp only[alive]at k1
      exact Option.isSome_iff_exists.1 k1
     obtain⟨r,hlv⟩:=hlv
     obtain⟨hx,hv⟩:=oe hlv
     obtain⟨A,c,hu⟩:∃A c,a.eval p0.2=.slice A n c:=by
      rcases hr.2 r hx hv with⟨g,o'',c,N',t',g0,g1,_⟩|⟨_,g1,A,g2⟩
      ·exact⟨_,_,g1⟩
      ·subst g1;exact⟨_,_,g2⟩
     obtain⟨z,hz1,hz2⟩:=iz (hT ty τ hτ) w
     have hsome:∀f∈F.toList,(T f.type).isSome=true:=by
      intro f hf'
      rw[af2]at k2
      exact k2 (f.type,f.offset) (by rw[<- hF];exact afQ.2 ⟨f,hf',rfl⟩)
     have hpl:(fun i=>(F.map fun f=>(f.offset,((T f.type).map (·.size)).getD 0))[i]?)=fieldAt T fs:=by
      funext i
      simp only[fieldAt,<- hF,afO,Array.getElem?_map]
      rw[agI]
      cases hfi:F[i]? with
      | none=>rfl
      | some f =>
       have:=hsome f (by simpa using agJ hfi)
       cases hφ:T f.type with
       | none=>simp[hφ]at this
       | some φ=>simp[hφ]
     have i1:Instr.fill (fieldAt T fs) τ.zero.toArray (parts.toList.map fun p=>(p.1,a.eval p.2))=some #[a.eval p0.2]:=by
      rw[hp0]
      simp only[afX,agG,Instr.fill,hpe.1,k3,hu]
      obtain⟨z0,hz0⟩:∃z0,τ.zero=[z0]:=by
       match hzz:τ.zero,k4 with
       | [z0],_=>exact⟨z0,rfl⟩
      rw[hz0]
      rfl
     refine aD (v := .agg #[a.eval p0.2]) (w':=w) ?_ (aX.dh hI ⟨_,rfl,by rw[hu];rfl,hr⟩)
     have hm:=kZ (P:=P) (w:=w) hT F.toList hsome
     have hm':(F.mapM fun f=>(do pure (f.offset,<- Go.sizeOf f.type):Sem (Nat×Nat))).run P w=.ok (F.map fun f=>(f.offset,((T f.type).map (·.size)).getD 0)) w:=by
      rw[agK,Sem.run_map,hm]
      simp only[Result.andThen_ok]
      congr 1
      apply Array.ext'
      simp
     rw[<- hpl]at i1
     simp only[execOp,ho,Instr.build,agp,hz1,Result.andThen_ok,run_underlying hdd,hm',hz2,agL]
     rw[i1]
     rfl
    ·cases hE
   ·rename_i fs x v s o' n hds hps
    split at hE
    ·rename_i hcond
     obtain⟨k1,k2,k3,k4⟩:=hcond
     simp only[af0]at hE
     subst hE
     obtain⟨dd,hdd,hc⟩:=under hT hτ
     rw[hds]at hc
     obtain⟨F,rfl,hF⟩:=fY hc
     obtain⟨p0,hp0,hpe⟩:∃p0,parts.toList=[p0]∧(p0.1,ev t p0.2)=(0,D.box1 x v s o' n):=by
      cases hpl:parts.toList with
      | nil=>rw[hpl]at hps;cases hps
      | cons p0 l =>
       rw[hpl]at hps
       simp only[afX,agf,List.map_eq_nil_iff]at hps
       exact⟨p0,by rw[hps.2],hps.1⟩
     simp only[Prod.mk.injEq]at hpe
     have hr:=hI.ev p0.2
     rw[hpe.2]at hr
     obtain⟨u',hu,hone,hr'⟩:=hr
     obtain⟨z,hz1,hz2⟩:=iz (hT ty τ hτ) w
     have hsome:∀f∈F.toList,(T f.type).isSome=true:=by
      intro f hf'
      rw[af2]at k2
      exact k2 (f.type,f.offset) (by rw[<- hF];exact afQ.2 ⟨f,hf',rfl⟩)
     have hpl:(fun i=>(F.map fun f=>(f.offset,((T f.type).map (·.size)).getD 0))[i]?)=fieldAt T fs:=by
      funext i
      simp only[fieldAt,<- hF,afO,Array.getElem?_map]
      rw[agI]
      cases hfi:F[i]? with
      | none=>rfl
      | some f =>
       have:=hsome f (by simpa using agJ hfi)
       cases hφ:T f.type with
       | none=>simp[hφ]at this
       | some φ=>simp[hφ]
     have i1:Instr.fill (fieldAt T fs) τ.zero.toArray (parts.toList.map fun p=>(p.1,a.eval p.2))=some #[u']:=by
      rw[hp0]
      simp only[afX,agG,Instr.fill,hpe.1,k3,hu]
      obtain⟨z0,hz0⟩:∃z0,τ.zero=[z0]:=by
       match hzz:τ.zero,k4 with
       | [z0],_=>exact⟨z0,rfl⟩
      rw[hz0]
      rfl
     refine aD (v := .agg #[u']) (w':=w) ?_ (aX.dh hI ⟨u',rfl,hone,hr'⟩)
     have hm:=kZ (P:=P) (w:=w) hT F.toList hsome
     have hm':(F.mapM fun f=>(do pure (f.offset,<- Go.sizeOf f.type):Sem (Nat×Nat))).run P w=.ok (F.map fun f=>(f.offset,((T f.type).map (·.size)).getD 0)) w:=by
      rw[agK,Sem.run_map,hm]
      simp only[Result.andThen_ok]
      congr 1
      apply Array.ext'
      simp
     rw[<- hpl]at i1
     simp only[execOp,ho,Instr.build,agp,hz1,Result.andThen_ok,run_underlying hdd,hm',hz2,agL]
     rw[i1]
     rfl
    ·cases hE
   ·unfold cE at hE
    split at hE
    ·rename_i cs hw hb
     simp only[af0]at hE
     subst hE
     refine (wD (e:=e) hT hI ho hτ hb).mono fun v w' hA =>?_
     obtain⟨blk',h1,h2⟩:=hA
     exact⟨blk',h1,bq (RP.e8 (d := .agg cs) h2)⟩
    ·cases hE
 ·exact wD hT hI ho hτ hE
theorem tX (zs:List Value) (n:Nat) (j:Nat) (hj:j<n*zs.length):(((Array.range (n*zs.length)).map fun i=>zs.toArray[i % zs.toArray.size]!).getD j undef)=zs.getD (j % zs.length) undef:=by
 have hz:0<zs.length:=by
  rcases af9 zs.length with h0|h0
  ·rw[h0]at hj;omega
  ·exact h0
 have hm:j % zs.length<zs.length:=Nat.mod_lt _ hz
 simp[hj,hm,List.getD]
theorem BH (zs:List D):∀(n j:Nat) (d:D),(lG n zs)[j]? = some d->j<n*zs.length∧zs[j % zs.length]? = some d
 | 0,j,d,h=>by simp[lG]at h
 | n+1,j,d,h=>by
  have e:lG (n+1) zs=zs++lG n zs:=by simp[lG,List.replicate_succ]
  rw[e]at h
  by_cases hj:j<zs.length
  ·rw[agw hj]at h
   refine⟨?_,by rw[agN hj];exact h⟩
   rw[agO]
   omega
  ·rw[agx (by omega)]at h
   obtain⟨h1,h2⟩:=BH zs n (j-zs.length) d h
   refine⟨by rw[agO];omega,?_⟩
   rw[Nat.mod_eq_sub_mod (by omega)]
   exact h2
theorem pe (n:Nat) (zs:List D):(lG n zs).length=n*zs.length:=by
 simp[lG]
theorem qG {d e s n c:Nat} {g:Nat×Nat} {ty:Nat} {cs:Array Value} {V':Nat->Nat->Prop} {h':Nat->Option Row} {blk':Nat->Option (Nat×Nat)} (hV:V' d e) (hb:blk' d=some g) (hg:w.heap[g.1]? = some (.cells cs ty (0,0))) (hn:n<=c) (hc:c<=maxLen) (hs:c*s+g.2=cs.size) :
  RT w M h' blk' V' (.buf d e s 0 n) (.slice (some ⟨g.1,g.2,none⟩) n c) :=
 ⟨hV,fun _ _ _ =>.inl ⟨g,g.2,c,cs.size,ty,hb,rfl,fun _=>⟨rfl,hs⟩,hn,hc,by simp[World.shape?,hg]⟩⟩
theorem Rk (n:Nat) (zs:List D):lG n (zs.map canon)=(lG n zs).map canon:=by simp[lG,List.map_flatten]
theorem Bb (hT:gz P T) (hI:Inv N M L w0 blk V t h a w) {ty len d:Nat} {parts:Array (Nat×Operand)} {τ:Ty} {E:bu} (ho:o.op=.buildSlice ty len parts) (hd:o.dst=some d) (hV:hX N V d e) (hτ:T ty=some τ)
  (hE:dC T τ h e d len (parts.toList.map fun p=>(p.1,ev t p.2))=some E):dA P o a w (aX N M L w0 V t h a e o.dst E):=by
 obtain⟨dd,hdd,hc⟩:=under hT hτ
 unfold dC at hE
 split at hE
 ·rename_i el hds
  rw[hds]at hc
  have:=e9 hc
  subst this
  split at hE
  ·rename_i φ hφ
   split at hE
   ·rename_i hcond
    obtain⟨c1,c2,c3,c4⟩:=hcond
    split at hE
    ·rename_i cs fr hf
     split at hE
     ·rename_i hfr
      simp only[af0]at hE
      subst hE
      obtain⟨z,hz1,hz2⟩:=iz (hT el φ hφ) w
      have hcur:(len*φ.size=0->((Array.range (len*φ.size)).map fun i=>φ.zero.toArray[i % φ.zero.toArray.size]!) = #[]):=by intro h0;simp[h0]
      obtain⟨cur',i1,i2,i3,i4⟩:=hI.gO hf (hI.eS fr) (cur:=(Array.range (len*φ.size)).map fun i=>φ.zero.toArray[i % φ.zero.toArray.size]!)
       (by rw[pe];simp[c4]) (fun j x hj=>by
        obtain⟨r1,r2⟩:=BH _ _ _ _ hj
        simp only[agm]at r1 r2
        rw[<- c4,tX φ.zero len j r1]
        have:=oG (w:=w) (M:=Own M (aH h (gP h fr)) blk) φ.zero c3 _ x r2
        simpa [List.getD] using this)
      have hI':=(hI.freeze fr).alloc (d:=d) (e:=e) (ty:=el) (lst:=true) (cs:=cs.map canon) (vs:=cur') hV (by rw[agm];omega) (fun j x hj=>Lk (f:=fun j=>cur'.getD j undef) i4 j x hj)
      refine aD (v := .slice (some ⟨w.heap.size,0,none⟩) len len) (w':=w.alloc (.cells cur' el)) ?_ ⟨bB blk d (some (w.heap.size,0)),?_,?_⟩
      ·have hnot:¬len*φ.size>2 ^ 24:=by omega
       simp only[execOp,ho,Instr.buildSlice,agp,run_underlying hdd,Result.andThen_ok,run_sizeOf (hT _ _ hφ),if_neg hnot]
       by_cases h0:len*φ.size=0
       ·have hcur0:=hcur h0
        rw[hcur0]at i1
        have hc0:((Array.range (len*φ.size)).map fun i=>(#[]:Array Value)[i % (#[]:Array Value).size]!) = #[]:=by simp[h0]
        simp only[if_pos h0,agp,Sem.run_pure,Result.andThen_ok,agL]
        rw[hc0,i1]
        simp[newRow]
       ·simp only[if_neg h0,agp,hz1,Result.andThen_ok,Sem.run_pure,hz2,agL]
        rw[i1]
        simp[newRow]
      ·show Inv _ _ _ _ _ _ _ (aH h (gP h fr++[(d,some ⟨e,el,cs.map canon,false,true,false⟩)])) _ _
       rw[fB]
       refine hI'.weaken fun x v hx =>?_
       rcases hx with hx|⟨rfl,rfl⟩
       ·exact .inl hx
       ·exact .inr ⟨hd,rfl⟩
      ·have hlen:cur'.size=len*φ.size:=by
        rw[<- i2,i3,pe];simp[c4]
       refine qG (g:=(w.heap.size,0)) (.inr ⟨hd,rfl⟩) (aq _ _ _) (heap_alloc_new w _) (afR _) ?_ (by rw[hlen];simp)
       have:len<=len*φ.size:=Nat.le_mul_of_pos_right _ c2
       simp only[maxLen]
       omega
     ·cases hE
    ·cases hE
   ·cases hE
  ·cases hE
 ·cases hE
theorem uZ {M':Nat->Prop} {d:D} {n:Nat} {u:Value} (hn:mq d=some n) (hr:RT w M' h blk V d u):∃k,u=.int k n:=by
 obtain⟨k,rfl⟩:=lC hn
 exact⟨k,kI hr⟩
theorem UY (hT:gz P T) (hI:Inv N M L w0 blk V t h a w) {ty d:Nat} {l c:Operand} {τ:Ty} {E:bu} (ho:o.op=.makeSlice ty l c) (hd:o.dst=some d) (hV:hX N V d e) (hτ:T ty=some τ)
  (hE:oQ T τ e d (ev t l) (ev t c)=some E):dA P o a w (aX N M L w0 V t h a e o.dst E):=by
 have hpl:=hI.ev l
 have hpc:=hI.ev c
 obtain⟨dd,hdd,hc⟩:=under hT hτ
 unfold oQ at hE
 split at hE
 ·rename_i el hds
  rw[hds]at hc
  have:=e9 hc
  subst this
  split at hE
  ·rename_i φ n k hφ hn hk
   split at hE
   ·rename_i hcond
    obtain⟨c1,c2,c3,c4,c5,c6⟩:=hcond
    simp only[af0]at hE
    subst hE
    obtain⟨q1,hl⟩:=uZ hn hpl
    obtain⟨q2,hcv⟩:=uZ hk hpc
    obtain⟨d',i,z,g1,g2,g3,g4,g5,g6,g7⟩:=(hT el φ hφ).get
    have hb:(i.bytes:Int)*(k:Int)<=281474976710656:=by
     have:((i.bytes*k:Nat):Int)<=281474976710656:=by
      rw[g5,agP];omega
     rwa [agQ]at this
    have hk63:(k:Int)<=9223372036854775807:=by
     simp only[maxLen]at c2
     omega
    have hrun:=run_make (P:=P) w ty el i z hdd g3 g6 q1 q2 n k (by omega) (by omega) hb hk63
    simp only[Int.toNat_natCast]at hrun
    have hcells:∀j x,(lG n (φ.zero.map lh))[j]? = some x->aS x=true∧RP w (Own M h blk) x ((madeCells z.cells (k*i.size)).getD j undef):=by
     intro j x hj
     obtain⟨r1,r2⟩:=BH _ _ _ _ hj
     simp only[agm]at r1 r2
     have hjk:j<k*φ.zero.length:=afU r1 (agE _ c1)
     have:=oG (w:=w) (M:=Own M h blk) φ.zero c5 _ x r2
     refine⟨this.1,?_⟩
     have he:(madeCells z.cells (k*i.size)).getD j undef=φ.zero.toArray.getD (j % φ.zero.length) undef:=by
      rw[g7,g4,<- c6]
      have:=tX φ.zero k j hjk
      simpa [madeCells,List.getD] using this
     rw[he];exact this.2
    have hsz:(madeCells z.cells (k*i.size)).size=k*φ.size:=by simp[madeCells,g4]
    have hI':=hI.alloc (d:=d) (e:=e) (ty:=el) (lst:=true) (cs:=lG n ((φ.zero.map lh).map canon)) (vs:=madeCells z.cells (k*i.size)) hV (by rw[pe,hsz];simp only[agm,c6];exact agE _ c1) (fun j x hj=>Lk (f:=fun j=>(madeCells z.cells (k*i.size)).getD j undef) hcells j x (by rw[<- Rk];exact hj))
    refine aD (v := .slice (some ⟨w.heap.size,0,none⟩) n k) (w':=w.alloc (.cells (madeCells z.cells (k*i.size)) el)) ?_ ⟨bB blk d (some (w.heap.size,0)),?_,?_⟩
    ·simp[execOp,ho,hl,hcv,hrun]
    ·refine hI'.weaken fun x v hx =>?_
     rcases hx with hx|⟨rfl,rfl⟩
     ·exact .inl hx
     ·exact .inr ⟨hd,rfl⟩
    ·exact qG (g:=(w.heap.size,0)) (.inr ⟨hd,rfl⟩) (aq _ _ _) (heap_alloc_new w _) c1 c2 (by rw[hsz];simp)
   ·cases hE
  ·cases hE
 ·cases hE
theorem YS {op:BinOp} {ty:Nat} {k:IntKind} {x y:Int} {d:D} (hs:jV op=false) (h:fm op k x y=some d):∃v,(binOp op ty (.int k x) (.int k y)).run P w=.ok v w∧RP w M d v:=by
 cases op with
 | shl=>simp[jV]at hs
 | shr=>simp[jV]at hs
 | quo =>
  simp only[fm]at h
  split at h
  ·cases h
  ·rename_i hy
   simp only[af0]at h
   subst h
   exact⟨_,by simp[binOp,Op.intDiv,hy],.int _ _⟩
 | rem =>
  simp only[fm]at h
  split at h
  ·cases h
  ·rename_i hy
   simp only[af0]at h
   subst h
   exact⟨_,by simp[binOp,Op.intDiv,hy],.int _ _⟩
 | add=>simp only[fm,af0]at h;subst h;exact⟨_,by simp[binOp,Op.intArith],.int _ _⟩
 | sub=>simp only[fm,af0]at h;subst h;exact⟨_,by simp[binOp,Op.intArith],.int _ _⟩
 | mul=>simp only[fm,af0]at h;subst h;exact⟨_,by simp[binOp,Op.intArith],.int _ _⟩
 | and=>simp only[fm,af0]at h;subst h;exact⟨_,by simp[binOp,Op.intBits,B4],.int _ _⟩
 | or=>simp only[fm,af0]at h;subst h;exact⟨_,by simp[binOp,Op.intBits,B4],.int _ _⟩
 | xor=>simp only[fm,af0]at h;subst h;exact⟨_,by simp[binOp,Op.intBits,B4],.int _ _⟩
 | andNot=>simp only[fm,af0]at h;subst h;exact⟨_,by simp[binOp,Op.intBits,B4],.int _ _⟩
 | eql=>simp only[fm,af0]at h;subst h;exact⟨_,by simp[binOp,Op.intCmp],.bool _⟩
 | neq=>simp only[fm,af0]at h;subst h;exact⟨_,by simp[binOp,Op.intCmp],.bool _⟩
 | lss=>simp only[fm,af0]at h;subst h;exact⟨_,by simp[binOp,Op.intCmp],.bool _⟩
 | leq=>simp only[fm,af0]at h;subst h;exact⟨_,by simp[binOp,Op.intCmp],.bool _⟩
 | gtr=>simp only[fm,af0]at h;subst h;exact⟨_,by simp[binOp,Op.intCmp],.bool _⟩
 | geq=>simp only[fm,af0]at h;subst h;exact⟨_,by simp[binOp,Op.intCmp],.bool _⟩
theorem Rm {op:BinOp} {ty:Nat} {k k':IntKind} {x y:Int} {d:D} (hs:jV op=true) (h:rU op k x y=some d):∃v,(binOp op ty (.int k x) (.int k' y)).run P w=.ok v w∧RP w M d v:=by
 unfold rU at h
 split at h
 ·cases h
 ·rename_i hy
  cases op<;>simp only[jV,ags]at hs<;>simp only[af0]at h<;>subst h<;>exact⟨_,by simp[binOp,Op.shift,hy],.int _ _⟩
theorem YU {op:BinOp} {ty:Nat} {x y:ByteArray} {d:D} (h:mA op x y=some d):∃v,(binOp op ty (.string x) (.string y)).run P w=.ok v w∧RP w M d v:=by
 cases op with
 | add =>
  simp only[mA]at h
  split at h
  ·cases h
  ·rename_i hy
   simp only[af0]at h
   subst h
   refine⟨_,?_,.str _⟩
   simp only[binOp,Op.stringOp]
   rw[if_neg hy]
   rfl
 | eql=>simp only[mA,af0]at h;subst h;exact⟨_,by simp[binOp,Op.stringOp],.bool _⟩
 | neq=>simp only[mA,af0]at h;subst h;exact⟨_,by simp[binOp,Op.stringOp],.bool _⟩
 | lss=>simp only[mA,af0]at h;subst h;exact⟨_,by simp[binOp,Op.stringOp],.bool _⟩
 | leq=>simp only[mA,af0]at h;subst h;exact⟨_,by simp[binOp,Op.stringOp],.bool _⟩
 | gtr=>simp only[mA,af0]at h;subst h;exact⟨_,by simp[binOp,Op.stringOp],.bool _⟩
 | geq=>simp only[mA,af0]at h;subst h;exact⟨_,by simp[binOp,Op.stringOp],.bool _⟩
 | _=>simp[mA]at h
end
end Go.Proofs.YtmcncjgbkobjnaaGreat.Am
