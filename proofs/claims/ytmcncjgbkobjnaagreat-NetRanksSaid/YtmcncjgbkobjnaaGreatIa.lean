/- Part of a proof. -/
import Derived.WalkKit
import Derived.Orders
import Derived.Maps.AppendAt
import Derived.Laws.OwnMore
import Derived.Laws.CopyRow
import Derived.Laws.Concat
import Derived.Laws.Cover3
import Derived.WalkSmall
import Derived.MapKept
import Derived.ArgAppend
import Derived.Deep.LoopGhost
import Derived.Maps.RangeRun
import Derived.Test.YtmcncjgbkobjnaaGreatChecked
import Derived.KernelRfl
import GoSem.Claim
import Derived.RowKit
import Derived.Sort.Grow
import Derived.OpenShut
import Derived.Deep.Slices
import Derived.WideKeyArgs
import Derived.SizedLaws
import Derived.ProofKit
import Derived.Below
import Derived.Handed
import Derived.Lib.ItoaMem
import Derived.Lib.SlicesCompact
import Derived.Shelf.Sort.Plain
import Derived.Shelf.Slices.In.SortNone
import Derived.Ground.NamesProg
import Derived.Shelf.SlIterI.Sorted
import Derived.Shelf.SlGeneric
import Derived.Ground.GgzProg
import Derived.Shelf.SlSortCmp.NoneTotal
import Derived.Ground.SlsfProg
import Derived.Test.YtmcncjgbkobjnaaGreatProg
import Derived.Shelf.Spec.SlicesInsertGrow
import Derived.RangeFuncBox
import Derived.RangeFuncNested
import Derived.RangeFuncLeaves
import Derived.Shelf.Abstract
import Derived.OwnWalkIn
import Derived.TacticsInMore
import Derived.LoopNIn
import Derived.LoopIn
import Derived.Lib.SlicesDelete
import Derived.Shelf.RegionOpenPlain
import Derived.Deep.RegionLaw
import Derived.Lib.Walk
import Derived.Shelf.GgSortFunc.InsertionK
import Derived.Shelf.SlSortCmp.Insertion
import Derived.Lib.Small
import Derived.StillTailTactics
import Derived.Test.YtmcncjgbkobjnaaGreatRows
set_option linter.unusedSimpArgs false
set_option linter.unusedVariables false
noncomputable section
namespace Go.Proofs.YtmcncjgbkobjnaaGreat
theorem afr:type_of%@World.cell?_of_block:=@World.cell?_of_block
theorem afs:type_of%@List.getElem?_map.{0,0}:=@List.getElem?_map
theorem aft:type_of%@Option.map_eq_some_iff.{0,0}:=@Option.map_eq_some_iff
theorem afu:type_of%@List.mem_map.{0,0}:=@List.mem_map
theorem afv:type_of%@Nat.le_refl:=@Nat.le_refl
theorem afw:type_of%@Nat.zero_le:=@Nat.zero_le
theorem afx:type_of%@Nat.le_trans:=@Nat.le_trans
theorem afy:type_of%@Nat.lt_of_lt_of_le:=@Nat.lt_of_lt_of_le
theorem afz:type_of%@Array.getElem?_eq_some_iff.{0}:=@Array.getElem?_eq_some_iff
theorem afA:type_of%@Array.getD_eq_getD_getElem?.{0}:=@Array.getD_eq_getD_getElem?
theorem afB:type_of%@List.map_cons.{0,0}:=@List.map_cons
theorem afC:type_of%@List.mem_cons.{0}:=@List.mem_cons
theorem afD:type_of%@Option.map_some.{0,0}:=@Option.map_some
theorem afE:type_of%@Option.some.injEq.{0}:=@Option.some.injEq
theorem afF:type_of%@Array.getElem?_modify.{0}:=@Array.getElem?_modify
theorem afG:type_of%@List.all_eq_true.{0}:=@List.all_eq_true
theorem afH:type_of%@List.getElem_mem.{0}:=@List.getElem_mem
theorem afI:type_of%@List.getElem?_eq_getElem.{0}:=@List.getElem?_eq_getElem
theorem afJ:type_of%@List.mem_append_left.{0}:=@List.mem_append_left
theorem afK:type_of%@List.mem_append_right.{0}:=@List.mem_append_right
theorem afL:type_of%@List.getElem?_take.{0}:=@List.getElem?_take
theorem afM:type_of%@List.getElem?_drop.{0}:=@List.getElem?_drop
theorem afN:type_of%@Nat.eq_zero_or_pos:=@Nat.eq_zero_or_pos
theorem afO:type_of%@List.length_take.{0}:=@List.length_take
theorem afP:type_of%@List.length_drop.{0}:=@List.length_drop
theorem afQ:type_of%@Nat.add_assoc:=@Nat.add_assoc
theorem afR:type_of%@List.getElem?_of_mem.{0}:=@List.getElem?_of_mem
theorem afS:type_of%@List.mem_singleton.{0}:=@List.mem_singleton
theorem afT:type_of%@List.cons.injEq.{0}:=@List.cons.injEq
theorem afU:type_of%@List.getElem?_cons_zero.{0}:=@List.getElem?_cons_zero
theorem afV:type_of%@List.length_cons.{0}:=@List.length_cons
theorem afW:type_of%@List.length_nil.{0}:=@List.length_nil
theorem afX:type_of%@List.mem_of_getElem?.{0}:=@List.mem_of_getElem?
theorem afY:type_of%@List.getElem?_eq_some_iff.{0}:=@List.getElem?_eq_some_iff
theorem afZ:type_of%@List.length_map.{0,0}:=@List.length_map
theorem af0:type_of%@List.length_range:=@List.length_range
theorem af1:type_of%@List.getElem_range:=@List.getElem_range
theorem af2:type_of%@Sem.run_bind:=@Sem.run_bind
theorem af3:type_of%@Result.andThen_ok:=@Result.andThen_ok
theorem af4:type_of%@Nat.add_zero:=@Nat.add_zero
theorem af5:type_of%@Bool.false_eq_true:=@Bool.false_eq_true
theorem af6:type_of%@Bool.and_eq_true:=@Bool.and_eq_true
theorem af7:type_of%@Bool.not_eq_true':=@Bool.not_eq_true'
theorem af8:type_of%@List.getD_eq_getElem?_getD.{0}:=@List.getD_eq_getElem?_getD
theorem af9:type_of%@List.getElem?_append_left.{0}:=@List.getElem?_append_left
theorem aga:type_of%@List.getElem?_append_right.{0}:=@List.getElem?_append_right
theorem agb:type_of%@Array.length_toList.{0}:=@Array.length_toList
theorem agc:type_of%@List.getElem?_append.{0}:=@List.getElem?_append
theorem agd:type_of%@List.mem_of_mem_drop.{0}:=@List.mem_of_mem_drop
theorem age:type_of%@Sem.run_pure:=@Sem.run_pure
theorem agf:type_of%@List.mem_of_mem_take.{0}:=@List.mem_of_mem_take
theorem agh:type_of%@Nat.lt_or_ge:=@Nat.lt_or_ge
theorem agi:type_of%@Nat.mul_le_mul_right:=@Nat.mul_le_mul_right
theorem agj:type_of%@Nat.zero_add:=@Nat.zero_add
theorem agk:type_of%@List.map_nil.{0,0}:=@List.map_nil
theorem agl:type_of%@Option.getD_some.{0}:=@Option.getD_some
theorem agm:type_of%@Array.getElem?_toList.{0}:=@Array.getElem?_toList
theorem agn:type_of%@Array.mem_of_getElem?.{0}:=@Array.mem_of_getElem?
theorem ago:type_of%@Array.mapM_eq_mapM_toList.{0,0,0}:=@Array.mapM_eq_mapM_toList
theorem agp:type_of%@Array.toList_map.{0,0}:=@Array.toList_map
theorem agq:type_of%@List.replicate_succ.{0}:=@List.replicate_succ
theorem agr:type_of%@Nat.mod_eq_of_lt:=@Nat.mod_eq_of_lt
theorem ags:type_of%@Nat.succ_mul:=@Nat.succ_mul
theorem agt:type_of%@Nat.mul_comm:=@Nat.mul_comm
theorem agu:type_of%@Int.natCast_mul:=@Int.natCast_mul
theorem agv:type_of%@Int.toNat_natCast:=@Int.toNat_natCast
theorem agw:type_of%@List.idxOf_cons.{0}:=@List.idxOf_cons
theorem agx:type_of%@List.contains_cons.{0}:=@List.contains_cons
theorem agy:type_of%@Bool.false_or:=@Bool.false_or
theorem agz:type_of%@List.all_cons.{0}:=@List.all_cons
theorem agA:type_of%@List.getD_cons_zero.{0}:=@List.getD_cons_zero
theorem agB:type_of%@List.getD_cons_succ.{0}:=@List.getD_cons_succ
theorem agC:type_of%@List.not_mem_nil.{0}:=@List.not_mem_nil
theorem agD:type_of%@List.getElem?_cons_succ.{0}:=@List.getElem?_cons_succ
theorem agE:type_of%@List.idxOf_lt_length_of_mem.{0}:=@List.idxOf_lt_length_of_mem
theorem agF:type_of%@List.length_append.{0}:=@List.length_append
theorem agG:type_of%@Array.getElem?_eq_getElem.{0}:=@Array.getElem?_eq_getElem
theorem agH:type_of%@Nat.sub_self:=@Nat.sub_self
theorem agI:type_of%@Nat.min_eq_left:=@Nat.min_eq_left
theorem agJ:type_of%@Nat.add_mul:=@Nat.add_mul
theorem agK:type_of%@Array.getElem_append.{0}:=@Array.getElem_append
theorem agL:type_of%@List.mem_append.{0}:=@List.mem_append
theorem agM:type_of%@Array.getElem?_extract.{0}:=@Array.getElem?_extract
theorem agN:type_of%@Array.getElem?_eq_none.{0}:=@Array.getElem?_eq_none
theorem agO:type_of%@List.eq_nil_of_length_eq_zero.{0}:=@List.eq_nil_of_length_eq_zero
theorem agP:type_of%@List.size_toArray.{0}:=@List.size_toArray
theorem agQ:type_of%@Array.toList_append.{0}:=@Array.toList_append
theorem agR:type_of%@List.append_assoc.{0}:=@List.append_assoc
theorem agS:type_of%@List.drop_append_of_le_length.{0}:=@List.drop_append_of_le_length
theorem agT:type_of%@Nat.add_sub_cancel_left:=@Nat.add_sub_cancel_left
theorem agU:type_of%@List.take_append.{0}:=@List.take_append
theorem agV:type_of%@List.take_append_of_le_length.{0}:=@List.take_append_of_le_length
theorem agW:type_of%@List.take_of_length_le.{0}:=@List.take_of_length_le
theorem agX:type_of%@List.drop_zero.{0}:=@List.drop_zero
theorem agY:type_of%@Bool.not_true:=@Bool.not_true
theorem agZ:type_of%@Bool.true_and:=@Bool.true_and
theorem ag0:type_of%@List.mem_flatMap.{0,0}:=@List.mem_flatMap
theorem ag1:type_of%@List.map_congr_left.{0,0}:=@List.map_congr_left
theorem ag2:type_of%@List.mem_cons_self.{0}:=@List.mem_cons_self
theorem ag3:type_of%@List.mem_cons_of_mem.{0}:=@List.mem_cons_of_mem
theorem ag4:type_of%@List.toList_toArray.{0}:=@List.toList_toArray
theorem ag5:type_of%@Option.bind_some.{0,0}:=@Option.bind_some
theorem ag6:type_of%@Bool.or_eq_true:=@Bool.or_eq_true
theorem ag7:type_of%@List.getElem?_eq_none.{0}:=@List.getElem?_eq_none
theorem ag8:type_of%@List.mem_filter.{0}:=@List.mem_filter
theorem ag9:type_of%@List.pairwise_cons.{0}:=@List.pairwise_cons
theorem aha:type_of%@List.nodup_cons.{0}:=@List.nodup_cons
theorem ahb:type_of%@List.mem_range:=@List.mem_range
theorem ahc:type_of%@Nat.le_of_not_lt:=@Nat.le_of_not_lt
theorem ahd:type_of%@Nat.zero_lt_one:=@Nat.zero_lt_one
theorem ahe:type_of%@List.nil_append.{0}:=@List.nil_append
theorem ahf:type_of%@Nat.le_of_ble_eq_true:=@Nat.le_of_ble_eq_true
theorem ahg:type_of%@List.drop_append.{0}:=@List.drop_append
theorem ahh:type_of%@List.drop_eq_nil_of_le.{0}:=@List.drop_eq_nil_of_le
theorem ahi:type_of%@Nat.add_sub_cancel:=@Nat.add_sub_cancel
theorem ahj:type_of%@List.drop_drop.{0}:=@List.drop_drop
theorem ahk:type_of%@List.take_append_drop.{0}:=@List.take_append_drop
theorem ahl:type_of%@List.length_pos_iff.{0}:=@List.length_pos_iff
theorem ahm:type_of%@List.append_nil.{0}:=@List.append_nil
theorem ahn:type_of%@List.cons_append.{0}:=@List.cons_append
theorem aho:type_of%@List.drop_succ_cons.{0}:=@List.drop_succ_cons
theorem ahp:type_of%@List.take_succ_cons.{0}:=@List.take_succ_cons
theorem ahq:type_of%@List.drop_eq_getElem_cons.{0}:=@List.drop_eq_getElem_cons
theorem ahr:type_of%@List.take_zero.{0}:=@List.take_zero
theorem ahs:type_of%@Bool.false_and:=@Bool.false_and
theorem aht:type_of%@Bool.not_false:=@Bool.not_false
theorem ahu:type_of%@Nat.one_ne_zero:=@Nat.one_ne_zero
theorem ahv:type_of%@List.length_set.{0}:=@List.length_set
theorem ahw:type_of%@List.take_length.{0}:=@List.take_length
theorem ahx:type_of%@List.Perm.refl.{0}:=@List.Perm.refl
theorem ahy:type_of%@Int.lt_trichotomy:=@Int.lt_trichotomy
theorem ahz:type_of%@List.ext_getElem?.{0}:=@List.ext_getElem?
theorem ahA:type_of%@List.pairwise_iff_getElem.{0}:=@List.pairwise_iff_getElem
theorem ahB:type_of%@Int.mul_comm:=@Int.mul_comm
theorem ahC:type_of%@Int.mul_one:=@Int.mul_one
theorem ahD:type_of%@Int.mul_le_mul_of_nonneg_left:=@Int.mul_le_mul_of_nonneg_left
theorem ahE:type_of%@Int.mul_add:=@Int.mul_add
theorem ahF:type_of%@Int.mul_assoc:=@Int.mul_assoc
theorem ahG:type_of%@Nat.and_two_pow_sub_one_eq_mod:=@Nat.and_two_pow_sub_one_eq_mod
theorem ahH:type_of%@List.getElem_set_ne.{0}:=@List.getElem_set_ne
theorem ahI:type_of%@Int.mul_sub:=@Int.mul_sub
theorem ahJ:type_of%@Int.ediv_nonneg:=@Int.ediv_nonneg
theorem ahK:type_of%@Int.ediv_lt_of_lt_mul:=@Int.ediv_lt_of_lt_mul
theorem ahL:type_of%@Int.emod_lt_of_pos:=@Int.emod_lt_of_pos
theorem ahM:type_of%@Int.mul_ediv_add_emod:=@Int.mul_ediv_add_emod
theorem ahN:type_of%@Int.mul_nonneg:=@Int.mul_nonneg
theorem ahO:type_of%@Int.mul_left_comm:=@Int.mul_left_comm
theorem ahP:type_of%@Int.add_mul:=@Int.add_mul
theorem ahQ:type_of%@Int.mul_zero:=@Int.mul_zero
theorem ahR:type_of%@Int.one_mul:=@Int.one_mul
theorem ahS:type_of%@Int.mul_le_mul_of_nonneg_right:=@Int.mul_le_mul_of_nonneg_right
theorem ahT:type_of%@Int.natAbs_mul:=@Int.natAbs_mul
theorem ahU:type_of%@List.getLast?_eq_some_getLast.{0}:=@List.getLast?_eq_some_getLast
theorem ahV:type_of%@Int.sign_eq_one_of_pos:=@Int.sign_eq_one_of_pos
theorem ahW:type_of%@Int.sign_eq_neg_one_of_neg:=@Int.sign_eq_neg_one_of_neg
theorem ahX:type_of%@List.head?_drop.{0}:=@List.head?_drop
theorem ahY:type_of%@List.length_mapIdx.{0,0}:=@List.length_mapIdx
theorem ahZ:type_of%@List.getElem?_mapIdx.{0,0}:=@List.getElem?_mapIdx
theorem ah0:type_of%@List.take_succ_eq_append_getElem.{0}:=@List.take_succ_eq_append_getElem
theorem ah1:type_of%@List.mem_nil_iff.{0}:=@List.mem_nil_iff
theorem ah2:type_of%@Array.replicate_succ.{0}:=@Array.replicate_succ
theorem ah3:type_of%@Array.replicate_zero.{0}:=@Array.replicate_zero
theorem ah4:type_of%@List.push_toArray.{0}:=@List.push_toArray
theorem ah5:type_of%@List.append_toArray.{0}:=@List.append_toArray
theorem ah6{α:Type}{a:α}:a=a:=Eq.trans rfl rfl
end Go.Proofs.YtmcncjgbkobjnaaGreat
namespace Go.Proofs.YtmcncjgbkobjnaaGreat.Am
open Go.RowKit
abbrev bV:=Int×Option Int
def jx:bV->Value
 | (n,none) =>.int .i64 n
 | (a,some b) =>.agg #[.int .i64 a,.int .i64 b]
def FM (k:bV):Bool:=k.2.isSome
theorem XM {k k':bV} (h:jx k=jx k'):k=k':=by
 obtain⟨a,x⟩:=k
 obtain⟨b,y⟩:=k'
 cases x<;>cases y<;>simp[jx]at h
 ·subst h;rfl
 ·obtain⟨rfl,rfl⟩:=h;rfl
inductive D where
 | int (k:IntKind) (n:Int)
 | bool (b:Bool)
 | str (s:ByteArray)
 | sl (nl tight:Bool) (n:Nat) (xs:List D)
 | ptr (x v o:Nat)
 | ip (xs:List D)
 | buf (x v s o n:Nat)
 | agg (xs:List D)
 | tup (xs:List D)
 | fn (f:Nat)
 | clo (f k:Nat) (caps:List D)
 | ali (x v s o n:Nat)
 | box1 (x v s o n:Nat)
 | mp (x v:Nat)
 | mpc (ks:List bV) (vs:List D)
 | alm (x v:Nat)
 | pm (x v y:Nat)
 | ph (x s n:Nat)
 | nx (n:Nat) (xs:List D)
 | nr (ty s nv:Nat) (cs:List D)
 | und
 | skp
structure Row where
 v:Nat
 ty:Nat
 cells:List D
 fz:Bool
 lst:Bool
 mp:Bool:=false
def aS:D->Bool
 | .int _ _ | .bool _ | .str _ | .sl _ _ _ _ | .ali _ _ _ _ _ | .mpc _ _ | .alm _ _=>true
 | _=>false
def canon:D->D
 | .sl _ _ n xs =>.sl false false n xs
 | d=>d
def eX:D->D
 | .sl _ _ n xs =>.sl false false n xs
 | .agg xs =>.agg (xs.map canon)
 | d=>d
def bz {α:Type} (f:Nat->α) (i:Nat) (v:α):Nat->α:=fun j=>if j=i then v else f j
inductive Ds where
 | int (k:IntKind)|bool|str
 | struct (fs:List (Nat×Nat))
 | slice (e:Nat)
 | arr (n e:Nat)
 | map (k e:Nat)
 | other
structure Ty where
 ds:Ds
 size:Nat
 bytes:Nat
 zero:List Value
 eqok:Bool:=false
def conv:TypeDesc->Ds
 | .int k =>.int k
 | .bool =>.bool
 | .string =>.str
 | .struct F =>.struct (F.toList.map fun f=>(f.type,f.offset))
 | .slice e =>.slice e
 | .array n e =>.arr n e
 | .map k e =>.map k e
 | _ =>.other
def kW:Value->D
 | .int k n =>.int k n
 | .bool b =>.bool b
 | .string s =>.str s
 | .slice none 0 0 =>.sl true true 0 []
 | .map none =>.mpc [] []
 | _ =>.und
def Ds.nd:Ds->Bool
 | .struct _ | .arr _ _=>true
 | _=>false
def ev (t:Nat->D):Operand->D
 | .tmp i=>t i
 | .const v=>kW v
 | .global _ =>.und
 | .func f =>.fn f
def Qu:Value->Bool
 | .agg _=>true
 | _=>false
structure dc (P:Program) (t:Nat) (τ:Ty):Prop where
 desc:(P.underlying t).map conv=some τ.ds
 info:(P.info? t).map (fun i=>(i.size,i.bytes,i.zero.map fun z=>z.cells.toList))=some (τ.size,τ.bytes,some τ.zero)
 agg:(P.info? t).map (fun i=>i.zero.map Qu)=some (some τ.ds.nd)
 eqs:τ.eqok=true->P.stoodInHeld t=false∧P.eqGuardType P.depth t=false∧(match P.underlying t with|some (.struct F)=>F.all (fun f=>f.name != "_")|_=>true)=true
def gm (P:Program) (T:Nat->Option Ty):Prop:=∀t τ,T t=some τ->dc P t τ
inductive RP (w:World) (M:Nat->Prop):D->Value->Prop
 | int (k:IntKind) (n:Int):RP w M (.int k n) (.int k n)
 | bool (b:Bool):RP w M (.bool b) (.bool b)
 | str (s:ByteArray):RP w M (.str s) (.string s)
 | sl (A:Option Addr) (c:Nat) (nl tight:Bool) (n:Nat) (xs:List D) (us:Nat->Value) (h1:n<=c) (h2:c<=maxLen) (h3:nl=true->(tight=true->A=none∧c=0)∧(tight=false->A≠none)) (h4:A=none->n=0∧c=0)
   (h5:tight=true->c=n) (h6:xs≠[]->∃b o,A=some ⟨b,o,none⟩∧b<w.heap.size∧¬M b∧∀j,j<xs.length->w.cell? ⟨b,o+j,none⟩=some (us j))
   (h7:∀j x,xs[j]? = some x->RP w M x (us j)) (h8:∀x∈xs,aS x=true):RP w M (.sl nl tight n xs) (.slice A n c)
 | ip (xs:List D) (ad:Addr) (us:Nat->Value) (h6:xs≠[]->∃b o,ad=⟨b,o,none⟩∧b<w.heap.size∧¬M b∧∀j,j<xs.length->w.cell? ⟨b,o+j,none⟩=some (us j))
   (h7:∀j x,xs[j]? = some x->RP w M x (us j)) (h8:∀x∈xs,aS x=true):RP w M (.ip xs) (.pointer (some ad))
 | agg (xs:List D) (us:List Value) (h1:us.length=xs.length) (h2:∀j x,xs[j]? = some x->RP w M x (us.getD j undef)) (h3:∀x∈xs,aS x=true):RP w M (.agg xs) (.agg us.toArray)
 | tup (xs:List D) (us:List Value) (h1:us.length=xs.length) (h2:∀j x,xs[j]? = some x->RP w M x (us.getD j undef)):RP w M (.tup xs) (.tuple us.toArray)
 | fn (f:Nat):RP w M (.fn f) (.func (.func f) #[] #[])
 | ali (x v s o n:Nat) (u:Value) (h1:u.oneCell'=true):RP w M (.ali x v s o n) u
 | alm (x v:Nat) (u:Value) (h1:u.oneCell'=true):RP w M (.alm x v) u
 | mpc (ks:List bV) (vs:List D) (mb:Option Nat) (us:Nat->Value) (h1:vs.length=ks.length) (h2:mb=none->ks=[])
   (h3:∀b,mb=some b->b<w.heap.size∧¬M b∧∃(ents:Array MapEntry) (clock:Nat),w.heap[b]? = some (.map ents clock)∧ents.size=ks.length∧∀j k,ks[j]? = some k->∃e:MapEntry,ents[j]? = some e∧e.key=jx k∧e.val=us j)
   (h4:∀j x,vs[j]? = some x->RP w M x (us j)):RP w M (.mpc ks vs) (.map mb)
 | clo (f k:Nat) (xs:List D) (us:List Value) (h1:us.length=xs.length) (h2:∀j x,xs[j]? = some x->RP w M x (us.getD j undef)):RP w M (.clo f k xs) (.func (.func f) (us.take k).toArray (us.drop k).toArray)
theorem RP.keep {w w':World} {M M':Nat->Prop} (hk:∀b,b<w.heap.size->¬M b->b<w'.heap.size∧¬M' b∧w'.heap[b]? = w.heap[b]?) {d:D} {u:Value} (h:RP w M d u):RP w' M' d u:=by
 induction h with
 | int k n=>exact .int k n
 | bool b=>exact .bool b
 | str s=>exact .str s
 | sl A c nl tight n xs us h1 h2 h3 h4 h5 h6 h7 h8 ih =>
  refine .sl A c nl tight n xs us h1 h2 h3 h4 h5 (fun hne =>?_) ih h8
  obtain⟨b,o,hA,hb,hM,hc⟩:=h6 hne
  obtain⟨k1,k2,k3⟩:=hk b hb hM
  exact⟨b,o,hA,k1,k2,fun j hj=>(afr (a:=⟨b,o+j,none⟩) k3).trans (hc j hj)⟩
 | ip xs ad us h6 h7 h8 ih =>
  refine .ip xs ad us (fun hne =>?_) ih h8
  obtain⟨b,o,hA,hb,hM,hc⟩:=h6 hne
  obtain⟨k1,k2,k3⟩:=hk b hb hM
  exact⟨b,o,hA,k1,k2,fun j hj=>(afr (a:=⟨b,o+j,none⟩) k3).trans (hc j hj)⟩
 | agg xs us h1 h2 h3 ih=>exact .agg xs us h1 ih h3
 | tup xs us h1 h2 ih=>exact .tup xs us h1 ih
 | fn f=>exact .fn f
 | ali x v s o n u h1=>exact .ali x v s o n u h1
 | alm x v u h1=>exact .alm x v u h1
 | mpc ks vs mb us h1 h2 h3 h4 ih =>
  refine .mpc ks vs mb us h1 h2 (fun b hb =>?_) ih
  obtain⟨k1,k2,ents,clock,k3,k4,k5⟩:=h3 b hb
  obtain⟨q1,q2,q3⟩:=hk b k1 k2
  exact⟨q1,q2,ents,clock,q3.trans k3,k4,k5⟩
 | clo f kk xs us h1 h2 ih=>exact .clo f kk xs us h1 ih
theorem RP.canon {w:World} {M:Nat->Prop} {d:D} {u:Value} (h:RP w M d u):RP w M (canon d) u:=by
 cases h with
 | sl A c nl tight n xs us h1 h2 h3 h4 h5 h6 h7 h8=>exact .sl A c false false n xs us h1 h2 (fun h=>by cases h) h4 (fun h=>by cases h) h6 h7 h8
 | int k n=>exact .int k n
 | bool b=>exact .bool b
 | str s=>exact .str s
 | ip xs ad us h6 h7 h8=>exact .ip xs ad us h6 h7 h8
 | agg xs us h1 h2 h3=>exact .agg xs us h1 h2 h3
 | tup xs us h1 h2=>exact .tup xs us h1 h2
 | fn f=>exact .fn f
 | ali x v s o n u h1=>exact .ali x v s o n u h1
 | alm x v u h1=>exact .alm x v u h1
 | mpc ks vs mb us h1 h2 h3 h4=>exact .mpc ks vs mb us h1 h2 h3 h4
 | clo f kk xs us h1 h2=>exact .clo f kk xs us h1 h2
theorem kQ (d:D):aS (canon d)=aS d:=by cases d<;>rfl
theorem RP.eX {w:World} {M:Nat->Prop} {d:D} {u:Value} (h:RP w M d u):RP w M (eX d) u:=by
 cases h with
 | agg xs us h1 h2 h3 =>
  refine .agg _ us (by simpa using h1) (fun j x hj =>?_) (fun x hx =>?_)
  ·rw[afs,aft]at hj
   obtain⟨y,hy,rfl⟩:=hj
   exact (h2 j y hy).canon
  ·obtain⟨y,hy,rfl⟩:=afu.1 hx
   rw[kQ]
   exact h3 y hy
 | sl A c nl tight n xs us h1 h2 h3 h4 h5 h6 h7 h8=>exact .sl A c false false n xs us h1 h2 (fun h=>by cases h) h4 (fun h=>by cases h) h6 h7 h8
 | int k n=>exact .int k n
 | bool b=>exact .bool b
 | str s=>exact .str s
 | ip xs ad us h6 h7 h8=>exact .ip xs ad us h6 h7 h8
 | tup xs us h1 h2=>exact .tup xs us h1 h2
 | fn f=>exact .fn f
 | ali x v s o n u h1=>exact .ali x v s o n u h1
 | alm x v u h1=>exact .alm x v u h1
 | mpc ks vs mb us h1 h2 h3 h4=>exact .mpc ks vs mb us h1 h2 h3 h4
 | clo f kk xs us h1 h2=>exact .clo f kk xs us h1 h2
def RC (w:World) (M:Nat->Prop) (h:Nat->Option Row) (blk:Nat->Option (Nat×Nat)) (V:Nat->Nat->Prop):D->Value->Prop
 | .ptr x v o,u=>V x v∧∀r,h x=some r->r.v=v->∃g,blk x=some g∧u=.pointer (some ⟨g.1,g.2+o,none⟩)
 | .mp x v,u=>V x v∧∀r,h x=some r->r.v=v->∃g,blk x=some g∧u=.map (some g.1)
 | .pm x v _,u=>V x v∧∀r,h x=some r->r.v=v->∃g,blk x=some g∧u=.pointer (some ⟨g.1,g.2+0,none⟩)
 | d,u=>RP w M d u
def RT (w:World) (M:Nat->Prop) (h:Nat->Option Row) (blk:Nat->Option (Nat×Nat)) (V:Nat->Nat->Prop):D->Value->Prop
 | .ptr x v o,u=>V x v∧∀r,h x=some r->r.v=v->∃g,blk x=some g∧u=.pointer (some ⟨g.1,g.2+o,none⟩)
 | .buf x v s o n,u=>V x v∧∀r,h x=some r->r.v=v ->
   (∃g o' c N t,blk x=some g∧u=.slice (some ⟨g.1,o',none⟩) n c∧(0<c∨o=0->o'=g.2+o∧c*s+o'=N)∧n<=c∧c<=maxLen∧w.shape? g.1=some (t,N))∨(blk x=none∧n=0∧∃A,u=.slice A 0 0)
 | .clo f kk xs,u=>∃us:List Value,u=.func (.func f) (us.take kk).toArray (us.drop kk).toArray∧us.length=xs.length∧∀(j:Nat) x,xs[j]? = some x->RC w M h blk V x (us.getD j undef)
 | .mp x v,u=>V x v∧∀r,h x=some r->r.v=v->∃g,blk x=some g∧u=.map (some g.1)
 | .pm x v _,u=>V x v∧∀r,h x=some r->r.v=v->∃g,blk x=some g∧u=.pointer (some ⟨g.1,g.2+0,none⟩)
 | .box1 x v s o n,u=>∃u':Value,u=.agg #[u']∧u'.oneCell'=true∧V x v∧∀r,h x=some r->r.v=v ->
   (∃g o' c N t,blk x=some g∧u'=.slice (some ⟨g.1,o',none⟩) n c∧(0<c∨o=0->o'=g.2+o∧c*s+o'=N)∧n<=c∧c<=maxLen∧w.shape? g.1=some (t,N))∨(blk x=none∧n=0∧∃A,u'=.slice A 0 0)
 | .und,_=>True
 | .skp,u=>u=undef
 | d,u=>RP w M d u
def Own (M:Nat->Prop) (h:Nat->Option Row) (blk:Nat->Option (Nat×Nat)) (b:Nat):Prop:=M b∨∃x r g,h x=some r∧r.fz=false∧blk x=some g∧g.1=b
def Wc (w:World) (M:Nat->Prop) (g:Nat×Nat) (r:Row):Prop :=
 ∃cs:Array Value,w.heap[g.1]? = some (.cells cs r.ty (0,0))∧g.2+r.cells.length<=cs.size∧∀j d,r.cells[j]? = some d->aS d=true∧RP w M d (cs.getD (g.2+j) undef)
def Z1 (w:World) (M:Nat->Prop) (g:Nat×Nat) (ks:List bV) (vs:List D):Prop :=
 ∃(ents:Array MapEntry) (clock:Nat),w.heap[g.1]? = some (.map ents clock)∧ents.size=ks.length∧MapKept.Stamped ents clock∧∃us:Nat->Value,(∀j k,ks[j]? = some k->∃e:MapEntry,ents[j]? = some e∧e.key=jx k∧e.val=us j)∧∀j x,vs[j]? = some x->RP w M x (us j)
def KE (w:World) (M:Nat->Prop) (g:Nat×Nat) (ty:Nat) (ks:List bV) (vs:List D):Prop :=
 g.2=0∧∃(b:Nat) (ents:Array MapEntry) (clock:Nat) (seen:Array Nat) (c l:List Nat) (us:Nat->Value),w.heap[g.1]? = some (.mapIter (some b) clock seen clock)∧b<w.heap.size∧¬M b∧w.heap[b]? = some (.map ents clock)∧MapKept.Stamped ents clock ∧
  c.length=ty-900000∧c.length<=1∧(c++l).length=ks.length∧l.Nodup∧(∀i,i∈l↔∃e:MapEntry,ents[i]? = some e∧seen.contains e.born=false)∧(∀i,i∈c->∃e:MapEntry,ents[i]? = some e∧seen.back? = some e.born) ∧
  (∀j k,ks[j]? = some k->∃(i:Nat) (e:MapEntry),(c++l)[j]? = some i∧ents[i]? = some e∧e.key=jx k∧e.val=us j)∧∀j x,vs[j]? = some x->RP w M x (us j)
def wW (w:World) (M:Nat->Prop) (g:Nat×Nat) (r:Row):Prop :=
 ∃ks vs,r.cells=[.mpc ks vs]∧vs.length=ks.length∧(r.ty<900000->Z1 w M g ks vs)∧(900000<=r.ty->KE w M g r.ty ks vs)
def phC:D->Bool
 | .ph _ _ _ | .und | .int _ _ | .bool _ | .str _ | .sl _ _ _ _=>true
 | _=>false
def BM (w:World) (M:Nat->Prop):D->Value->Prop
 | .ph _ _ _,_=>True
 | .und,_=>True
 | d,u=>RP w M d u
def BN (w:World) (M:Nat->Prop) (g:Nat×Nat) (r:Row):Prop:=(∀d∈r.cells,phC d=true)∧∃cs:Array Value,w.heap[g.1]? = some (.cells cs r.ty (0,0))∧g.2+r.cells.length<=cs.size∧∀j d,r.cells[j]? = some d->BM w M d (cs.getD (g.2+j) undef)
def du (w:World) (M:Nat->Prop) (g:Nat×Nat) (r:Row):Prop :=
 match r.mp with
 | true=>wW w M g r∨BN w M g r
 | false=>Wc w M g r
def RX (L:Nat->Prop) (w0 w:World) (M:Nat->Prop) (g:Option (Nat×Nat)) (r:Row):Prop :=
 match g with
 | some g=>(w0.heap.size<=g.1∨L g.1)∧du w M g r
 | none=>r.cells=[]
def YX:Option Nat:=none
def acm:Array Value:=((List.range 20).map fun i=>Value.int .u64 ((10 ^ i:Nat):Int)).toArray
structure RY (w:World) (M:Nat->Prop) (b:Nat):Prop where
 lt:b<w.heap.size
 no:¬M b
 is:∃ty fr,w.heap[b]? = some (.cells acm ty fr)
theorem RY.less {w:World} {M1 M2:Nat->Prop} {b:Nat} (h:RY w M1 b) (hm:∀b,M2 b->M1 b):RY w M2 b:=⟨h.lt,fun hb=>h.no (hm _ hb),h.is⟩
def Uv (w:World) (M:Nat->Prop):Prop:=∀b,YX=some b->RY w M b
theorem Uv.keep {w w':World} {M M':Nat->Prop} (hk:∀b,b<w.heap.size->¬M b->b<w'.heap.size∧¬M' b∧w'.heap[b]? = w.heap[b]?) (h:Uv w M):Uv w' M':=fun b hb=>by
 obtain⟨h1,h2,ty,fr,h3⟩:=h b hb
 obtain⟨k1,k2,k3⟩:=hk b h1 h2
 exact⟨k1,k2,ty,fr,k3.trans h3⟩
structure dJ (L:Nat->Prop) (w0 w:World):Prop where
 os:w.os=w0.os
 tape:w.tape=w0.tape
 output:w.output=w0.output
 size:w0.heap.size<=w.heap.size
 block:∀k,k<w0.heap.size->¬L k->w.heap[k]? = w0.heap[k]?
def alD:D->Option D
 | .ali x v s o n=>some (.buf x v s o n)
 | .alm x v=>some (.mp x v)
 | _=>none
abbrev ik:=Option (Option (Nat×Nat)×(Nat->Prop))
def LB (L:ik) (b:Nat):Prop:=∃p,L=some p∧((∃g:Nat×Nat,p.1=some g∧b=g.1)∨p.2 b)
def JN (go:Option (Nat×Nat)):ik:=some (go,fun _=>False)
theorem oB {b:Nat} : ¬LB none b:=fun⟨_,h,_⟩=>by cases h
theorem I6 {go:Option (Nat×Nat)} {b:Nat} : LB (JN go) b↔∃g,go=some g∧b=g.1 :=
 ⟨fun⟨p,h1,h2⟩=>by cases h1;exact h2.elim id False.elim,fun h=>⟨_,rfl,.inl h⟩⟩
def PK:Nat:=1000000
def NK (y j:Nat):Nat:=PK*(j+2)+y
def PC (y j x:Nat):Prop:=y<PK∧(x=PK+y∨x=NK y j)
def PhR (w:World) (h:Nat->Option Row) (blk:Nat->Option (Nat×Nat)) (x s n:Nat) (u:Value):Prop:=∀r,h x=some r ->
 (∃g c N' ty,blk x=some g∧u=.slice (some ⟨g.1,g.2,none⟩) n c∧c*s+g.2=N'∧n<=c∧c<=maxLen∧w.shape? g.1=some (ty,N'))∨(blk x=none∧n=0∧∃A,u=.slice A 0 0)
structure gR (N:Nat) (V:Nat->Nat->Prop) (d e:Nat):Prop where
 no:¬V d e
 lt:d<N
structure Inv (N:Nat) (M:Nat->Prop) (L:ik) (w0:World) (blk:Nat->Option (Nat×Nat)) (V:Nat->Nat->Prop) (t:Nat->D) (h:Nat->Option Row) (a:Act) (w:World):Prop where
 tab:Uv w (Own M h blk)
 below:dJ (LB L) w0 w
 mlt:∀b,M b->b<w0.heap.size
 lent:∀b,LB L b->¬M b
 pin:∀go,L=some go->V 0 0∧∀r,h 0=some r->r.v=0->blk 0=go.1∧∀g,go.1=some g->w.shape? g.1=w0.shape? g.1
 defers:a.defers=[]
 tsz:a.tmps.size=N
 slots:∀i,RT w (Own M h blk) h blk V (t i) (a.tmps.getD i undef)
 rows:∀x r,h x=some r->(x<N->V x r.v)∧RX (LB L) w0 w (Own M h blk) (blk x) r
 inj:∀x y r s g g',h x=some r->h y=some s->blk x=some g->blk y=some g'->g.1=g'.1->x=y
 ali:∀y r g,h y=some r->r.fz=true->r.lst=false->blk y=some g->∀j c d,r.cells[j]? = some c->alD c=some d->∃u,w.cell? ⟨g.1,g.2+j,none⟩=some u∧RT w (Own M h blk) h blk V d u
 big:N<=PK
 pha:∀y r g,h y=some r->r.mp=true->blk y=some g->∀j x s n:Nat,r.cells[j]? = some (D.ph x s n)->PC y j x∧∃u,w.cell? ⟨g.1,g.2+j,none⟩=some u∧PhR w h blk x s n u
def fO:D->List Nat
 | .ptr x _ _=>[x]
 | .box1 x _ _ _ _=>[x]
 | .mp x _=>[x]
 | .pm x _ y=>[x,y]
 | .buf x _ _ _ _=>[x]
 | _=>[]
def nm:D->List Nat
 | .clo _ _ xs=>xs.flatMap fO
 | d=>fO d
def live (h:Nat->Option Row) (x v:Nat):Option Row :=
 match h x with
 | some r=>if r.v=v∧r.mp=false then some r else none
 | none=>none
def ma (h:Nat->Option Row) (x v:Nat):Option Row :=
 match h x with
 | some r=>if r.v=v then some r else none
 | none=>none
def kd (h:Nat->Option Row) (x v:Nat):Option (Row×Nat×Nat×Nat) :=
 match h x with
 | some r=>if r.v=v∧r.mp=true then (match r.cells with | [.ph y s n]=>some (r,y,s,n)|_=>none) else none
 | none=>none
def fV (h:Nat->Option Row) (x v:Nat):Option (List bV×List D) :=
 match h x with
 | some r=>if r.v=v∧r.mp=true∧r.ty<900000 then (match r.cells with | [.mpc ks vs]=>some (ks,vs)|_=>none) else none
 | none=>none
def pO (r:Row):Bool :=
 match r.mp,r.cells with
 | true,[.mpc _ _]=>decide (r.ty<900000)
 | true,_=>false
 | false,_=>true
def wz (h:Nat->Option Row) (x v:Nat):Option Row :=
 match h x with
 | some r=>if r.v=v∧r.mp=true∧pO r=true then some r else none
 | none=>none
def xF (d:D) (h:Nat->Option Row) (x v:Nat):Option Row :=
 match d with
 | .mp _ _=>wz h x v
 | _=>live h x v
def content (h:Nat->Option Row):D->Option (Nat×List D)
 | .sl _ _ n xs=>some (n,xs)
 | .buf x v s o n =>
  match live h x v with
  | some r=>if o+n*s<=r.cells.length then some (n,(r.cells.drop o).take (n*s)) else none
  | none=>none
 | _=>none
def cY (h:Nat->Option Row):D->Option (D×List Nat)
 | .int k n=>some (.int k n,[])
 | .bool b=>some (.bool b,[])
 | .str s=>some (.str s,[])
 | .sl a b n xs=>some (.sl a b n xs,[])
 | .buf x v s o n =>
  match live h x v with
  | some r=>if o+n*s<=r.cells.length then some (.sl false false n ((r.cells.drop o).take (n*s)),[x]) else none
  | none=>none
 | _=>none
def dY (h:Nat->Option Row):D->Option (List D×List Nat)
 | .agg xs=>some (xs,[])
 | d =>
  match cY h d with
  | some (d',fr)=>some ([d'],fr)
  | none=>none
def aN (h:Nat->Option Row):D->Option (D×List Nat)
 | .ptr x v o =>
  match live h x v with
  | some r=>if o<=r.cells.length then some (.ip (r.cells.drop o),[x]) else none
  | none=>none
 | .agg xs=>some (.agg (xs.map canon),[])
 | .ip xs=>some (.ip xs,[])
 | .fn f=>some (.fn f,[])
 | .box1 x v s o n =>
  match cY h (.buf x v s o n) with
  | some (d',fr)=>some (.agg [canon d'],fr)
  | none=>none
 | .mp x v =>
  match fV h x v with
  | some (ks,vs)=>some (.mpc ks vs,[x])
  | none=>none
 | .mpc ks vs=>some (.mpc ks vs,[])
 | .pm x v y =>
  match live h x v with
  | some r =>
   match r.cells with
   | [.alm y' v'] =>
    if r.fz=true∧r.lst=false∧y'=y then
     match fV h y v' with
     | some (ks,vs)=>some (.ip [.mpc ks vs],[x,y])
     | none=>none
    else none
   | _=>none
  | none=>none
 | d =>
  match cY h d with
  | some (d',fr)=>some (canon d',fr)
  | none=>none
def cH (h:Nat->Option Row):List D->Option (List D×List Nat)
 | []=>some ([],[])
 | d::ds =>
  match aN h d with
  | some (d',fr) =>
   match cH h ds with
   | some (ds',fr')=>some (d'::ds',fr++fr')
   | none=>none
  | none=>none
def bE (h:Nat->Option Row):D->Option (D×List Nat)
 | .clo f kk xs =>
  match cH h xs with
  | some (ys,fr)=>some (.clo f kk ys,fr)
  | none=>none
 | d=>aN h d
def bm (h:Nat->Option Row):List D->Option (List D×List Nat)
 | []=>some ([],[])
 | d::ds =>
  match bE h d with
  | some (d',fr) =>
   match bm h ds with
   | some (ds',fr')=>some (d'::ds',fr++fr')
   | none=>none
  | none=>none
def pM (r:Row):Row :=
 match r.fz with
 | true=>r
 | false=>{ r with fz:=true,lst:=true }
def gG (h:Nat->Option Row) (fr:List Nat):List (Nat×Option Row):=fr.map fun x=>(x,(h x).map pM)
structure bt where
 val:D
 hw:List (Nat×Option Row)
def aH (h:Nat->Option Row):List (Nat×Option Row)->Nat->Option Row
 | []=>h
 | (x,r)::l=>aH (bz h x r) l
def oX (b:Bool) (cs:List D):List D:=if b then cs.map canon else cs
def putCells (cells:List D) (o:Nat) (cs:List D):List D:=cells.take o++cs++cells.drop (o+cs.length)
def iB (τ:Ty) (cs:List D):Option D :=
 if τ.ds.nd then some (.agg cs) else match cs with | [d]=>some d|_=>none
def PF (b:Bool):List D->Option D
 | [.ali x v s o n]=>some (if b then .box1 x v s o n else .buf x v s o n)
 | _=>none
def df (τ:Ty) (h:Nat->Option Row):D->Option bt
 | .ptr x v o =>
  match live h x v with
  | some r=>if o+τ.size<=r.cells.length then (match iB τ ((r.cells.drop o).take τ.size) with|some d=>some ⟨d,[]⟩|none=>none) else none
  | none=>none
 | .ip xs=>if τ.size<=xs.length then (match iB τ (xs.take τ.size) with|some d=>some ⟨d,[]⟩|none=>none) else none
 | _=>none
def my (τ:Ty) (h:Nat->Option Row) (x v o:Nat):Option Row->Option bt
 | some r =>
  if r.fz && !r.lst then
   if o+τ.size<=r.cells.length then
    match PF τ.ds.nd ((r.cells.drop o).take τ.size) with
    | some d=>some ⟨d,[]⟩
    | none=>df τ h (.ptr x v o)
   else none
  else df τ h (.ptr x v o)
 | none=>none
def nL (τ:Ty) (h:Nat->Option Row) (x v y:Nat):Option (Row×Nat×Nat×Nat)->Option bt
 | some (_,y',s,n) =>
  match h y with
  | some r=>if y'=y∧y=PK+x∧r.mp=false∧r.lst=true∧r.cells.length=n*s∧τ.size=1 then some ⟨if τ.ds.nd then .agg [.sl false false n r.cells] else .sl false false n r.cells,gG h [y]⟩ else none
  | none=>none
 | none=>none
def lY (τ:Ty) (h:Nat->Option Row):D->Option bt
 | .ptr x v o=>my τ h x v o (live h x v)
 | .pm x v y =>
  match live h x v with
  | some r =>
   match r.cells with
   | [.alm y' v']=>if r.fz=true∧r.lst=false∧τ.size=1∧τ.ds.nd=false then some ⟨.mp y' v',[]⟩ else none
   | _=>none
  | none=>nL τ h x v y (kd h x v)
 | d=>df τ h d
def cB (τ:Ty) (h:Nat->Option Row):D->D->Option bt
 | .ptr x v o,d =>
  match live h x v with
  | some r =>
   match dY h d with
   | some (cs,fr)=>if cs.length=τ.size∧o+τ.size<=r.cells.length∧r.fz=false∧fr.contains x=false then some ⟨.und,gG h fr++[(x,some { r with cells:=putCells r.cells o (oX r.lst cs) })]⟩ else none
   | none=>none
  | none=>none
 | _,_=>none
def cJ (τ:Ty) (h:Nat->Option Row) (p d:D):Option bt :=
 match d with
 | .box1 y vy s oy n =>
  match p with
  | .ptr x v o =>
   match live h x v with
   | some r=>if τ.size=1∧o=0∧r.cells.length=1∧r.fz=false∧r.lst=false then some ⟨.und,[(x,some ⟨r.v,r.ty,[.ali y vy s oy n],true,false,false⟩)]⟩ else none
   | none=>none
  | .pm x v k =>
   match live h x v,live h y vy with
   | some r,some q=>if τ.size=1∧oy=0∧r.cells.length=1∧r.fz=false∧r.lst=false∧q.fz=false∧q.lst=true∧q.cells.length=n*s∧x≠y∧k=PK+x∧x<PK then
     some ⟨.und,[(y,none),(k,some ⟨0,q.ty,q.cells,false,true,false⟩),(x,some ⟨r.v,r.ty,[.ph k s n],false,false,true⟩)]⟩ else none
   | _,_=>none
  | _=>none
 | .mp y' v' =>
  match p with
  | .pm x v y =>
   match live h x v with
   | some r=>if τ.size=1∧y'=y∧r.cells.length=1∧r.fz=false∧r.lst=false∧(fV h y v').isSome then some ⟨.und,[(x,some ⟨r.v,r.ty,[.alm y' v'],true,false,false⟩)]⟩ else none
   | none=>none
  | _=>none
 | d=>cB τ h p d
def iw (h:Nat->Option Row):D->Option bt
 | .ptr x v o=>match ma h x v with|some _=>some ⟨.ptr x v o,[]⟩|none=>none
 | .ip xs=>some ⟨.ip xs,[]⟩
 | _=>none
def dC (T:Nat->Option Ty) (τ:Ty) (h:Nat->Option Row) (i:Nat):D->Option bt
 | .ptr x v o =>
  match ma h x v,τ.ds with
  | some _,.struct fs=>match fs[i]? with
   | some (ft,off)=>match T ft with|some φ=>if φ.size=0 then none else some ⟨.ptr x v (o+off),[]⟩|none=>none
   | none=>none
  | _,_=>none
 | .pm x v k =>
  match kd h x v,τ.ds with
  | some _,.struct fs=>match fs[i]? with
   | some (ft,0)=>match T ft with|some φ=>if φ.size=0 then none else some ⟨.pm x v k,[]⟩|none=>none
   | _=>none
  | _,_=>none
 | .ip xs =>
  match τ.ds with
  | .struct fs=>match fs[i]? with
   | some (ft,off)=>match T ft with|some φ=>if φ.size=0 then none else some ⟨.ip (xs.drop off),[]⟩|none=>none
   | none=>none
  | _=>none
 | _=>none
def HZ (φ:Ty) (xs:List D) (off:Nat):Option D :=
 if φ.ds.nd then (if off+φ.size<=xs.length then some (.agg ((xs.drop off).take φ.size)) else none) else xs[off]?
def kE (T:Nat->Option Ty) (τ:Ty) (i:Nat):D->Option bt
 | .agg xs =>
  match τ.ds with
  | .struct fs=>match fs[i]? with
   | some (ft,off)=>match T ft with|some φ=>(match HZ φ xs off with|some d=>some ⟨d,[]⟩|none=>none)|none=>none
   | none=>none
  | _=>none
 | _=>none
def bD (T:Nat->Option Ty) (τ:Ty) (h:Nat->Option Row):D->D->Option bt
 | .sl _ _ n xs,.int _ i =>
  match τ.ds with
  | .slice el=>match T el with|some φ=>if 0<=i∧i<n then some ⟨.ip (xs.drop (i.toNat*φ.size)),[]⟩ else none|none=>none
  | _=>none
 | .buf x v s o n,.int _ i =>
  match ma h x v,τ.ds with
  | some _,.slice el=>match T el with|some φ=>if φ.size=s∧0<=i∧i<n then some ⟨.ptr x v (o+i.toNat*s),[]⟩ else none|none=>none
  | _,_=>none
 | .ptr x v o,.int _ i =>
  match live h x v,τ.ds with
  | some _,.arr n el=>match T el with|some φ=>if 0<=i∧i<n then some ⟨.ptr x v (o+i.toNat*φ.size),[]⟩ else none|none=>none
  | _,_=>none
 | _,_=>none
def fB (T:Nat->Option Ty) (τ:Ty):D->D->Option bt
 | .str s,.int _ i =>
  match τ.ds with
  | .str=>if 0<=i then (match s[i.toNat]? with|some b=>some ⟨.int .u8 b.toNat,[]⟩|none=>none) else none
  | _=>none
 | .agg xs,.int _ i =>
  match τ.ds with
  | .arr n el=>match T el with|some φ=>if 0<=i∧i<n then (match HZ φ xs (i.toNat*φ.size) with|some d=>some ⟨d,[]⟩|none=>none) else none|none=>none
  | _=>none
 | _,_=>none
def mf:D->Option Nat
 | .int _ i=>if 0<=i then some i.toNat else none
 | _=>none
def sC (n:Nat) (lo hi:Option D):Option (Nat×Nat) :=
 match (match hi with|none=>some n|some d=>mf d),(match lo with|none=>some 0|some d=>mf d) with
 | some h,some l=>if l<=h∧h<=n then some (l,h) else none
 | _,_=>none
def cu (T:Nat->Option Ty) (τ:Ty) (h:Nat->Option Row) (x:D) (lo hi mx:Option D):Option bt :=
 match x with
 | .str s =>
  match τ.ds,mx,sC s.size lo hi with
  | .str,none,some (l,k)=>some ⟨.str (s.extract l k),[]⟩
  | _,_,_=>none
 | .sl nl tight n xs =>
  match τ.ds with
  | .slice el =>
   match T el,sC n lo hi with
   | some φ,some (l,k) =>
    match mx with
    | none=>some ⟨.sl (nl&&tight) (tight&&k==n) (k-l) ((xs.drop (l*φ.size)).take ((k-l)*φ.size)),[]⟩
    | some m=>match mf m,hi with
     | some m,some _=>if k<=m∧m<=n then some ⟨.sl false (m==k) (k-l) ((xs.drop (l*φ.size)).take ((k-l)*φ.size)),[]⟩ else none
     | _,_=>none
   | _,_=>none
  | _=>none
 | .buf y v s o n =>
  match live h y v,τ.ds,mx with
  | some _,.slice el,none =>
   match T el,sC n lo hi with
   | some φ,some (l,k)=>if φ.size=s∧0<s then some ⟨.buf y v s (o+l*s) (k-l),[]⟩ else none
   | _,_=>none
  | _,_,_=>none
 | _=>none
def gF (h:Nat->Option Row) (place:Nat->Option (Nat×Nat)) (cells:List D):List (Nat×D)->Option (List D×List Nat)
 | []=>some (cells,[])
 | (i,d)::rest =>
  match place i,dY h d with
  | some (off,size),some (cs,fr) =>
   if cs.length=size∧off+size<=cells.length then
    match gF h place (putCells cells off cs) rest with
    | some (out,fr')=>some (out,fr++fr')
    | none=>none
   else none
  | _,_=>none
def fieldAt (T:Nat->Option Ty) (fs:List (Nat×Nat)) (i:Nat):Option (Nat×Nat) :=
 match fs[i]? with
 | some (ft,off)=>match T ft with|some φ=>some (off,φ.size)|none=>none
 | none=>none
def ew (T:Nat->Option Ty) (τ:Ty) (h:Nat->Option Row) (parts:List (Nat×D)):Option bt :=
 match τ.ds with
 | .struct fs =>
  if (fs.all fun f=>(T f.1).isSome)&&(τ.zero.map kW).all aS then
   match gF h (fieldAt T fs) (τ.zero.map kW) parts with
   | some (cs,fr)=>some ⟨.agg cs,gG h fr⟩
   | none=>none
  else none
 | _=>none
def alive (h:Nat->Option Row):D->Bool
 | .ptr x v _=>(ma h x v).isSome
 | .buf x v _ _ _=>(ma h x v).isSome
 | _=>true
def cE:Option bt->Option bt
 | some ⟨.agg cs,hw⟩=>some ⟨.agg (cs.map canon),hw⟩
 | _=>none
def nH (q:Nat->Bool) (T:Nat->Option Ty) (τ:Ty) (h:Nat->Option Row) (dst:Option Nat) (parts:List (Nat×D)):Option bt :=
 match dst with
 | some d =>
  if q d then ew T τ h parts else
   match τ.ds,parts with
   | .struct fs,[(0,.buf x v s o n)]=>if (alive h (.buf x v s o n))∧(fs.all fun f=>(T f.1).isSome)∧fieldAt T fs 0=some (0,1)∧τ.zero.length=1 then some ⟨.box1 x v s o n,[]⟩ else none
   | .struct fs,[(0,.box1 x v s o n)]=>if (alive h (.buf x v s o n))∧(fs.all fun f=>(T f.1).isSome)∧fieldAt T fs 0=some (0,1)∧τ.zero.length=1 then some ⟨.box1 x v s o n,[]⟩ else none
   | _,_=>cE (ew T τ h parts)
 | none=>ew T τ h parts
def lA (n:Nat) (zs:List D):List D:=(List.replicate n zs).flatten
def dB (T:Nat->Option Ty) (τ:Ty) (h:Nat->Option Row) (e d len:Nat) (parts:List (Nat×D)):Option bt :=
 match τ.ds with
 | .slice el =>
  match T el with
  | some φ =>
   if len*φ.size<=16777216∧0<φ.size∧(φ.zero.map kW).all aS=true∧φ.zero.length=φ.size then
    match gF h (fun i=>some (i*φ.size,φ.size)) (lA len (φ.zero.map kW)) parts with
    | some (cs,fr)=>if fr.contains d=false then some ⟨.buf d e φ.size 0 len,gG h fr++[(d,some ⟨e,el,cs.map canon,false,true,false⟩)]⟩ else none
    | none=>none
   else none
  | none=>none
 | _=>none
def oG (T:Nat->Option Ty) (τ:Ty) (e d:Nat) (l c:D):Option bt :=
 match τ.ds with
 | .slice el =>
  match T el,mf l,mf c with
  | some φ,some l,some c =>
   if l<=c∧c<=maxLen∧c*φ.bytes<=140737488355328∧0<φ.size∧(φ.zero.map kW).all aS=true∧φ.zero.length=φ.size then
    some ⟨.buf d e φ.size 0 l,[(d,some ⟨e,el,lA l ((φ.zero.map kW).map canon),false,true,false⟩)]⟩
   else none
  | _,_,_=>none
 | _=>none
def gZ (T:Nat->Option Ty) (τ:Ty) (h:Nat->Option Row) (e d:Nat) (s x:D):Option bt :=
 match τ.ds with
 | .slice el =>
  match T el,content h x with
  | some φ,some (m,news) =>
   if 0<φ.size∧φ.zero.length=φ.size then
    match s with
    | .sl nl tight n xs =>
     if tight=true∧n+m<=maxLen∧(n+m)*φ.bytes<=140737488355328∧xs.length=n*φ.size∧news.length=m*φ.size then
      if m=0 then some ⟨.sl nl tight n xs,[]⟩ else some ⟨.buf d e φ.size 0 (n+m),[(d,some ⟨e,el,xs++news,false,true,false⟩)]⟩
     else none
    | .buf y v z o n =>
     match live h y v with
     | some r =>
      if z=φ.size∧r.ty=el∧r.fz=false∧o+n*φ.size<=r.cells.length∧n+m<=maxLen∧(n+m)*φ.bytes<=140737488355328∧news.length=m*φ.size then
       some ⟨.buf d e φ.size 0 (n+m),[(y,none),(d,some ⟨e,el,(r.cells.drop o).take (n*φ.size)++news,false,true,false⟩)]⟩
      else none
     | none=>none
    | _=>none
   else none
  | _,_=>none
 | _=>none
def U0:D->Option bV
 | .int .i64 n=>some (n,none)
 | .agg [.int .i64 a,.int .i64 b]=>some (a,some b)
 | _=>none
def nV (z:D):List bV->List D->bV->D
 | k::ks,v::vs,n=>if k=n then v else nV z ks vs n
 | _,_,_=>z
def wG (ks:List bV) (n:bV):List bV:=if ks.contains n then ks else ks++[n]
def Bh (ks:List bV) (vs:List D) (n:bV) (d:D):List D:=if ks.contains n then vs.set (ks.idxOf n) d else vs++[d]
def s7 (T:Nat->Option Ty) (κ:Ty):Option Bool :=
 match κ.ds with
 | .int .i64=>some false
 | .struct [(a,0),(b,1)]=>match T a,T b with
  | some α,some β=>match α.ds,β.ds with
   | .int .i64,.int .i64=>if κ.eqok then some true else none
   | _,_=>none
  | _,_=>none
 | _=>none
def DD (T:Nat->Option Ty) (τ:Ty):Option (Bool×Ty) :=
 match τ.ds with
 | .map k el=>match T k,T el with
  | some κ,some φ=>match s7 T κ with|some b=>some (b,φ)|none=>none
  | _,_=>none
 | _=>none
def ln (T:Nat->Option Ty) (ty:Nat) (τ:Ty) (e d:Nat):Option bt :=
 match DD T τ with
 | some _=>if 900000<=ty then none else some ⟨.mp d e,[(d,some ⟨e,ty,[.mpc [] []],false,true,true⟩)]⟩
 | none=>none
def mapOf (h:Nat->Option Row):D->Option (List bV×List D)
 | .mp x v=>fV h x v
 | .mpc ks vs=>some (ks,vs)
 | _=>none
def kJ (b:Bool) (n:bV) (ks:List bV):Bool:=FM n==b&&ks.all fun k=>FM k==b
def fu (T:Nat->Option Ty) (τ:Ty) (h:Nat->Option Row) (m i:D) (ok:Bool):Option bt :=
 match DD T τ,mapOf h m,U0 i with
 | some (b,φ),some (ks,vs),some n =>
  match iB φ (φ.zero.map kW) with
  | some z=>if kJ b n ks=true∧(φ.zero.map kW).all aS=true then some ⟨if ok then .tup [nV (eX z) ks vs n,.bool (ks.contains n)] else nV (eX z) ks vs n,[]⟩ else none
  | none=>none
 | _,_,_=>none
def si (h:Nat->Option Row):D->Option (D×List Nat)
 | .agg xs=>some (.agg (xs.map canon),[])
 | d =>
  match cY h d with
  | some (d',fr)=>some (canon d',fr)
  | none=>none
def cg (T:Nat->Option Ty) (τ:Ty) (h:Nat->Option Row) (m i x:D):Option bt :=
 match DD T τ,m,U0 i,si h x with
 | some (b,_),.mp y v,some n,some (d,fr) =>
  match h y with
  | some r =>
   match fV h y v with
   | some (ks,vs)=>if kJ b n ks=true∧r.fz=false∧fr.contains y=false then some ⟨.und,gG h fr++[(y,some ⟨r.v,r.ty,[.mpc (wG ks n) (Bh ks vs n d)],false,true,true⟩)]⟩ else none
   | none=>none
  | none=>none
 | _,_,_,_=>none
def Px:D->D->Option Bool
 | .int k a,.int k' b=>if k=k' then some (a==b) else none
 | .bool a,.bool b=>some (a==b)
 | .str a,.str b=>some (a==b)
 | _,_=>none
def SM:List D->List D->Option Bool
 | [],[]=>some true
 | x::xs,y::ys=>match Px x y,SM xs ys with|some a,some b=>some (a&&b)|_,_=>none
 | _,_=>none
def jA:Ds->Bool
 | .int _ | .bool | .str=>true
 | _=>false
def kindOk:Ds->D->Bool
 | .int _,.int _ _=>true
 | .bool,.bool _=>true
 | .str,.str _=>true
 | _,_=>false
def eA (T:Nat->Option Ty):Nat->List (Nat×Nat)->List D->Bool
 | _,[],[]=>true
 | o,(ft,off)::fs,x::xs=>off==o&&(match T ft with|some φ=>kindOk φ.ds x|none=>false)&&eA T (o+1) fs xs
 | _,_,_=>false
def aay (nl tight:Bool) (n:Nat):Option Bool:=if 0<n then some false else if nl then some tight else none
def V6 (T:Nat->Option Ty) (τ:Ty):D->D->Option Bool
 | .bool a,.bool b=>match τ.ds with | .bool=>some (a==b)|_=>none
 | .sl nl tight n _,.sl true true 0 []=>match τ.ds with | .slice _=>aay nl tight n|_=>none
 | .agg xs,.agg ys =>
  match τ.ds with
  | .struct fs=>if τ.eqok&&eA T 0 fs xs then SM xs ys else none
  | _=>none
 | _,_=>none
def BX (op:BinOp) (k:IntKind) (x y:Int):Int :=
 let a:=BitVec.ofInt k.bits x
 let b:=BitVec.ofInt k.bits y
 match op with
 | .and=>k.wrap (a &&& b).toNat
 | .or=>k.wrap (a ||| b).toNat
 | .xor=>k.wrap (a ^^^ b).toNat
 | _=>k.wrap (a &&& ~~~b).toNat
def fl (op:BinOp) (k:IntKind) (x y:Int):Option D :=
 match op with
 | .add=>some (.int k (k.wrap (x+y)))
 | .sub=>some (.int k (k.wrap (x-y)))
 | .mul=>some (.int k (k.wrap (x*y)))
 | .quo=>if y=0 then none else some (.int k (k.wrap (x.tdiv y)))
 | .rem=>if y=0 then none else some (.int k (x.tmod y))
 | .and=>some (.int k (BX .and k x y))
 | .or=>some (.int k (BX .or k x y))
 | .xor=>some (.int k (BX .xor k x y))
 | .andNot=>some (.int k (BX .andNot k x y))
 | .eql=>some (.bool (x==y))
 | .neq=>some (.bool (x != y))
 | .lss=>some (.bool (x<y))
 | .leq=>some (.bool (x<=y))
 | .gtr=>some (.bool (x>y))
 | .geq=>some (.bool (x>=y))
 | _=>none
def mn (op:BinOp) (x y:ByteArray):Option D :=
 match op with
 | .add=>if ((x.size+y.size:Nat):Int)>IntKind.i64.max then none else some (.str (x++y))
 | .eql=>some (.bool (x.toList==y.toList))
 | .neq=>some (.bool !(x.toList==y.toList))
 | .lss=>some (.bool (Op.bytesLess x.toList y.toList))
 | .leq=>some (.bool (Op.bytesLess x.toList y.toList||x.toList==y.toList))
 | .gtr=>some (.bool !(Op.bytesLess x.toList y.toList||x.toList==y.toList))
 | .geq=>some (.bool !Op.bytesLess x.toList y.toList)
 | _=>none
def rK (op:BinOp) (k:IntKind) (x y:Int):Option D :=
 if y<0 then none else
 match op with
 | .shl=>some (.int k (k.wrap (x*2 ^ (min y.toNat k.bits))))
 | .shr=>some (.int k (x.fdiv (2 ^ (min y.toNat k.bits))))
 | _=>none
def jI:BinOp->Bool
 | .shl | .shr=>true
 | _=>false
def yR (T:Nat->Option Ty) (ty:Nat) (op:BinOp) (a b:D):Option D :=
 match a,b with
 | .int k x,.int k' y=>if jI op then rK op k x y else if k=k' then fl op k x y else none
 | .str x,.str y=>mn op x y
 | a,b =>
  match T ty with
  | some τ =>
   match op with
   | .eql=>match V6 T τ a b with|some c=>some (.bool c)|none=>none
   | .neq=>match V6 T τ a b with|some c=>some (.bool !c)|none=>none
   | _=>none
  | none=>none
def FN (op:UnOp):D->Option D
 | .int k n=>match op with
  | .neg=>some (.int k (k.wrap (0-n)))
  | .xor=>some (.int k (BX .xor k (if k.signed then -1 else k.max) n))
  | _=>none
 | .bool b=>match op with | .not=>some (.bool !b)|_=>none
 | _=>none
mutual
def fI:D->Bool
 | .int _ _ | .bool _ | .str _=>true
 | .agg xs | .tup xs=>nQ xs
 | _=>false
def nQ:List D->Bool
 | []=>true
 | x::xs=>fI x&&nQ xs
end
def xE:D->Option Nat
 | .str s=>some s.size
 | .sl _ _ n _=>some n
 | .buf _ _ _ _ n=>some n
 | _=>none
def wB (f:Int->Int->Int) (k:IntKind):Int->List D->Option Int
 | x,[]=>some x
 | x,.int k' y::r=>if k=k' then wB f k (f x y) r else none
 | _,_=>none
def b6 (T:Nat->Option Ty) (h:Nat->Option Row) (e:Nat) (dst:Option Nat) (b:Builtin) (tys:List Nat) (args:List D):Option bt :=
 match b,tys,args with
 | .len,t::_,[x] =>
  if alive h x then
   match T t,xE x with
   | some τ,some n=>match τ.ds,x with
    | .str,.str _=>some ⟨.int .i64 n,[]⟩
    | .slice _,.sl _ _ _ _=>some ⟨.int .i64 n,[]⟩
    | .slice _,.buf _ _ _ _ _=>some ⟨.int .i64 n,[]⟩
    | _,_=>none
   | some τ,none=>match τ.ds,mapOf h x with
    | .map _ _,some (ks,_)=>some ⟨.int .i64 (ks.length:Nat),[]⟩
    | _,_=>none
   | _,_=>none
  else none
 | .append,[t,t'],[s,x] =>
  if t=t' then
   match T t,dst with
   | some τ,some d=>gZ T τ h e d s x
   | _,_=>none
  else none
 | .max,_,.int k x::r=>match wB (fun x y=>if y>x then y else x) k x r with|some z=>some ⟨.int k z,[]⟩|none=>none
 | .min,_,.int k x::r=>match wB (fun x y=>if y<x then y else x) k x r with|some z=>some ⟨.int k z,[]⟩|none=>none
 | _,_,_=>none
def im:D->Bool
 | .buf _ _ _ _ _ | .clo _ _ _ | .und | .skp | .box1 _ _ _ _ _=>false
 | _=>true
inductive RK where
 | clean (d:D)
 | same (s o n:Nat)
 | fresh (ty s n:Nat) (cells:List D)
structure Grow where
 ty:Nat
 k:Nat
 bytes:Nat
 sem:List D->List D->Option (List D)
def DH (ty nv:Nat) (fz:Bool):Option D->Option Row
 | some (.nx n xs)=>some ⟨nv,ty,xs,fz,true,false⟩
 | _=>none
def HG (fz:Bool) (o:Nat):List D->Option Row
 | [.nr ty s nv cs]=>DH ty nv fz (cs.drop o).head?
 | _=>none
def oV (r:Row) (o:Nat):Option Row:=if r.mp then HG r.fz o r.cells else none
def er:D->Bool
 | .int _ _ | .bool _ | .str _ | .sl _ _ _ _=>true
 | _=>false
def ow (y s o:Nat):D->D
 | .nx n _ =>.ph (NK y o) s n
 | d=>if er d then d else .und
theorem iI {y s o:Nat} {d:D} (h:er d=true):ow y s o d=d:=by
 cases d<;>first|rfl|cases h
theorem oh {y s o x s' n:Nat} {d:D} (h:ow y s o d=.ph x s' n):∃xs,d=.nx n xs∧x=NK y o∧s'=s:=by
 cases d<;>simp[ow,er]at h
 obtain⟨rfl,rfl,rfl⟩:=h
 exact⟨_,rfl,rfl,rfl⟩
theorem jK (y s o:Nat) (d:D):phC (ow y s o d)=true:=by
 cases d<;>rfl
def skL (y:Nat):List D->List D
 | [.nr ty s nv cs]=>cs.mapIdx (ow y s)
 | cs=>cs
def Bl (y:Nat) (r:Row):Row:=if r.mp then { r with cells:=skL y r.cells } else r
def ltB (a b:Nat):Decidable (a<b):=@Eq.rec Prop (¬b<=a) (fun p _=>Decidable p) instDecidableNot (a<b) (propext Nat.not_le)
def EH (h:Nat->Option Row) (k:Nat):Option Row:=@ite _ (k<2*PK) (ltB k (2*PK)) ((h k).map (Bl k)) ((h (k % PK)).bind fun r=>oV r (k / PK-2))
def rt (k:Nat):Nat:=if k<2*PK then k else k % PK
structure aeC where
 lnd:Nat->Option (Nat×(Nat->Nat->Nat->Nat->List D->List D->Option (D×List D))):=fun _=>none
 res:Nat->Option (List D->Option (Nat×Nat×Nat×Nat×Nat×List D)):=fun _=>none
structure Env where
 lends:Nat->Bool
 sem:Nat->Option (D×Row)->List D->Option (RK×Option Row)
 own:Nat->Bool
 hint:Nat->Option Nat:=fun _=>none
 ins:Nat->Option (Nat×Nat×Nat):=fun _=>none
 grw:Nat->Option Grow:=fun _=>none
 nst:Nat->Option (Nat×Nat×Nat):=fun _=>none
 nx:aeC:={}
def sD (Γ:Env) (h:Nat->Option Row) (e:Nat) (dst:Option Nat) (g:Nat) (args:List D):Option bt :=
 match bm h args with
 | some (afq,fr) =>
  match Γ.sem g none afq with
  | some (.clean r,_)=>some ⟨r,if fI r then [] else gG h fr⟩
  | some (.fresh ty s n cells,_) =>
   match dst with
   | some d=>if fr.contains d=false then some ⟨.buf d e s 0 n,(if nQ cells then [] else gG h fr)++[(d,some ⟨e,ty,cells,false,true,false⟩)]⟩ else none
   | none=>none
  | _=>none
 | none=>none
def nF (Γ:Env) (h:Nat->Option Row) (e:Nat) (dst:Option Nat) (g x v:Nat) (d0:D) (rest:List D):Option bt :=
 match xF d0 h x v with
 | some r =>
  if r.fz=false then
   match bm h rest with
   | some (afq,fr) =>
    if fr.contains x=false then
     match Γ.sem g (some (d0,{ r with v:=0 })) afq with
     | some (.clean c,some r1)=>some ⟨c,gG h fr++[(x,some { r1 with v:=v })]⟩
     | some (.same s o n,some r1)=>some ⟨.buf x v s o n,gG h fr++[(x,some { r1 with v:=v })]⟩
     | some (.fresh ty s n cells,none) =>
      match dst with
      | some d=>if fr.contains d=false then some ⟨.buf d e s 0 n,gG h fr++[(x,none),(d,some ⟨e,ty,cells,false,true,false⟩)]⟩ else none
      | none=>none
     | _=>none
    else none
   | none=>none
  else none
 | none=>none
def rO (h:Nat->Option Row) (p:Grow) (args:List D):Option bt :=
 match args with
 | .pm y v k::rest =>
  match kd h y v,h k with
  | some (ry,k',s,n),some r =>
   if k'=k∧k=PK+y∧y<PK∧ry.fz=false∧r.mp=false∧r.fz=false∧r.lst=true∧s=p.k∧r.ty=p.ty∧r.cells.length=n*p.k∧(n+1)*p.bytes<=140737488355328 then
    match p.sem r.cells rest with
    | some cs=>some ⟨.int .i64 (n:Int),[(k,some ⟨r.v,p.ty,r.cells++cs,false,true,false⟩),(y,some ⟨ry.v,ry.ty,[.ph k p.k (n+1)],false,false,true⟩)]⟩
    | none=>none
   else none
  | _,_=>none
 | _=>none
def rP (h:Nat->Option Row) (e:Nat) (dst:Option Nat) (p:Nat×Nat×Nat) (args:List D):Option bt :=
 match args with
 | [.buf x v s o n,.int .i64 i,.buf y v' s' o' m] =>
  match live h x v,live h y v',dst with
  | some r,some r',some d =>
   if r.fz=false∧r'.fz=false∧r.lst=true∧r'.lst=true∧x≠y∧s=p.2.1∧s'=p.2.1∧r.ty=p.1∧r'.ty=p.1∧o=0∧o'=0∧r.cells.length=n*p.2.1∧r'.cells.length=m*p.2.1∧0<=i∧i<=n∧0<m∧(n+m)*p.2.2<=140737488355328 then
    some ⟨.buf d e p.2.1 0 (n+m),[(y,none),(x,none),(d,some ⟨e,p.1,r.cells.take (i.toNat*p.2.1)++(r'.cells++r.cells.drop (i.toNat*p.2.1)),false,true,false⟩)]⟩
   else none
  | _,_,_=>none
 | _=>none
def gn (Γ:Env) (h:Nat->Option Row) (e:Nat) (dst:Option Nat) (f:D) (args:List D):Option bt :=
 match f with
 | .fn g =>
  match Γ.ins g with
  | some p=>rP h e dst p args
  | none =>
  match Γ.grw g with
  | some p=>rO h p args
  | none =>
  if Γ.lends g then
   match args with
   | .buf x v s o n::rest=>nF Γ h e dst g x v (.buf 0 0 s o n) rest
   | .ptr x v o::rest=>nF Γ h e dst g x v (.ptr 0 0 o) rest
   | .mp x v::rest=>nF Γ h e dst g x v (.mp 0 0) rest
   | _=>none
  else sD Γ h e dst g args
 | .clo g kk caps=>if caps.all im then sD Γ h e dst g (caps.take kk++(args++caps.drop kk)) else none
 | _=>none
def bF (T:Nat->Option Ty) (ty e:Nat) (dst:Option Nat) (h:Nat->Option Row) (x:D):Option bt :=
 match x with
 | .buf y v s o n =>
  match dst,live h y v with
  | some d,some r=>if r.fz then some ⟨.buf y v s o n,[]⟩ else some ⟨.buf d e s o n,[(y,none),(d,some { r with v:=e })]⟩
  | _,_=>if (ma h y v).isSome then some ⟨.buf y v s o n,[]⟩ else some ⟨.und,[]⟩
 | .sl true true 0 [] =>
  match dst,T ty with
  | some d,some τ =>
   match τ.ds with
   | .slice el=>match T el with|some φ=>some ⟨.buf d e φ.size 0 0,[(d,some ⟨e,el,[],false,true,false⟩)]⟩|none=>none
   | _=>none
  | _,_=>none
 | x=>some ⟨x,[]⟩
def nG (h:Nat->Option Row):D->Option (D×List Nat)
 | .agg xs=>some (.agg xs,[])
 | d=>cY h d
def gu (h:Nat->Option Row) (x:D):Option bt :=
 match nG h x with
 | some (d',fr)=>some ⟨eX d',gG h fr⟩
 | none=>none
def pt (T:Nat->Option Ty) (q:Nat->Bool) (ty e:Nat) (dst:Option Nat) (h:Nat->Option Row) (x:D):Option bt :=
 match dst with
 | some d=>if q d then bF T ty e (some d) h x else gu h x
 | none=>bF T ty e none h x
def kZ (T:Nat->Option Ty) (Γ:Env) (e:Nat) (o:Oper) (vs:Operand->D) (h:Nat->Option Row):Option bt :=
 match o.op with
 | .move x=>some ⟨vs x,[]⟩
 | .assign x=>pt T Γ.own o.type e o.dst h (vs x)
 | .pick c a b=>match vs c with | .bool true=>some ⟨vs a,[]⟩ | .bool false=>some ⟨vs b,[]⟩|_=>none
 | .alloc ty=>match T ty,o.dst with
  | some τ,some d=>if (τ.zero.map kW).all aS then some ⟨match Γ.hint d with|some y =>.pm d e y|none =>.ptr d e 0,[(d,some ⟨e,ty,τ.zero.map kW,false,false,false⟩)]⟩ else none
  | _,_=>none
 | .box ty x=>match o.dst,dY h (vs x) with
  | some d,some (cs,fr)=>if fr.contains d=false then some ⟨.ptr d e 0,gG h fr++[(d,some ⟨e,ty,cs,false,false,false⟩)]⟩ else none
  | _,_=>none
 | .load ty p=>match T ty with|some τ=>lY τ h (vs p)|none=>none
 | .store ty p x=>match T ty with|some τ=>cJ τ h (vs p) (vs x)|none=>none
 | .nilCheck x=>iw h (vs x)
 | .fieldAddr ty x i=>match T ty with|some τ=>dC T τ h i (vs x)|none=>none
 | .field ty x i=>match T ty with|some τ=>kE T τ i (vs x)|none=>none
 | .indexAddr ty x i=>match T ty with|some τ=>bD T τ h (vs x) (vs i)|none=>none
 | .index ty x i=>match T ty with|some τ=>fB T τ (vs x) (vs i)|none=>none
 | .slice ty x lo hi mx=>match T ty with|some τ=>cu T τ h (vs x) (lo.map vs) (hi.map vs) (mx.map vs)|none=>none
 | .build ty parts=>match T ty with|some τ=>nH Γ.own T τ h o.dst (parts.toList.map fun p=>(p.1,vs p.2))|none=>none
 | .buildSlice ty len parts=>match T ty,o.dst with|some τ,some d=>dB T τ h e d len (parts.toList.map fun p=>(p.1,vs p.2))|_,_=>none
 | .makeSlice ty l c=>match T ty,o.dst with|some τ,some d=>oG T τ e d (vs l) (vs c)|_,_=>none
 | .binOp op ty x y _=>match yR T ty op (vs x) (vs y) with|some d=>some ⟨d,[]⟩|none=>none
 | .unOp op _ x=>match FN op (vs x) with|some d=>some ⟨d,[]⟩|none=>none
 | .convert src dst x=>match T dst,T src,vs x with
  | some τ,some _,.int _ n=>(match τ.ds with | .int k=>some ⟨.int k (k.wrap n),[]⟩|_=>none)
  | _,_,_=>none
 | .makeFunc fn first caps=>match fn with | .func f=>if (first.toList.map vs++caps.toList.map vs).all im then some ⟨.clo f first.size (first.toList.map vs++caps.toList.map vs),[]⟩ else none|_=>none
 | .makeMap ty none=>match T ty,o.dst with|some τ,some d=>ln T ty τ e d|_,_=>none
 | .lookup ty m i ok=>match T ty with|some τ=>fu T τ h (vs m) (vs i) ok|none=>none
 | .insert ty m i x=>match T ty with|some τ=>cg T τ h (vs m) (vs i) (vs x)|none=>none
 | .mapUpdate ty m i x=>match T ty with|some τ=>cg T τ h (vs m) (vs i) (vs x)|none=>none
 | .extract t i=>match vs t with | .tup xs=>(match xs[i]? with|some d=>some ⟨d,[]⟩|none=>none)|_=>none
 | .call c=>match c.callee with
  | .value f=>gn Γ h e o.dst (vs f) (c.args.toList.map vs)
  | .builtin b=>b6 T h e o.dst b c.argTypes.toList (c.args.toList.map vs)
  | _=>none
 | _=>none
def fG (o:Oper) (vs:Operand->D):List Nat :=
 match o.op with
 | .move _ | .pick _ _ _=>[]
 | .makeFunc _ _ _=>[]
 | op=>(op.operands.toList.flatMap fun x=>nm (vs x))++o.dst.toList
theorem aq {α:Type} (f:Nat->α) (i:Nat) (v:α):bz f i v i=v:=by simp[bz]
theorem au {α:Type} (f:Nat->α) {i j:Nat} (v:α) (h:j≠i):bz f i v j=f j:=by simp[bz,h]
theorem ZN {α:Type} (f:Nat->α) {i j:Nat} (v u:α) (h:i≠j):bz (bz f i v) j u=bz (bz f j u) i v:=by
 funext k
 unfold bz
 split<;>split<;>simp_all
theorem RP.oW {w:World} {M:Nat->Prop} {d:D} {u:Value} (h:RP w M d u) (hp:aS d=true):u.oneCell'=true:=by
 cases h<;>simp_all [aS,Value.oneCell']
theorem RP.cells {w:World} {M:Nat->Prop} {d:D} {u:Value} (h:RP w M d u) (hp:aS d=true):u.cells = #[u]:=by
 cases h with
 | ali x v s o n u h1=>cases u<;>simp_all [Value.oneCell',Value.cells]
 | alm x v u h1=>cases u<;>simp_all [Value.oneCell',Value.cells]
 | _=>simp_all [aS,Value.cells]
theorem bo {w:World} {M:Nat->Prop} {h:Nat->Option Row} {blk:Nat->Option (Nat×Nat)} {V:Nat->Nat->Prop} {d:D} {u:Value} (hr:RP w M d u):RT w M h blk V d u:=by
 cases hr with
 | int k n=>exact .int k n
 | bool b=>exact .bool b
 | str s=>exact .str s
 | sl A c nl tight n xs us h1 h2 h3 h4 h5 h6 h7 h8=>exact .sl A c nl tight n xs us h1 h2 h3 h4 h5 h6 h7 h8
 | ip xs ad us h6 h7 h8=>exact .ip xs ad us h6 h7 h8
 | agg xs us h1 h2 h3=>exact .agg xs us h1 h2 h3
 | tup xs us h1 h2=>exact .tup xs us h1 h2
 | fn f=>exact .fn f
 | ali x v s o n u h1=>exact .ali x v s o n u h1
 | mpc ks vs mb us h1 h2 h3 h4=>exact .mpc ks vs mb us h1 h2 h3 h4
 | alm x v u h1=>exact .alm x v u h1
 | clo f kk xs us h1 h2 =>
  refine⟨us,rfl,h1,fun j x hj =>?_⟩
  have:=h2 j x hj
  cases x with
  | ptr x v o=>cases this
  | mp x v=>cases this
  | pm x v y=>cases this
  | _=>exact this
theorem Wg (w:World) (M:Nat->Prop) (h:Nat->Option Row) (blk:Nat->Option (Nat×Nat)) (V:Nat->Nat->Prop) (v:Value):RT w M h blk V (kW v) v:=by
 unfold kW
 split
 ·exact .int _ _
 ·exact .bool _
 ·exact .str _
 ·exact .sl none 0 true true 0 [] (fun _=>undef) (afv _) (afw _) (fun _=>⟨fun _=>⟨rfl,rfl⟩,fun h=>by cases h⟩) (fun _=>⟨rfl,rfl⟩) (fun _=>rfl) (fun h=>absurd rfl h) (fun j x hx=>by simp at hx) (fun x hx=>by simp at hx)
 ·exact .mpc [] [] none (fun _=>undef) rfl (fun _=>rfl) (fun b hb=>by cases hb) (fun j x hj=>by simp at hj)
 ·trivial
structure FT (w w':World) (M M':Nat->Prop) (h h':Nat->Option Row) (blk blk':Nat->Option (Nat×Nat)) (V V':Nat->Nat->Prop):Prop where
 hk:∀b,b<w.heap.size->¬M b->b<w'.heap.size∧¬M' b∧w'.heap[b]? = w.heap[b]?
 hV:∀x v,V x v->V' x v
 hrow:∀x v,V x v->∀r',h' x=some r'->r'.v=v->(∃r,h x=some r∧r.v=v)∧blk' x=blk x∧∀g,blk x=some g->w'.shape? g.1=w.shape? g.1
theorem RC.mono {w w':World} {M M':Nat->Prop} {h h':Nat->Option Row} {blk blk':Nat->Option (Nat×Nat)} {V V':Nat->Nat->Prop} (k:FT w w' M M' h h' blk blk' V V') {d:D} {u:Value}
  (hr:RC w M h blk V d u):RC w' M' h' blk' V' d u:=by
 cases d with
 | ptr x v o =>
  refine⟨k.hV _ _ hr.1,fun r' h1 h2 =>?_⟩
  obtain⟨⟨r,h3,h4⟩,h5,_⟩:=k.hrow x v hr.1 r' h1 h2
  rw[h5]
  exact hr.2 r h3 h4
 | mp x v =>
  refine⟨k.hV _ _ hr.1,fun r' h1 h2 =>?_⟩
  obtain⟨⟨r,h3,h4⟩,h5,_⟩:=k.hrow x v hr.1 r' h1 h2
  rw[h5]
  exact hr.2 r h3 h4
 | pm x v y =>
  refine⟨k.hV _ _ hr.1,fun r' h1 h2 =>?_⟩
  obtain⟨⟨r,h3,h4⟩,h5,_⟩:=k.hrow x v hr.1 r' h1 h2
  rw[h5]
  exact hr.2 r h3 h4
 | _=>exact RP.keep k.hk hr
theorem RT.mono {w w':World} {M M':Nat->Prop} {h h':Nat->Option Row} {blk blk':Nat->Option (Nat×Nat)} {V V':Nat->Nat->Prop} (k:FT w w' M M' h h' blk blk' V V') {d:D} {u:Value}
  (hr:RT w M h blk V d u):RT w' M' h' blk' V' d u:=by
 cases d with
 | ptr x v o=>exact RC.mono (d := .ptr x v o) k hr
 | mp x v=>exact RC.mono (d := .mp x v) k hr
 | pm x v y=>exact RC.mono (d := .pm x v y) k hr
 | buf x v s o n =>
  refine⟨k.hV _ _ hr.1,fun r' h1 h2 =>?_⟩
  obtain⟨⟨r,h3,h4⟩,h5,h6⟩:=k.hrow x v hr.1 r' h1 h2
  rw[h5]
  rcases hr.2 r h3 h4 with⟨g,o',c,N,t,g0,g1,g2,g3,g4,g5⟩|hv
  ·exact .inl ⟨g,o',c,N,t,g0,g1,g2,g3,g4,(h6 g g0).trans g5⟩
  ·exact .inr hv
 | clo f kk xs =>
  obtain⟨us,h1,h2,h3⟩:=hr
  exact⟨us,h1,h2,fun j x hj=>(h3 j x hj).mono k⟩
 | box1 x v s o n =>
  obtain⟨u',hu,ho,hr⟩:=hr
  refine⟨u',hu,ho,k.hV _ _ hr.1,fun r' h1 h2 =>?_⟩
  obtain⟨⟨r,h3,h4⟩,h5,h6⟩:=k.hrow x v hr.1 r' h1 h2
  rw[h5]
  rcases hr.2 r h3 h4 with⟨g,o',c,N,t,g0,g1,g2,g3,g4,g5⟩|hv
  ·exact .inl ⟨g,o',c,N,t,g0,g1,g2,g3,g4,(h6 g g0).trans g5⟩
  ·exact .inr hv
 | und=>trivial
 | skp=>exact hr
 | _=>exact RP.keep k.hk hr
theorem b8 {w w':World} {b:Nat} (h:w'.heap[b]? = w.heap[b]?):w'.shape? b=w.shape? b:=by simp[World.shape?,h]
theorem dJ.refl (L:Nat->Prop) (w:World):dJ L w w:=⟨rfl,rfl,rfl,afv _,fun _ _ _=>rfl⟩
theorem dJ.trans {L L':Nat->Prop} {a b c:World} (h:dJ L a b) (k:dJ L' b c) (hl:∀x,L' x->x<a.heap.size->L x):dJ L a c :=
 ⟨k.os.trans h.os,k.tape.trans h.tape,k.output.trans h.output,afx h.size k.size,fun i hi hn=>(k.block i (afy hi h.size) (fun hx=>hn (hl i hx hi))).trans (h.block i hi hn)⟩
theorem dJ.xS {L:Nat->Prop} {w w':World} (h:Below w.heap.size w w'):dJ L w w':=⟨h.os,h.tape,h.output,h.size,fun k hk _=>h.block k hk⟩
theorem dJ.below {L:Nat->Prop} {w w':World} (h:dJ L w w') (hl:∀b,¬L b):Below w.heap.size w w':=⟨h.os,h.tape,h.output,h.size,fun k hk=>h.block k hk (hl k)⟩
theorem Wc.keep {w w':World} {M M':Nat->Prop} {g:Nat×Nat} {r:Row} (h:Wc w M g r) (hb:w'.heap[g.1]? = w.heap[g.1]?) (hk:∀b,b<w.heap.size->¬M b->b<w'.heap.size∧¬M' b∧w'.heap[b]? = w.heap[b]?):Wc w' M' g r:=by
 obtain⟨cs,h1,h2,h3⟩:=h
 exact⟨cs,hb.trans h1,h2,fun j d hj=>⟨(h3 j d hj).1,(h3 j d hj).2.keep hk⟩⟩
theorem wW.keep {w w':World} {M M':Nat->Prop} {g:Nat×Nat} {r r':Row} (h:wW w M g r) (hc:r'.cells=r.cells) (ht:r'.ty=r.ty) (hb:w'.heap[g.1]? = w.heap[g.1]?) (hk:∀b,b<w.heap.size->¬M b->b<w'.heap.size∧¬M' b∧w'.heap[b]? = w.heap[b]?):wW w' M' g r':=by
 obtain⟨ks,vs,h1,h2,hA,hB⟩:=h
 refine⟨ks,vs,hc.trans h1,h2,fun q =>?_,fun q =>?_⟩
 ·obtain⟨ents,clock,h3,h4,hst,us,h5,h6⟩:=hA (ht ▸ q)
  exact⟨ents,clock,hb.trans h3,h4,hst,us,h5,fun j x hj=>(h6 j x hj).keep hk⟩
 ·rw[ht]
  obtain⟨hg2,b,ents,clock,seen,c,l,us,h3,h4,h5,h6,hst,k1,k2,k3,k4,k5,k6,k7,k8⟩:=hB (ht ▸ q)
  obtain⟨p1,p2,p3⟩:=hk b h4 h5
  exact⟨hg2,b,ents,clock,seen,c,l,us,hb.trans h3,p1,p2,p3.trans h6,hst,k1,k2,k3,k4,k5,k6,k7,fun j x hj=>(k8 j x hj).keep hk⟩
theorem BM.keep {w w':World} {M M':Nat->Prop} {d:D} {u:Value} (h:BM w M d u) (hk:∀b,b<w.heap.size->¬M b->b<w'.heap.size∧¬M' b∧w'.heap[b]? = w.heap[b]?):BM w' M' d u:=by
 cases d with
 | ph _ _ _=>trivial
 | und=>trivial
 | _=>exact RP.keep hk h
theorem BN.keep {w w':World} {M M':Nat->Prop} {g:Nat×Nat} {r r':Row} (h:BN w M g r) (hc:r'.cells=r.cells) (ht:r'.ty=r.ty) (hb:w'.heap[g.1]? = w.heap[g.1]?) (hk:∀b,b<w.heap.size->¬M b->b<w'.heap.size∧¬M' b∧w'.heap[b]? = w.heap[b]?):BN w' M' g r':=by
 obtain⟨h1,cs,h2,h3,h4⟩:=h
 exact⟨by rw[hc];exact h1,cs,by rw[ht];exact hb.trans h2,by rw[hc];exact h3,fun j d hj=>(h4 j d (by rw[<- hc];exact hj)).keep hk⟩
theorem du.keep {w w':World} {M M':Nat->Prop} {g:Nat×Nat} {r r':Row} (h:du w M g r) (hc:r'.cells=r.cells) (ht:r'.ty=r.ty) (hm:r'.mp=r.mp) (hb:w'.heap[g.1]? = w.heap[g.1]?) (hk:∀b,b<w.heap.size->¬M b->b<w'.heap.size∧¬M' b∧w'.heap[b]? = w.heap[b]?):du w' M' g r':=by
 unfold du at h ⊢
 rw[hm]
 cases hmp:r.mp with
 | true =>
  rw[hmp]at h
  rcases h with h|h
  ·exact .inl (wW.keep h hc ht hb hk)
  ·exact .inr (BN.keep h hc ht hb hk)
 | false =>
  rw[hmp]at h
  obtain⟨cs,h1,h2,h3⟩:=h
  refine⟨cs,by rw[ht];exact hb.trans h1,by rw[hc];exact h2,fun j d hj =>?_⟩
  rw[hc]at hj
  exact⟨(h3 j d hj).1,(h3 j d hj).2.keep hk⟩
theorem du.heap {w:World} {M:Nat->Prop} {g:Nat×Nat} {r:Row} (h:du w M g r):g.1<w.heap.size:=by
 unfold du at h
 cases hmp:r.mp with
 | true =>
  rw[hmp]at h
  rcases h with⟨ks,vs,_,_,hA,hB⟩|⟨_,cs,h3,_⟩
  ·by_cases q:r.ty<900000
   ·obtain⟨ents,clock,h3,_⟩:=hA q
    exact (afz.1 h3).1
   ·obtain⟨_,b,ents,clock,seen,c,l,us,h3,_⟩:=hB (by omega)
    exact (afz.1 h3).1
  ·exact (afz.1 h3).1
 | false=>rw[hmp]at h;obtain⟨cs,h3,_⟩:=h;exact (afz.1 h3).1
theorem PhR.mono {w w':World} {h h':Nat->Option Row} {blk blk':Nat->Option (Nat×Nat)} {x s n:Nat} {u:Value} (k:PhR w h blk x s n u) (hr:∀r',h' x=some r'->(∃r,h x=some r)∧blk' x=blk x∧∀g,blk x=some g->w'.shape? g.1=w.shape? g.1):PhR w' h' blk' x s n u:=by
 intro r' hx
 obtain⟨⟨r,h1⟩,h2,h3⟩:=hr r' hx
 rw[h2]
 rcases k r h1 with⟨g,c,N',ty,g0,g1,g2,g3,g4,g5⟩|hv
 ·exact .inl ⟨g,c,N',ty,g0,g1,g2,g3,g4,(h3 g g0).trans g5⟩
 ·exact .inr hv
theorem RX.keep {L:Nat->Prop} {w0 w w':World} {M M':Nat->Prop} {g:Option (Nat×Nat)} {r:Row} (h:RX L w0 w M g r) (hb:∀b,g=some b->w'.heap[b.1]? = w.heap[b.1]?) (hk:∀b,b<w.heap.size->¬M b->b<w'.heap.size∧¬M' b∧w'.heap[b]? = w.heap[b]?):RX L w0 w' M' g r:=by
 cases g with
 | none=>exact h
 | some g=>exact⟨h.1,h.2.keep rfl rfl rfl (hb g rfl) hk⟩
section
variable {N:Nat} {M:Nat->Prop} {L:ik} {w0:World} {blk:Nat->Option (Nat×Nat)} {V:Nat->Nat->Prop} {t:Nat->D} {h:Nat->Option Row} {a:Act} {w:World}
theorem Inv.ev (hI:Inv N M L w0 blk V t h a w) (x:Operand):RT w (Own M h blk) h blk V (ev t x) (a.eval x):=by
 cases x with
 | tmp i=>exact hI.slots i
 | const v=>exact Wg _ _ _ _ _ v
 | global g=>trivial
 | func f=>exact RP.fn f
theorem Inv.Dt (hI:Inv N M L w0 blk V t h a w) {x:Nat} {r:Row} {g:Nat×Nat} (hx:h x=some r) (hg:blk x=some g) (hm:r.mp=false):Wc w (Own M h blk) g r:=by
 have:=(hI.rows x r hx).2
 rw[hg]at this
 have:=this.2
 unfold du at this
 rw[hm]at this
 exact this
theorem Inv.rowIs (hI:Inv N M L w0 blk V t h a w) {x:Nat} {r:Row} {g:Nat×Nat} (hx:h x=some r) (hg:blk x=some g):du w (Own M h blk) g r:=by
 have:=(hI.rows x r hx).2
 rw[hg]at this
 exact this.2
theorem Inv.base (hI:Inv N M L w0 blk V t h a w) {x:Nat} {r:Row} {g:Nat×Nat} (hx:h x=some r) (hg:blk x=some g):w0.heap.size<=g.1∨LB L g.1:=by
 have:=(hI.rows x r hx).2
 rw[hg]at this
 exact this.1
theorem Inv.lt (hI:Inv N M L w0 blk V t h a w) {x:Nat} {r:Row} {g:Nat×Nat} (hx:h x=some r) (hg:blk x=some g):g.1<w.heap.size:=by
 exact (hI.rowIs hx hg).heap
theorem Inv.wF (hI:Inv N M L w0 blk V t h a w) {b:Nat} (hb:Own M h blk b):b<w.heap.size:=by
 rcases hb with hb|⟨x,r,g,hx,_,hg,rfl⟩
 ·exact afy (hI.mlt b hb) hI.below.size
 ·exact hI.lt hx hg
theorem Inv.notM (hI:Inv N M L w0 blk V t h a w) {x:Nat} {r:Row} {g:Nat×Nat} (hx:h x=some r) (hg:blk x=some g):¬M g.1:=by
 rcases hI.base hx hg with h1|h1
 ·intro hm;have:=hI.mlt _ hm;omega
 ·exact hI.lent _ h1
theorem XE (tm:Array Value) (d i:Nat) (v:Value) (hd:d<tm.size):(tm.setIfInBounds d v).getD i undef=if i=d then v else tm.getD i undef:=by
 simp only[afA]
 by_cases h:i=d
 ·subst h;simp[hd]
 ·rw[Array.getElem?_setIfInBounds_ne (Ne.symm h)];simp[h]
theorem Inv.put (hI:Inv N M L w0 blk V t h a w) {d:Nat} (hd:d<N) {x:D} {v:Value} (hx:RT w (Own M h blk) h blk V x v):Inv N M L w0 blk V (bz t d x) h (a.put (some d) v) w where
 tab:=hI.tab
 below:=hI.below
 mlt:=hI.mlt
 lent:=hI.lent
 pin:=hI.pin
 defers:=hI.defers
 tsz:=by simp[Act.put,hI.tsz]
 slots i:=by
  simp only[Act.put]
  rw[XE _ _ _ _ (by rw[hI.tsz];exact hd)]
  by_cases hi:i=d
  ·subst hi;simpa [bz] using hx
  ·simpa [bz,hi] using hI.slots i
 rows:=hI.rows
 inj:=hI.inj
 ali:=hI.ali
 pha:=hI.pha
 big:=hI.big
theorem Inv.weaken (hI:Inv N M L w0 blk V t h a w) {V':Nat->Nat->Prop} (hV:∀x v,V x v->V' x v):Inv N M L w0 blk V' t h a w where
 tab:=hI.tab
 below:=hI.below
 mlt:=hI.mlt
 lent:=hI.lent
 pin go hg:=⟨hV _ _ (hI.pin go hg).1,(hI.pin go hg).2⟩
 defers:=hI.defers
 tsz:=hI.tsz
 slots i:=(hI.slots i).mono ⟨fun _ h1 h2=>⟨h1,h2,rfl⟩,hV,fun _ _ _ r' h1 h2=>⟨⟨r',h1,h2⟩,rfl,fun _ _=>rfl⟩⟩
 rows x r hx:=⟨fun hn=>hV _ _ ((hI.rows x r hx).1 hn),(hI.rows x r hx).2⟩
 pha:=hI.pha
 big:=hI.big
 inj:=hI.inj
 ali y r g hy hz hl hg j c d hj hd:=by
  obtain⟨u,h1,h2⟩:=hI.ali y r g hy hz hl hg j c d hj hd
  exact⟨u,h1,h2.mono ⟨fun _ h1 h2=>⟨h1,h2,rfl⟩,hV,fun _ _ _ r' h1 h2=>⟨⟨r',h1,h2⟩,rfl,fun _ _=>rfl⟩⟩⟩
theorem Inv.later (hI:Inv N M L w0 blk V t h a w) {w':World} (hb:Below w.heap.size w w'):Inv N M L w0 blk V t h a w' where
 tab:=hI.tab.keep fun b h1 h2=>⟨afy h1 hb.size,h2,hb.block b h1⟩
 below:=hI.below.trans (dJ.xS (L:=LB L) hb) (fun _ h _=>h)
 mlt:=hI.mlt
 lent:=hI.lent
 pin go hg:=⟨(hI.pin go hg).1,fun r hr hv=>⟨((hI.pin go hg).2 r hr hv).1,fun g hgo=>by
  have h1:=(hI.pin go hg).2 r hr hv
  rw[<- h1.2 g hgo]
  exact b8 (hb.block _ (hI.lt hr (h1.1.trans hgo)))⟩⟩
 defers:=hI.defers
 tsz:=hI.tsz
 slots i:=(hI.slots i).mono ⟨fun b h1 h2=>⟨afy h1 hb.size,h2,hb.block b h1⟩,fun _ _ h=>h,
  fun x v _ r' h1 h2=>⟨⟨r',h1,h2⟩,rfl,fun g hg=>b8 (hb.block _ (hI.lt h1 hg))⟩⟩
 rows x r hx:=⟨(hI.rows x r hx).1,(hI.rows x r hx).2.keep (fun g hg=>hb.block _ (hI.lt hx hg)) (fun b k1 k2=>⟨afy k1 hb.size,k2,hb.block b k1⟩)⟩
 inj:=hI.inj
 big:=hI.big
 pha y r g hy hm hg j x s n hc:=by
  obtain⟨h0,u,h1,h2⟩:=hI.pha y r g hy hm hg j x s n hc
  exact⟨h0,u,(afr (a:=⟨g.1,g.2+j,none⟩) (hb.block _ (hI.lt hy hg))).trans h1,h2.mono fun r' k1=>⟨⟨r',k1⟩,rfl,fun g' hg'=>b8 (hb.block _ (hI.lt k1 hg'))⟩⟩
 ali y r g hy hz hl hg j c d hj hd:=by
  obtain⟨u,h1,h2⟩:=hI.ali y r g hy hz hl hg j c d hj hd
  refine⟨u,(afr (a:=⟨g.1,g.2+j,none⟩) (hb.block _ (hI.lt hy hg))).trans h1,h2.mono ⟨fun b h1 h2=>⟨afy h1 hb.size,h2,hb.block b h1⟩,fun _ _ h=>h,
   fun x v _ r' h1 h2=>⟨⟨r',h1,h2⟩,rfl,fun g hg=>b8 (hb.block _ (hI.lt h1 hg))⟩⟩⟩
theorem Inv.drew (hI:Inv N M L w0 blk V t h a w):Inv N M L w0 blk V t h a w.drew:=hI.later ((Below.refl _ _).drew)
theorem E6 (l l':List (Nat×Option Row)):∀h:Nat->Option Row,aH h (l++l')=aH (aH h l) l':=by
 induction l with
 | nil=>intro h;rfl
 | cons p l ih=>intro h;obtain⟨x,r⟩:=p;exact ih _
theorem fA (h:Nat->Option Row) (l:List (Nat×Option Row)) (x:Nat) (r:Option Row):aH h (l++[(x,r)])=bz (aH h l) x r:=by rw[E6];rfl
theorem JB (r:Row):(pM r).fz=true:=by
 unfold pM
 split
 ·assumption
 ·rfl
theorem ab5 (r:Row):(pM r).v=r.v∧(pM r).ty=r.ty∧(pM r).cells=r.cells∧(pM r).mp=r.mp∧((pM r).lst=false->pM r=r):=by
 unfold pM
 split
 ·exact⟨rfl,rfl,rfl,rfl,fun _=>rfl⟩
 ·exact⟨rfl,rfl,rfl,rfl,fun h=>by cases h⟩
theorem PH (h:Nat->Option Row) (x:Nat):∀(fr:List Nat) (g:Nat->Option Row),(∀y,y∉fr->g y=h y∨g y=(h y).map pM) ->
  (x∈fr->aH g (gG h fr) x=(h x).map pM)∧(x∉fr->aH g (gG h fr) x=g x):=by
 intro fr
 induction fr with
 | nil=>intro g _;exact⟨fun hx=>by simp at hx,fun _=>rfl⟩
 | cons y fr ih =>
  intro g hg
  simp only[gG,afB,aH]
  have hg':∀z,z∉fr->(bz g y ((h y).map pM)) z=h z∨(bz g y ((h y).map pM)) z=(h z).map pM:=by
   intro z hz
   by_cases hzy:z=y
   ·subst hzy;right;simp[bz]
   ·simp only[bz,hzy,if_false]
    exact hg z (by simp[hzy,hz])
  obtain⟨i1,i2⟩:=ih _ hg'
  refine⟨fun hx =>?_,fun hx =>?_⟩
  ·by_cases hxf:x∈fr
   ·exact i1 hxf
   ·have:x=y:=by simpa [hxf] using hx
    subst this
    exact (i2 hxf).trans (by simp[bz])
  ·simp only[afC,not_or]at hx
   exact (i2 hx.2).trans (by simp[bz,hx.1])
theorem yW (h:Nat->Option Row) (fr:List Nat) (x:Nat):aH h (gG h fr) x=if x∈fr then (h x).map pM else h x:=by
 have:=PH h x fr h (fun _ _ =>.inl rfl)
 by_cases hx:x∈fr
 ·simpa [hx] using this.1 hx
 ·simpa [hx] using this.2 hx
theorem Inv.freeze (hI:Inv N M L w0 blk V t h a w) (fr:List Nat):Inv N M L w0 blk V t (aH h (gG h fr)) a w:=by
 have hf:∀x r',aH h (gG h fr) x=some r'->∃r,h x=some r∧r'.v=r.v∧r'.ty=r.ty∧r'.cells=r.cells∧(r'.fz=false->r.fz=false)∧(r'.lst=false->r'=r)∧r'.mp=r.mp:=by
  intro x r' hx
  rw[yW]at hx
  split at hx
  ·cases hr:h x with
   | none=>simp[hr]at hx
   | some r =>
    simp only[hr,Option.map_some,afE]at hx
    subst hx
    obtain⟨k1,k2,k3,k4,k5⟩:=ab5 r
    exact⟨r,rfl,k1,k2,k3,(fun h=>by rw[JB]at h;cases h),k5,k4⟩
  ·exact⟨r',hx,rfl,rfl,rfl,id,(fun _=>rfl),rfl⟩
 have ho:∀b,¬Own M h blk b->¬Own M (aH h (gG h fr)) blk b:=by
  intro b hb hb'
  rcases hb' with hb'|⟨x,r',g,hx,hz,hg,rfl⟩
  ·exact hb (.inl hb')
  ·obtain⟨r,h1,_,_,_,h5,_⟩:=hf x r' hx
   exact hb (.inr ⟨x,r,g,h1,h5 hz,hg,rfl⟩)
 exact {
  tab:=hI.tab.keep fun b h1 h2=>⟨h1,ho b h2,rfl⟩
  below:=hI.below
  mlt:=hI.mlt
  lent:=hI.lent
  pin:=fun go hg=>⟨(hI.pin go hg).1,fun r' hr hv=>by
   obtain⟨r,g1,g2,_⟩:=hf 0 r' hr
   exact (hI.pin go hg).2 r g1 (by omega)⟩
  defers:=hI.defers
  tsz:=hI.tsz
  slots:=fun i=>(hI.slots i).mono ⟨fun b h1 h2=>⟨h1,ho b h2,rfl⟩,fun _ _ h=>h,fun x v _ r' h1 h2=>by
   obtain⟨r,g1,g2,_⟩:=hf x r' h1
   exact⟨⟨r,g1,by omega⟩,rfl,fun _ _=>rfl⟩⟩
  rows:=fun x r' hx=>by
   obtain⟨r,g1,g2,g3,g4,_,_,g7⟩:=hf x r' hx
   obtain⟨h1,h2⟩:=hI.rows x r g1
   rw[g2]
   refine⟨h1,?_⟩
   cases hb:blk x with
   | none=>rw[hb]at h2;exact g4.trans h2
   | some g =>
    rw[hb]at h2
    exact⟨h2.1,h2.2.keep g4 g3 g7 rfl fun b k1 k2=>⟨k1,ho b k2,rfl⟩⟩
  inj:=fun x y r s g g' hx hy hg hg' he=>by
   obtain⟨r',g1,_⟩:=hf x r hx
   obtain⟨s',g2,_⟩:=hf y s hy
   exact hI.inj x y r' s' g g' g1 g2 hg hg' he
  big:=hI.big
  pha:=fun y r' g hy hm hg j x s n hc=>by
   obtain⟨r,g1,_,_,g4,_,_,g7⟩:=hf y r' hy
   obtain⟨h0,u,h1,h2⟩:=hI.pha y r g g1 (g7.symm.trans hm) hg j x s n (by rw[<- g4];exact hc)
   exact⟨h0,u,h1,h2.mono fun r'' k1=>by
    obtain⟨r2,q1,_⟩:=hf x r'' k1
    exact⟨⟨r2,q1⟩,rfl,fun _ _=>rfl⟩⟩
  ali:=fun y r' g hy hz hl hg j c d' hj hd'=>by
   obtain⟨r,g1,_,_,_,_,g6,_⟩:=hf y r' hy
   obtain rfl:=g6 hl
   obtain⟨u,h1,h2⟩:=hI.ali y r' g g1 hz hl hg j c d' hj hd'
   exact⟨u,h1,h2.mono ⟨fun b h1 h2=>⟨h1,ho b h2,rfl⟩,fun _ _ h=>h,fun x v _ r' h1 h2=>by
    obtain⟨r,g1,g2,_⟩:=hf x r' h1
    exact⟨⟨r,g1,by omega⟩,rfl,fun _ _=>rfl⟩⟩⟩ }
def forget (h:Nat->Option Row):Option Nat->Nat->Option Row
 | some y=>bz h y none
 | none=>h
theorem Inv.BS (hI:Inv N M L w0 blk V t h a w) {w':World} {h1:Nat->Option Row} {old:Option Nat} {d e:Nat} {r0:Row} {go:Option (Nat×Nat)}
  (hos:w'.os=w.os) (htape:w'.tape=w.tape) (hout:w'.output=w.output) (hsize:w.heap.size<=w'.heap.size)
  (hblock:∀k,k<w.heap.size->(∀y g,old=some y->blk y=some g->k≠g.1)->w'.heap[k]? = w.heap[k]?)
  (hold:∀y,old=some y->∃r,h y=some r∧r.fz=false) (hh1:h1=forget h old) (hV:gR N V d e)
  (hnew:match go with
   | some g=>(w.heap.size<=g.1∨∃y g0,old=some y∧blk y=some g0∧g.1=g0.1)∧du w' (fun b=>Own M h1 blk b∨b=g.1) g r0
   | none=>r0.cells=[]) (hfz:r0.fz=false) (hve:r0.v=e) (hnp:r0.mp=true->∀g,go=some g->∀j x s n:Nat,r0.cells[j]? = some (D.ph x s n)->PC d j x∧∃u,w'.cell? ⟨g.1,g.2+j,none⟩=some u∧PhR w' (bz h1 d (some r0)) (bz blk d go) x s n u:=by (intro h;cases h)) :
  Inv N M L w0 (bz blk d go) (fun x v=>V x v∨(x=d∧v=e)) t (bz h1 d (some r0)) a w':=by
 have hf:∀x r,h1 x=some r->h x=some r∧∀y,old=some y->x≠y:=by
  intro x r hx
  cases old with
  | none=>subst hh1;exact⟨hx,fun y hy=>by cases hy⟩
  | some y =>
   subst hh1
   simp only[forget]at hx
   by_cases hxy:x=y
   ·subst hxy;simp[bz]at hx
   ·rw[au _ _ hxy]at hx
    exact⟨hx,fun z hz=>by cases hz;exact hxy⟩
 have hne:∀x r g,h1 x=some r->blk x=some g->∀y g0,old=some y->blk y=some g0->g.1≠g0.1:=by
  intro x r g hx hg y g0 hy hg0 he
  obtain⟨s,hs,_⟩:=hold y hy
  exact (hf x r hx).2 y hy (hI.inj x y r s g g0 (hf x r hx).1 hs hg hg0 he)
 have hgn:∀x r g g2,h1 x=some r->blk x=some g->go=some g2->g.1≠g2.1:=by
  intro x r g g2 hx hg hg2 he
  subst hg2
  rcases hnew.1 with hn|⟨y,g0,hy,hg0,hgy⟩
  ·have:=hI.lt (hf x r hx).1 hg;omega
  ·exact hne x r g hx hg y g0 hy hg0 (he.trans hgy)
 have hkeep:∀b,b<w.heap.size->¬Own M h blk b->w'.heap[b]? = w.heap[b]?:=by
  intro b hb hn
  refine hblock b hb fun y g hy hg he =>?_
  obtain⟨s,hs,hz⟩:=hold y hy
  exact hn (.inr ⟨y,s,g,hs,hz,hg,he.symm⟩)
 have hown:∀b,b<w.heap.size->¬Own M h blk b->¬Own M (bz h1 d (some r0)) (bz blk d go) b:=by
  intro b hb hn hb'
  rcases hb' with hb'|⟨x,r,g,hx,hz,hg,he⟩
  ·exact hn (.inl hb')
  ·by_cases hxd:x=d
   ·subst hxd
    rw[aq]at hg
    subst hg
    rcases hnew.1 with hn'|⟨y,g0,hy,hg0,hgy⟩
    ·omega
    ·obtain⟨s,hs,hz'⟩:=hold y hy
     exact hn (.inr ⟨y,s,g0,hs,hz',hg0,by rw[<- hgy,he]⟩)
   ·rw[au _ _ hxd]at hx hg
    exact hn (.inr ⟨x,r,g,(hf x r hx).1,hz,hg,he⟩)
 have hk:∀b,b<w.heap.size->¬Own M h blk b->b<w'.heap.size∧¬Own M (bz h1 d (some r0)) (bz blk d go) b∧w'.heap[b]? = w.heap[b]? :=
  fun b h1 h2=>⟨by omega,hown b h1 h2,hkeep b h1 h2⟩
 have hrowsame:∀x r g,h1 x=some r->blk x=some g->w'.heap[g.1]? = w.heap[g.1]?:=fun x r g hx hg=>hblock _ (hI.lt (hf x r hx).1 hg) (fun y g0 hy hg0=>hne x r g hx hg y g0 hy hg0)
 exact {
  tab:=hI.tab.keep hk
  below:=hI.below.trans (L':=fun k=>∃y g,old=some y∧blk y=some g∧k=g.1) ⟨hos,htape,hout,hsize,fun k hk' hn=>hblock k hk' (fun y g hy hg he=>hn ⟨y,g,hy,hg,he⟩)⟩ (fun k ⟨y,g,hy,hg,he⟩ hlt=>by
   obtain⟨s,hs,_⟩:=hold y hy
   rcases hI.base hs hg with hb|hb
   ·omega
   ·rw[he];exact hb)
  mlt:=hI.mlt
  lent:=hI.lent
  pin:=fun go' hg=>⟨.inl (hI.pin go' hg).1,fun r hr hv=>by
   by_cases hxd:0=d
   ·subst hxd
    rw[aq]at hr
    simp only[afE]at hr
    subst hr
    rw[hve]at hv
    subst hv
    exact absurd (hI.pin go' hg).1 hV.no
   ·rw[au _ _ hxd]at hr
    rw[au _ _ hxd]
    obtain⟨k1,k2⟩:=(hI.pin go' hg).2 r (hf 0 r hr).1 hv
    exact⟨k1,fun g hgo=>(b8 (hrowsame 0 r g hr (k1.trans hgo))).trans (k2 g hgo)⟩⟩
  defers:=hI.defers
  tsz:=hI.tsz
  slots:=fun i=>(hI.slots i).mono ⟨hk,fun _ _ h =>.inl h,fun x v hv r' g1 g2=>by
   by_cases hxd:x=d
   ·subst hxd
    rw[aq]at g1
    simp only[afE]at g1
    subst g1
    rw[hve]at g2
    subst g2
    exact absurd hv hV.no
   ·rw[au _ _ hxd]at g1
    exact⟨⟨r',(hf x r' g1).1,g2⟩,au _ _ hxd,fun g hg=>b8 (hrowsame x r' g g1 hg)⟩⟩
  rows:=fun x r hx=>by
   by_cases hxd:x=d
   ·subst hxd
    rw[aq]at hx
    simp only[afE]at hx
    subst hx
    rw[aq]
    refine⟨fun _ =>.inr ⟨rfl,hve⟩,?_⟩
    cases go with
    | none=>exact hnew
    | some g =>
     obtain⟨n1,n2⟩:=hnew
     refine⟨?_,n2.keep rfl rfl rfl rfl fun b q1 q2=>⟨q1,fun hb=>q2 ?_,rfl⟩⟩
     rotate_left
     ·rcases hb with hb|⟨x',r,g',hx,hz,hg,he⟩
      ·exact .inl (.inl hb)
      ·by_cases hxd:x'=x
       ·subst hxd
        rw[aq]at hg
        cases hg
        exact .inr he.symm
       ·rw[au _ _ hxd]at hx hg
        exact .inl (.inr ⟨x',r,g',hx,hz,hg,he⟩)
     rcases n1 with hg|⟨y,g0,hy,hg0,hgy⟩
     ·exact .inl (afx hI.below.size hg)
     ·obtain⟨s,hs,_⟩:=hold y hy
      rw[hgy];exact hI.base hs hg0
   ·rw[au _ _ hxd]at hx
    rw[au _ _ hxd]
    exact⟨fun hn =>.inl ((hI.rows x r (hf x r hx).1).1 hn),(hI.rows x r (hf x r hx).1).2.keep (fun g hg=>hrowsame x r g hx hg) hk⟩
  inj:=fun x y r s g g' hx hy hg hg' he=>by
   by_cases hxd:x=d
   ·by_cases hyd:y=d
    ·rw[hxd,hyd]
    ·subst hxd
     rw[au _ _ hyd]at hy hg'
     rw[aq]at hg
     exact absurd he.symm (hgn y s g' g hy hg' hg)
   ·by_cases hyd:y=d
    ·subst hyd
     rw[au _ _ hxd]at hx hg
     rw[aq]at hg'
     exact absurd he (hgn x r g g' hx hg hg')
    ·rw[au _ _ hxd]at hx hg
     rw[au _ _ hyd]at hy hg'
     exact hI.inj x y r s g g' (hf x r hx).1 (hf y s hy).1 hg hg' he
  big:=hI.big
  pha:=fun y r g hy hm hg j x s n hc=>by
   by_cases hyd:y=d
   ·subst hyd
    rw[aq]at hy
    simp only[afE]at hy
    subst hy
    rw[aq]at hg
    exact hnp hm g hg j x s n hc
   ·rw[au _ _ hyd]at hy hg
    obtain⟨h0,u,k1,k2⟩:=hI.pha y r g (hf y r hy).1 hm hg j x s n hc
    have hlt:=hV.lt
    have hbig:=hI.big
    have hpk:PK=1000000:=rfl
    have hxd:x≠d:=by simp only[PC,NK]at h0;rw[hpk]at h0 hbig;omega
    exact⟨h0,u,(afr (a:=⟨g.1,g.2+j,none⟩) (hrowsame y r g hy hg)).trans k1,k2.mono fun r' g1=>by
     rw[au _ _ hxd]at g1
     exact⟨⟨r',(hf x r' g1).1⟩,au _ _ hxd,fun g' hg'=>b8 (hrowsame x r' g' g1 hg')⟩⟩
  ali:=fun y r g hy hz hl hg j c d' hj hd'=>by
   by_cases hyd:y=d
   ·subst hyd
    rw[aq]at hy
    simp only[afE]at hy
    subst hy
    rw[hfz]at hz
    cases hz
   ·rw[au _ _ hyd]at hy hg
    obtain⟨u,h1,h2⟩:=hI.ali y r g (hf y r hy).1 hz hl hg j c d' hj hd'
    exact⟨u,(afr (a:=⟨g.1,g.2+j,none⟩) (hrowsame y r g hy hg)).trans h1,h2.mono ⟨hk,fun _ _ h =>.inl h,fun x v hv r' g1 g2=>by
     by_cases hxd:x=d
     ·subst hxd
      rw[aq]at g1
      simp only[afE]at g1
      subst g1
      rw[hve]at g2
      subst g2
      exact absurd hv hV.no
     ·rw[au _ _ hxd]at g1
      exact⟨⟨r',(hf x r' g1).1,g2⟩,au _ _ hxd,fun g hg=>b8 (hrowsame x r' g g1 hg)⟩⟩⟩ }
theorem Inv.Wl (hI:Inv N M L w0 blk V t h a w) {w':World} {h1:Nat->Option Row} {old:Option Nat} {d:Nat} {r0:Row} {go:Option (Nat×Nat)}
  (hos:w'.os=w.os) (htape:w'.tape=w.tape) (hout:w'.output=w.output) (hsize:w.heap.size<=w'.heap.size)
  (hblock:∀k,k<w.heap.size->(∀y g,old=some y->blk y=some g->k≠g.1)->w'.heap[k]? = w.heap[k]?)
  (hold:∀y,old=some y->∃r,h y=some r∧r.fz=false) (hh1:h1=forget h old) (hdN:N<=d) (hd0:d≠0) (hVd:¬V d r0.v) (hno:∀(y:Nat) (r:Row) (j s n:Nat),h1 y=some r->r.mp=true->r.cells[j]? = some (D.ph d s n)->False)
  (hnew:match go with
   | some g=>(w.heap.size<=g.1∨∃y g0,old=some y∧blk y=some g0∧g.1=g0.1)∧du w' (fun b=>Own M h1 blk b∨b=g.1) g r0
   | none=>r0.cells=[]) (hfz:r0.fz=false) (hnp:r0.mp=true->∀j x s n:Nat,r0.cells[j]?≠some (D.ph x s n):=by (intro h;cases h)) :
  Inv N M L w0 (bz blk d go) V t (bz h1 d (some r0)) a w':=by
 have hbig:=hI.big
 have hpk:PK=1000000:=rfl
 have hf:∀x r,h1 x=some r->h x=some r∧∀y,old=some y->x≠y:=by
  intro x r hx
  cases old with
  | none=>subst hh1;exact⟨hx,fun y hy=>by cases hy⟩
  | some y =>
   subst hh1
   simp only[forget]at hx
   by_cases hxy:x=y
   ·subst hxy;simp[bz]at hx
   ·rw[au _ _ hxy]at hx
    exact⟨hx,fun z hz=>by cases hz;exact hxy⟩
 have hne:∀x r g,h1 x=some r->blk x=some g->∀y g0,old=some y->blk y=some g0->g.1≠g0.1:=by
  intro x r g hx hg y g0 hy hg0 he
  obtain⟨s,hs,_⟩:=hold y hy
  exact (hf x r hx).2 y hy (hI.inj x y r s g g0 (hf x r hx).1 hs hg hg0 he)
 have hgn:∀x r g g2,h1 x=some r->blk x=some g->go=some g2->g.1≠g2.1:=by
  intro x r g g2 hx hg hg2 he
  subst hg2
  rcases hnew.1 with hn|⟨y,g0,hy,hg0,hgy⟩
  ·have:=hI.lt (hf x r hx).1 hg;omega
  ·exact hne x r g hx hg y g0 hy hg0 (he.trans hgy)
 have hkeep:∀b,b<w.heap.size->¬Own M h blk b->w'.heap[b]? = w.heap[b]?:=by
  intro b hb hn
  refine hblock b hb fun y g hy hg he =>?_
  obtain⟨s,hs,hz⟩:=hold y hy
  exact hn (.inr ⟨y,s,g,hs,hz,hg,he.symm⟩)
 have hown:∀b,b<w.heap.size->¬Own M h blk b->¬Own M (bz h1 d (some r0)) (bz blk d go) b:=by
  intro b hb hn hb'
  rcases hb' with hb'|⟨x,r,g,hx,hz,hg,he⟩
  ·exact hn (.inl hb')
  ·by_cases hxd:x=d
   ·subst hxd
    rw[aq]at hg
    subst hg
    rcases hnew.1 with hn'|⟨y,g0,hy,hg0,hgy⟩
    ·omega
    ·obtain⟨s,hs,hz'⟩:=hold y hy
     exact hn (.inr ⟨y,s,g0,hs,hz',hg0,by rw[<- hgy,he]⟩)
   ·rw[au _ _ hxd]at hx hg
    exact hn (.inr ⟨x,r,g,(hf x r hx).1,hz,hg,he⟩)
 have hk:∀b,b<w.heap.size->¬Own M h blk b->b<w'.heap.size∧¬Own M (bz h1 d (some r0)) (bz blk d go) b∧w'.heap[b]? = w.heap[b]? :=
  fun b h1 h2=>⟨by omega,hown b h1 h2,hkeep b h1 h2⟩
 have hrowsame:∀x r g,h1 x=some r->blk x=some g->w'.heap[g.1]? = w.heap[g.1]?:=fun x r g hx hg=>hblock _ (hI.lt (hf x r hx).1 hg) (fun y g0 hy hg0=>hne x r g hx hg y g0 hy hg0)
 exact {
  tab:=hI.tab.keep hk
  below:=hI.below.trans (L':=fun k=>∃y g,old=some y∧blk y=some g∧k=g.1) ⟨hos,htape,hout,hsize,fun k hk' hn=>hblock k hk' (fun y g hy hg he=>hn ⟨y,g,hy,hg,he⟩)⟩ (fun k ⟨y,g,hy,hg,he⟩ hlt=>by
   obtain⟨s,hs,_⟩:=hold y hy
   rcases hI.base hs hg with hb|hb
   ·omega
   ·rw[he];exact hb)
  mlt:=hI.mlt
  lent:=hI.lent
  pin:=fun go' hg=>⟨(hI.pin go' hg).1,fun r hr hv=>by
   by_cases hxd:0=d
   ·exact absurd hxd.symm hd0
   ·rw[au _ _ hxd]at hr
    rw[au _ _ hxd]
    obtain⟨k1,k2⟩:=(hI.pin go' hg).2 r (hf 0 r hr).1 hv
    exact⟨k1,fun g hgo=>(b8 (hrowsame 0 r g hr (k1.trans hgo))).trans (k2 g hgo)⟩⟩
  defers:=hI.defers
  tsz:=hI.tsz
  slots:=fun i=>(hI.slots i).mono ⟨hk,fun _ _ h=>h,fun x v hv r' g1 g2=>by
   by_cases hxd:x=d
   ·subst hxd
    rw[aq]at g1
    simp only[afE]at g1
    subst g1
    subst g2
    exact absurd hv hVd
   ·rw[au _ _ hxd]at g1
    exact⟨⟨r',(hf x r' g1).1,g2⟩,au _ _ hxd,fun g hg=>b8 (hrowsame x r' g g1 hg)⟩⟩
  rows:=fun x r hx=>by
   by_cases hxd:x=d
   ·subst hxd
    rw[aq]at hx
    simp only[afE]at hx
    subst hx
    rw[aq]
    refine⟨fun hn=>by omega,?_⟩
    cases go with
    | none=>exact hnew
    | some g =>
     obtain⟨n1,n2⟩:=hnew
     refine⟨?_,n2.keep rfl rfl rfl rfl fun b q1 q2=>⟨q1,fun hb=>q2 ?_,rfl⟩⟩
     rotate_left
     ·rcases hb with hb|⟨x',r,g',hx,hz,hg,he⟩
      ·exact .inl (.inl hb)
      ·by_cases hxd:x'=x
       ·subst hxd
        rw[aq]at hg
        cases hg
        exact .inr he.symm
       ·rw[au _ _ hxd]at hx hg
        exact .inl (.inr ⟨x',r,g',hx,hz,hg,he⟩)
     rcases n1 with hg|⟨y,g0,hy,hg0,hgy⟩
     ·exact .inl (afx hI.below.size hg)
     ·obtain⟨s,hs,_⟩:=hold y hy
      rw[hgy];exact hI.base hs hg0
   ·rw[au _ _ hxd]at hx
    rw[au _ _ hxd]
    exact⟨fun hn=>(hI.rows x r (hf x r hx).1).1 hn,(hI.rows x r (hf x r hx).1).2.keep (fun g hg=>hrowsame x r g hx hg) hk⟩
  inj:=fun x y r s g g' hx hy hg hg' he=>by
   by_cases hxd:x=d
   ·by_cases hyd:y=d
    ·rw[hxd,hyd]
    ·subst hxd
     rw[au _ _ hyd]at hy hg'
     rw[aq]at hg
     exact absurd he.symm (hgn y s g' g hy hg' hg)
   ·by_cases hyd:y=d
    ·subst hyd
     rw[au _ _ hxd]at hx hg
     rw[aq]at hg'
     exact absurd he (hgn x r g g' hx hg hg')
    ·rw[au _ _ hxd]at hx hg
     rw[au _ _ hyd]at hy hg'
     exact hI.inj x y r s g g' (hf x r hx).1 (hf y s hy).1 hg hg' he
  big:=hI.big
  pha:=fun y r g hy hm hg j x s n hc=>by
   by_cases hyd:y=d
   ·subst hyd
    rw[aq]at hy
    simp only[afE]at hy
    subst hy
    exact absurd hc (hnp hm j x s n)
   ·rw[au _ _ hyd]at hy hg
    obtain⟨h0,u,k1,k2⟩:=hI.pha y r g (hf y r hy).1 hm hg j x s n hc
    have hxd:x≠d:=by
     intro e
     subst e
     exact hno y r j s n hy hm hc
    exact⟨h0,u,(afr (a:=⟨g.1,g.2+j,none⟩) (hrowsame y r g hy hg)).trans k1,k2.mono fun r' g1=>by
     rw[au _ _ hxd]at g1
     exact⟨⟨r',(hf x r' g1).1⟩,au _ _ hxd,fun g' hg'=>b8 (hrowsame x r' g' g1 hg')⟩⟩
  ali:=fun y r g hy hz hl hg j c d' hj hd'=>by
   by_cases hyd:y=d
   ·subst hyd
    rw[aq]at hy
    simp only[afE]at hy
    subst hy
    rw[hfz]at hz
    cases hz
   ·rw[au _ _ hyd]at hy hg
    obtain⟨u,h1,h2⟩:=hI.ali y r g (hf y r hy).1 hz hl hg j c d' hj hd'
    exact⟨u,(afr (a:=⟨g.1,g.2+j,none⟩) (hrowsame y r g hy hg)).trans h1,h2.mono ⟨hk,fun _ _ h=>h,fun x v hv r' g1 g2=>by
     by_cases hxd:x=d
     ·subst hxd
      rw[aq]at g1
      simp only[afE]at g1
      subst g1
      subst g2
      exact absurd hv hVd
     ·rw[au _ _ hxd]at g1
      exact⟨⟨r',(hf x r' g1).1,g2⟩,au _ _ hxd,fun g hg=>b8 (hrowsame x r' g g1 hg)⟩⟩⟩ }
theorem Inv.Wm (hI:Inv N M L w0 blk V t h a w) {w':World} {h1:Nat->Option Row} {old:Option Nat} {d:Nat} {r0:Row} {go:Option (Nat×Nat)}
  (hos:w'.os=w.os) (htape:w'.tape=w.tape) (hout:w'.output=w.output) (hsize:w.heap.size<=w'.heap.size)
  (hblock:∀k,k<w.heap.size->(∀y g,old=some y->blk y=some g->k≠g.1)->w'.heap[k]? = w.heap[k]?)
  (hold:∀y,old=some y->∃r,h y=some r∧r.fz=false) (hh1:h1=forget h old) {y0:Nat} (hde:d=PK+y0) (hy0N:y0<N) (hVd:∀v,¬V d v) (hy0:∀r,h1 y0=some r->r.mp=false)
  (hnew:match go with
   | some g=>(w.heap.size<=g.1∨∃y g0,old=some y∧blk y=some g0∧g.1=g0.1)∧du w' (fun b=>Own M h1 blk b∨b=g.1) g r0
   | none=>r0.cells=[]) (hfz:r0.fz=false) (hnp:r0.mp=true->∀j x s n:Nat,r0.cells[j]?≠some (D.ph x s n):=by (intro h;cases h)) :
  Inv N M L w0 (bz blk d go) V t (bz h1 d (some r0)) a w':=by
 have hpk:PK=1000000:=rfl
 have hbig:=hI.big
 refine hI.Wl hos htape hout hsize hblock hold hh1 (by omega) (by omega) (hVd _) (fun y r j s n hy hm hc =>?_) hnew hfz hnp
 have hyh:h y=some r:=by
  cases old with
  | none=>subst hh1;exact hy
  | some z =>
   subst hh1
   simp only[forget]at hy
   by_cases hyz:y=z
   ·subst hyz;rw[aq]at hy;cases hy
   ·rwa [au _ _ hyz]at hy
 have hrow:=(hI.rows y r hyh).2
 cases hb:blk y with
 | none =>
  rw[hb]at hrow
  rw[show r.cells=[] from hrow]at hc
  cases hc
 | some g =>
  have h0:=(hI.pha y r g hyh hm hb j _ s n hc).1
  have:y=y0:=by simp only[PC,NK]at h0;rw[hpk]at h0 hde hbig;omega
  subst this
  rw[hy0 r hy]at hm
  cases hm
theorem Inv.PE (hI:Inv N M L w0 blk V t h a w) {w':World} {h1:Nat->Option Row} {old:Option Nat} {d e ty:Nat} {lst fz:Bool} {go:Option (Nat×Nat)} {cs:List D}
  (hos:w'.os=w.os) (htape:w'.tape=w.tape) (hout:w'.output=w.output) (hsize:w.heap.size<=w'.heap.size)
  (hblock:∀k,k<w.heap.size->(∀y g,old=some y->blk y=some g->k≠g.1)->w'.heap[k]? = w.heap[k]?)
  (hold:∀y,old=some y->∃r,h y=some r∧r.fz=false) (hh1:h1=forget h old) (hV:gR N V d e)
  (hnew:match go with
   | some g=>(w.heap.size<=g.1∨∃y g0,old=some y∧blk y=some g0∧g.1=g0.1)∧∃vs:Array Value,w'.heap[g.1]? = some (.cells vs ty (0,0))∧g.2+cs.length<=vs.size∧∀j x,cs[j]? = some x->aS x=true∧RP w' (fun b=>Own M h1 blk b∨b=g.1) x (vs.getD (g.2+j) undef)
   | none=>cs=[]) (hfz:fz=false:=by rfl) :
  Inv N M L w0 (bz blk d go) (fun x v=>V x v∨(x=d∧v=e)) t (bz h1 d (some ⟨e,ty,cs,fz,lst,false⟩)) a w':=by
 refine hI.BS (r0:=⟨e,ty,cs,fz,lst,false⟩) hos htape hout hsize hblock hold hh1 hV ?_ hfz rfl
 cases go with
 | none=>exact hnew
 | some g=>exact hnew
theorem Inv.Wk (hI:Inv N M L w0 blk V t h a w) {w':World} {h1:Nat->Option Row} {old:Option Nat} {d e ty:Nat} {lst fz:Bool} {go:Option (Nat×Nat)} {cs:List D}
  (hos:w'.os=w.os) (htape:w'.tape=w.tape) (hout:w'.output=w.output) (hsize:w.heap.size<=w'.heap.size)
  (hblock:∀k,k<w.heap.size->(∀y g,old=some y->blk y=some g->k≠g.1)->w'.heap[k]? = w.heap[k]?)
  (hold:∀y,old=some y->∃r,h y=some r∧r.fz=false) (hh1:h1=forget h old) (hV:gR N V d e)
  (hnew:match go with
   | some g=>(w.heap.size<=g.1∨∃y g0,old=some y∧blk y=some g0∧g.1=g0.1)∧∃vs:Array Value,w'.heap[g.1]? = some (.cells vs ty (0,0))∧g.2+cs.length<=vs.size∧∀j x,cs[j]? = some x->aS x=true∧RP w (Own M h blk) x (vs.getD (g.2+j) undef)
   | none=>cs=[]) (hfz:fz=false:=by rfl) :
  Inv N M L w0 (bz blk d go) (fun x v=>V x v∨(x=d∧v=e)) t (bz h1 d (some ⟨e,ty,cs,fz,lst,false⟩)) a w':=by
 refine hI.PE hos htape hout hsize hblock hold hh1 hV ?_ hfz
 cases go with
 | none=>exact hnew
 | some g =>
  obtain⟨n1,vs,n2,n3,n4⟩:=hnew
  refine⟨n1,vs,n2,n3,fun j x hj=>⟨(n4 j x hj).1,(n4 j x hj).2.keep fun b q1 q2=>⟨by omega,?_,?_⟩⟩⟩
  ·rintro (hb|rfl)
   ·apply q2
    rcases hb with hb|⟨x,r,g',hx,hz,hg',he⟩
    ·exact .inl hb
    ·refine .inr ⟨x,r,g',?_,hz,hg',he⟩
     subst hh1
     cases old with
     | none=>exact hx
     | some y =>
      simp only[forget]at hx
      by_cases hxy:x=y
      ·subst hxy;simp[bz]at hx
      ·rwa [au _ _ hxy]at hx
   ·rcases n1 with n1|⟨y,g0,hy,hg0,he⟩
    ·omega
    ·obtain⟨r,hr,hz⟩:=hold y hy
     exact q2 (.inr ⟨y,r,g0,hr,hz,hg0,he.symm⟩)
  ·refine hblock b q1 fun y g0 hy hg0 he =>?_
   obtain⟨r,hr,hz⟩:=hold y hy
   exact q2 (.inr ⟨y,r,g0,hr,hz,hg0,he.symm⟩)
theorem Inv.alloc (hI:Inv N M L w0 blk V t h a w) {d e ty:Nat} {lst:Bool} {cs:List D} {vs:Array Value} (hV:gR N V d e) (hl:cs.length<=vs.size)
  (hc:∀j x,cs[j]? = some x->aS x=true∧RP w (Own M h blk) x (vs.getD j undef)) :
  Inv N M L w0 (bz blk d (some (w.heap.size,0))) (fun x v=>V x v∨(x=d∧v=e)) t (bz h d (some ⟨e,ty,cs,false,lst,false⟩)) a (w.alloc (.cells vs ty)):=by
 have hold:∀b,b<w.heap.size->(w.alloc (.cells vs ty)).heap[b]? = w.heap[b]?:=fun b hb=>Below.heap_alloc w _ b hb
 have hb:=(Below.refl w.heap.size w).alloc (afv _) (.cells vs ty)
 refine hI.Wk (h1:=h) (old:=none) hb.os hb.tape hb.output hb.size (fun k hk _=>hold k hk) (fun y hy=>by cases hy) rfl hV ?_
 exact⟨.inl (afv _),vs,heap_alloc_new w _,by simpa using hl,fun j x hj=>by simpa using hc j x hj⟩
theorem Inv.drop (hI:Inv N M L w0 blk V t h a w) (y:Nat):Inv N M L w0 blk V t (bz h y none) a w:=by
 have hf:∀x r,bz h y none x=some r->h x=some r:=by
  intro x r hx
  by_cases hxy:x=y
  ·subst hxy;rw[aq]at hx;cases hx
  ·rwa [au _ _ hxy]at hx
 have ho:∀b,¬Own M h blk b->¬Own M (bz h y none) blk b:=by
  intro b hb hb'
  rcases hb' with hb'|⟨x,r,g,hx,hz,hg,he⟩
  ·exact hb (.inl hb')
  ·exact hb (.inr ⟨x,r,g,hf x r hx,hz,hg,he⟩)
 exact {
  tab:=hI.tab.keep fun b h1 h2=>⟨h1,ho b h2,rfl⟩
  below:=hI.below
  mlt:=hI.mlt
  lent:=hI.lent
  pin:=fun go hg=>⟨(hI.pin go hg).1,fun r hr hv=>(hI.pin go hg).2 r (hf 0 r hr) hv⟩
  defers:=hI.defers
  tsz:=hI.tsz
  slots:=fun i=>(hI.slots i).mono ⟨fun b h1 h2=>⟨h1,ho b h2,rfl⟩,fun _ _ h=>h,fun x v _ r' h1 h2=>⟨⟨r',hf x r' h1,h2⟩,rfl,fun _ _=>rfl⟩⟩
  rows:=fun x r hx=>⟨(hI.rows x r (hf x r hx)).1,(hI.rows x r (hf x r hx)).2.keep (fun _ _=>rfl) (fun b k1 k2=>⟨k1,ho b k2,rfl⟩)⟩
  inj:=fun x y r s g g' hx hy hg hg' he=>hI.inj x y r s g g' (hf x r hx) (hf y s hy) hg hg' he
  big:=hI.big
  pha:=fun z r g hy hm hg j x s n hc=>by
   obtain⟨h0,u,k1,k2⟩:=hI.pha z r g (hf z r hy) hm hg j x s n hc
   exact⟨h0,u,k1,k2.mono fun r' g1=>⟨⟨r',hf x r' g1⟩,rfl,fun _ _=>rfl⟩⟩
  ali:=fun z r g hy hz hl hg j c d' hj hd'=>by
   obtain⟨u,h1,h2⟩:=hI.ali z r g (hf z r hy) hz hl hg j c d' hj hd'
   exact⟨u,h1,h2.mono ⟨fun b h1 h2=>⟨h1,ho b h2,rfl⟩,fun _ _ h=>h,fun x v _ r' h1 h2=>⟨⟨r',hf x r' h1,h2⟩,rfl,fun _ _=>rfl⟩⟩⟩ }
theorem Inv.iH (hI:Inv N M L w0 blk V t h a w) {x:Nat} {r:Row} (hx:h x=some r) (hz:r.fz=false) {r0:Row} {w':World} (hv0:r0.v=r.v)
  (hos:w'.os=w.os) (htape:w'.tape=w.tape) (hout:w'.output=w.output) (hsize:w.heap.size<=w'.heap.size) (hheap:∀b,b<w.heap.size->(∀g,blk x=some g->b≠g.1)->w'.heap[b]? = w.heap[b]?)
  (hnew:match blk x with
   | some g=>w'.shape? g.1=w.shape? g.1∧du w' (Own M h blk) g r0
   | none=>r0.cells=[])
  (hal:r0.fz=true->r0.lst=false->∀g,blk x=some g->∀j c d,r0.cells[j]? = some c->alD c=some d->∃u,w'.cell? ⟨g.1,g.2+j,none⟩=some u∧RT w (Own M h blk) h blk V d u) (hph:r0.mp=true->∀g,blk x=some g->∀j x' s n:Nat,r0.cells[j]? = some (D.ph x' s n)->PC x j x'∧∃u,w'.cell? ⟨g.1,g.2+j,none⟩=some u∧PhR w h blk x' s n u:=by (intro h;cases h)) :
  Inv N M L w0 blk V t (bz h x (some r0)) a w':=by
 have hf:∀y s,bz h x (some r0) y=some s->∃s',h y=some s'∧s.v=s'.v∧(s.fz=false->s'.fz=false):=by
  intro y s hy
  by_cases hyx:y=x
  ·subst hyx
   rw[aq]at hy
   simp only[afE]at hy
   subst hy
   exact⟨r,hx,hv0,fun _=>hz⟩
  ·rw[au _ _ hyx]at hy
   exact⟨s,hy,rfl,id⟩
 have ho:∀b,¬Own M h blk b->¬Own M (bz h x (some r0)) blk b:=by
  intro b hb hb'
  rcases hb' with hb'|⟨y,s,g',hy,hz',hg',he⟩
  ·exact hb (.inl hb')
  ·obtain⟨s',h1,_,h3⟩:=hf y s hy
   exact hb (.inr ⟨y,s',g',h1,h3 hz',hg',he⟩)
 have hheap':∀b,b<w.heap.size->¬Own M h blk b->w'.heap[b]? = w.heap[b]?:=fun b h1 h2=>hheap b h1 (fun g hg e=>h2 (.inr ⟨x,r,g,hx,hz,hg,e.symm⟩))
 have hk:∀b,b<w.heap.size->¬Own M h blk b->b<w'.heap.size∧¬Own M (bz h x (some r0)) blk b∧w'.heap[b]? = w.heap[b]? :=
  fun b h1 h2=>⟨by omega,ho b h2,hheap' b h1 h2⟩
 have hother:∀y s g',y≠x->h y=some s->blk y=some g'->w'.heap[g'.1]? = w.heap[g'.1]?:=fun y s g' hyx hy hg'=>hheap _ (hI.lt hy hg') (fun g hg e=>hyx (hI.inj y x s r g' g hy hx hg' hg e))
 have hsame:∀y s g',h y=some s->blk y=some g'->w'.shape? g'.1=w.shape? g'.1:=by
  intro y s g' hy hg'
  by_cases hyx:y=x
  ·subst hyx;rw[hg']at hnew;exact hnew.1
  ·exact b8 (hother y s g' hyx hy hg')
 exact {
  tab:=hI.tab.keep hk
  below:=hI.below.trans (L':=fun k=>∃g,blk x=some g∧k=g.1) ⟨hos,htape,hout,hsize,fun k hk hn=>hheap k hk (fun g hg e=>hn ⟨g,hg,e⟩)⟩ (fun k ⟨g,hg,he⟩ hlt=>by
   rcases hI.base hx hg with hb|hb
   ·omega
   ·rw[he];exact hb)
  mlt:=hI.mlt
  lent:=hI.lent
  pin:=fun go hg=>⟨(hI.pin go hg).1,fun s hs hv=>by
   obtain⟨s',g1,g2,_⟩:=hf 0 s hs
   obtain⟨k1,k2⟩:=(hI.pin go hg).2 s' g1 (by omega)
   exact⟨k1,fun g hgo=>(hsame 0 s' g g1 (k1.trans hgo)).trans (k2 g hgo)⟩⟩
  defers:=hI.defers
  tsz:=hI.tsz
  slots:=fun i=>(hI.slots i).mono ⟨hk,fun _ _ h=>h,fun y v _ s h1 h2=>by
   obtain⟨s',g1,g2,_⟩:=hf y s h1
   exact⟨⟨s',g1,by omega⟩,rfl,fun g' hg'=>hsame y s' g' g1 hg'⟩⟩
  rows:=fun y s hy=>by
   by_cases hyx:y=x
   ·subst hyx
    rw[aq]at hy
    simp only[afE]at hy
    subst hy
    refine⟨fun hn=>by rw[hv0];exact (hI.rows y r hx).1 hn,?_⟩
    cases hg:blk y with
    | none=>rw[hg]at hnew;exact hnew
    | some g =>
     rw[hg]at hnew
     exact⟨hI.base hx hg,hnew.2.keep rfl rfl rfl rfl fun b q1 q2=>⟨q1,ho b q2,rfl⟩⟩
   ·rw[au _ _ hyx]at hy
    exact⟨(hI.rows y s hy).1,(hI.rows y s hy).2.keep (fun g' hg'=>hother y s g' hyx hy hg') hk⟩
  inj:=fun y z s s' g1 g2 hy hz' hg1 hg2 he=>by
   obtain⟨r1,k1,_⟩:=hf y s hy
   obtain⟨r2,k2,_⟩:=hf z s' hz'
   exact hI.inj y z r1 r2 g1 g2 k1 k2 hg1 hg2 he
  big:=hI.big
  pha:=fun y r1 g hy hm hg j x' s n hc=>by
   by_cases hyx:y=x
   ·subst hyx
    rw[aq]at hy
    simp only[afE]at hy
    subst hy
    obtain⟨h0,u,k1,k2⟩:=hph hm g hg j x' s n hc
    exact⟨h0,u,k1,k2.mono fun r' g1=>by
     obtain⟨s',q1,_⟩:=hf x' r' g1
     exact⟨⟨s',q1⟩,rfl,fun g' hg'=>hsame x' s' g' q1 hg'⟩⟩
   ·rw[au _ _ hyx]at hy
    obtain⟨h0,u,k1,k2⟩:=hI.pha y r1 g hy hm hg j x' s n hc
    exact⟨h0,u,(afr (a:=⟨g.1,g.2+j,none⟩) (hother y r1 g hyx hy hg)).trans k1,k2.mono fun r' g1=>by
     obtain⟨s',q1,_⟩:=hf x' r' g1
     exact⟨⟨s',q1⟩,rfl,fun g' hg'=>hsame x' s' g' q1 hg'⟩⟩
  ali:=fun y r1 g hy hz1 hl hg j c d' hj hd'=>by
   have hm:∀ {u:Value},RT w (Own M h blk) h blk V d' u->RT w' (Own M (bz h x (some r0)) blk) (bz h x (some r0)) blk V d' u:=fun h2=>h2.mono ⟨hk,fun _ _ h=>h,fun y v _ s h1 h2=>by
    obtain⟨s',g1,g2,_⟩:=hf y s h1
    exact⟨⟨s',g1,by omega⟩,rfl,fun g' hg'=>hsame y s' g' g1 hg'⟩⟩
   by_cases hyx:y=x
   ·subst hyx
    rw[aq]at hy
    simp only[afE]at hy
    subst hy
    obtain⟨u,h1,h2⟩:=hal hz1 hl g hg j c d' hj hd'
    exact⟨u,h1,hm h2⟩
   ·rw[au _ _ hyx]at hy
    obtain⟨u,h1,h2⟩:=hI.ali y r1 g hy hz1 hl hg j c d' hj hd'
    exact⟨u,(afr (a:=⟨g.1,g.2+j,none⟩) (hother y r1 g hyx hy hg)).trans h1,hm h2⟩ }
theorem Inv.rewrite (hI:Inv N M L w0 blk V t h a w) {x:Nat} {r:Row} (hx:h x=some r) (hz:r.fz=false) {cs:List D} {lst fz:Bool} {w':World}
  (hos:w'.os=w.os) (htape:w'.tape=w.tape) (hout:w'.output=w.output) (hsize:w.heap.size<=w'.heap.size) (hheap:∀b,b<w.heap.size->(∀g,blk x=some g->b≠g.1)->w'.heap[b]? = w.heap[b]?)
  (hnew:match blk x with
   | some g=>w'.shape? g.1=w.shape? g.1∧∃vs:Array Value,w'.heap[g.1]? = some (.cells vs r.ty (0,0))∧g.2+cs.length<=vs.size∧∀j d,cs[j]? = some d->aS d=true∧RP w' (Own M h blk) d (vs.getD (g.2+j) undef)
   | none=>cs=[])
  (hal:fz=true->lst=false->∀g,blk x=some g->∀j c d,cs[j]? = some c->alD c=some d->∃u,w'.cell? ⟨g.1,g.2+j,none⟩=some u∧RT w (Own M h blk) h blk V d u) :
  Inv N M L w0 blk V t (bz h x (some ⟨r.v,r.ty,cs,fz,lst,false⟩)) a w':=by
 refine hI.iH (r0:=⟨r.v,r.ty,cs,fz,lst,false⟩) hx hz rfl hos htape hout hsize hheap ?_ hal
 cases hg:blk x with
 | none=>rw[hg]at hnew;exact hnew
 | some g=>rw[hg]at hnew;exact hnew
theorem Inv.write (hI:Inv N M L w0 blk V t h a w) {x:Nat} {r:Row} {g:Nat×Nat} (hx:h x=some r) (hz:r.fz=false) (hg:blk x=some g) (hmp:r.mp=false) {cs:List D} {vs vs0:Array Value} (h0:w.heap[g.1]? = some (.cells vs0 r.ty (0,0))) (hsz:vs.size=vs0.size)
  (hl:g.2+cs.length<=vs.size) (hc:∀j d,cs[j]? = some d->aS d=true∧RP w (Own M h blk) d (vs.getD (g.2+j) undef)) :
  Inv N M L w0 blk V t (bz h x (some { r with cells:=cs })) a (w.setRow g.1 vs):=by
 have hheap:∀b,b≠g.1->(w.setRow g.1 vs).heap[b]? = w.heap[b]?:=by
  intro b hb
  simp only[World.setRow,afF]
  rw[if_neg (Ne.symm hb)]
 have hsize:(w.setRow g.1 vs).heap.size=w.heap.size:=by simp[World.setRow]
 have hnew:(w.setRow g.1 vs).heap[g.1]? = some (.cells vs r.ty (0,0)):=setRow_heap w g.1 vs0 vs r.ty (0,0) h0
 have e0:({ r with cells:=cs } : Row)=⟨r.v,r.ty,cs,r.fz,r.lst,false⟩:=by rw[<- hmp]
 rw[e0]
 refine hI.rewrite (fz:=r.fz) (lst:=r.lst) hx hz rfl rfl rfl (by rw[hsize];exact afv _) (fun b _ hb=>hheap b (hb g hg)) ?_ (fun h=>by rw[hz]at h;cases h)
 rw[hg]
 exact⟨by simp[World.shape?,hnew,h0,hsz],vs,hnew,hl,fun j d hj=>⟨(hc j d hj).1,(hc j d hj).2.keep fun b q1 q2=>⟨by rw[hsize];exact q1,q2,hheap b (fun e=>q2 (.inr ⟨x,r,g,hx,hz,hg,e.symm⟩))⟩⟩⟩
end
structure wQ (w:World) (M:Nat->Prop) (args:List D) (vs:Array Value):Prop where
 size:vs.size=args.length
 at_:∀j d,args[j]? = some d->RP w M d (vs.getD j undef)
 tab:Uv w M
def ss (w w':World) (M:Nat->Prop) (old:Nat->Prop) (v:Value):RK->Prop
 | .clean d=>RP w' M d v
 | .fresh ty s n cells =>
  (∃(g:Nat×Nat) (c:Nat) (cs:Array Value),v=.slice (some ⟨g.1,g.2,none⟩) n c∧(w.heap.size<=g.1∨old g.1)∧w'.heap[g.1]? = some (.cells cs ty (0,0))∧n<=c∧c<=maxLen∧c*s+g.2=cs.size∧g.2+cells.length<=cs.size ∧
   ∀(j:Nat) d,cells[j]? = some d->aS d=true∧RP w' (fun b=>M b∨b=g.1) d (cs.getD (g.2+j) undef))∨(n=0∧cells=[]∧∃A,v=.slice A 0 0)
 | .same _ _ _=>False
def sf (go:Option (Nat×Nat)) (b:Nat):Prop:=∃g,go=some g∧b=g.1
def RW (w:World) (M:Nat->Prop) (go:Option (Nat×Nat)) (r:Row):Prop :=
 match go with
 | some g=>du w M g r
 | none=>r.cells=[]
def zu (w:World) (go:Option (Nat×Nat)) (d:D) (u:Value):Prop:=RT w (fun _=>False) (fun x=>if x=0 then some ⟨0,0,[],false,false,false⟩ else none) (fun _=>go) (fun _ _=>True) d u
def aaX (w w':World) (M:Nat->Prop) (go:Option (Nat×Nat)) (r:Row):Option Row->Prop
 | some r1=>r1.ty=r.ty∧r1.fz=false∧(r1.mp=r.mp∧pO r1=true)∧(∀g,go=some g->w'.shape? g.1=w.shape? g.1)∧RW w' (fun b=>M b∨sf go b) go r1
 | none=>True
def aaZ (w w':World) (M:Nat->Prop) (go:Option (Nat×Nat)) (v:Value):RK->Prop
 | .same s o n=>zu w' go (.buf 0 0 s o n) v
 | .clean d=>RP w' (fun b=>M b∨sf go b) d v
 | .fresh ty s n cells=>ss w w' M (sf go) v (.fresh ty s n cells)
def pb (P:Program) (f:FuncId) (lent:Option (D×Row)) (args:List D) (rk:RK) (out:Option Row):Prop :=
 match lent with
 | none=>∀(w:World) (M:Nat->Prop) (vs:Array Value),(∀b,M b->b<w.heap.size)->wQ w M args vs->Calls P f vs w fun e w'=>∃v,e=.returned v∧Below w.heap.size w w'∧ss w w' M (fun _=>False) v rk
 | some (d0,r)=>∀(w:World) (M:Nat->Prop) (go:Option (Nat×Nat)) (u0:Value) (vs:Array Value),(∀b,M b->b<w.heap.size)->(∀b,sf go b->¬M b)->r.fz=false->pO r=true->RW w (fun b=>M b∨sf go b) go r->zu w go d0 u0->wQ w (fun b=>M b∨sf go b) args vs ->
  Calls P f (#[u0]++vs) w fun e w'=>∃v,e=.returned v∧dJ (sf go) w w'∧aaX w w' M go r out∧aaZ w w' M go v rk
def Py (P:Program) (f:FuncId) (args:List D) (r:D):Prop:=pb P f none args (.clean r) none
def dy (P:Program) (f:FuncId):Prop:=∃fn,P.funcs[f]? = some fn∧(fn.name == "runtime.NumGoroutine")=false∧fn.body.isNone=false
def Wh (w:World) (ty k:Nat) (go:Option (Nat×Nat)) (u:Value) (n:Nat) (cs:List Value):Prop :=
 (∃g c arr,go=some g∧u=.slice (some ⟨g.1,g.2,none⟩) n c∧w.heap[g.1]? = some (.cells arr ty (0,0))∧c*k+g.2=arr.size∧n<=c∧c<=maxLen∧∀(j:Nat) x,cs[j]? = some x->arr[g.2+j]? = some x)∨(go=none∧n=0∧cs=[]∧∃A,u=.slice A 0 0)
structure abJ (P:Program) (f:FuncId) (p:Nat×Nat×Nat):Prop where
 callable:dy P f
 pos:0<p.2.1
 calls:∀(w:World) (go go':Option (Nat×Nat)) (u u':Value) (i n m:Nat) (cs cs':List Value),Wh w p.1 p.2.1 go u n cs->Wh w p.1 p.2.1 go' u' m cs'->(∀g g',go=some g->go'=some g'->g.1≠g'.1) ->
  cs.length=n*p.2.1->cs'.length=m*p.2.1->(∀x∈cs,x.oneCell'=true)->(∀x∈cs',x.oneCell'=true)->i<=n->0<m->(n+m)*p.2.2<=140737488355328 ->
  Calls P f #[u,.int .i64 i,u'] w fun e w'=>∃v,e=.returned v∧dJ (sf go) w w' ∧
   ∃(g:Nat×Nat) (c:Nat) (arr:Array Value),v=.slice (some ⟨g.1,g.2,none⟩) (n+m) c∧(w.heap.size<=g.1∨sf go g.1)∧w'.heap[g.1]? = some (.cells arr p.1 (0,0))∧n+m<=c∧c<=maxLen∧c*p.2.1+g.2=arr.size ∧
    ∀(j:Nat) x,(cs.take (i*p.2.1)++(cs'++cs.drop (i*p.2.1)))[j]? = some x->arr[g.2+j]? = some x
def Kv:D->Value
 | .int k n =>.int k n
 | .bool b =>.bool b
 | .str s =>.string s
 | _=>undef
def Ae:D->Bool
 | .int _ _ | .bool _ | .str _=>true
 | _=>false
def aaN:D->Value
 | .agg xs =>.agg (xs.map Kv).toArray
 | d=>Kv d
def aa7:D->Bool
 | .agg xs=>xs.all Ae
 | d=>Ae d
theorem Hf {w:World} {M:Nat->Prop} {d:D} {u:Value} (hf:Ae d=true) (h:RP w M d u):u=Kv d:=by
 cases h<;>first|rfl|cases hf
theorem Xu {w:World} {M:Nat->Prop} {d:D} (hf:Ae d=true):aS d=true∧RP w M d (Kv d):=by
 cases d with
 | int k n=>exact⟨rfl,.int k n⟩
 | bool b=>exact⟨rfl,.bool b⟩
 | str s=>exact⟨rfl,.str s⟩
 | _=>cases hf
theorem UQ {w:World} {M:Nat->Prop} {d:D} {u:Value} (hf:aa7 d=true) (h:RP w M d u):u=aaN d:=by
 cases h with
 | agg xs us h1 h2 h3 =>
  simp only[aaN]
  congr 2
  apply List.ext_getElem
  ·simpa using h1
  ·intro i q1 q2
   have hi:i<xs.length:=by omega
   have hfx:Ae xs[i]=true:=afG.1 hf _ (afH hi)
   have:=Hf hfx (h2 i _ (afI hi))
   rw[List.getElem_map,<- this]
   simp[List.getD,q1]
 | _=>first|rfl|cases hf
structure Wa (P:Program) (f:FuncId) (p:Grow):Prop where
 callable:dy P f
 pos:0<p.k
 flat:∀ds afq cs,p.sem ds afq=some cs->(∀d∈ds,Ae d=true)∧(∀d∈afq,aa7 d=true)∧(∀d∈cs,Ae d=true)∧cs.length=p.k
 calls:∀(w:World) (gy:Nat×Nat) (ya:Array Value) (ty:Nat) (go:Option (Nat×Nat)) (u:Value) (n:Nat) (ds afq cs:List D),w.heap[gy.1]? = some (.cells ya ty (0,0))->ya[gy.2]? = some u->Wh w p.ty p.k go u n (ds.map Kv) ->
  (∀g,go=some g->g.1≠gy.1)->ds.length=n*p.k->p.sem ds afq=some cs->(n+1)*p.bytes<=140737488355328 ->
  Calls P f (#[.pointer (some ⟨gy.1,gy.2,none⟩)]++(afq.map aaN).toArray) w fun e w'=>e=.returned (.int .i64 (n:Int))∧dJ (fun b=>b=gy.1∨sf go b) w w' ∧
   ∃(g:Nat×Nat) (c:Nat) (arr:Array Value),(w.heap.size<=g.1∨sf go g.1)∧w'.heap[gy.1]? = some (.cells (ya.setIfInBounds gy.2 (.slice (some ⟨g.1,g.2,none⟩) (n+1) c)) ty (0,0))∧w'.heap[g.1]? = some (.cells arr p.ty (0,0)) ∧
    n+1<=c∧c<=maxLen∧c*p.k+g.2=arr.size∧∀(j:Nat) x,((ds++cs).map Kv)[j]? = some x->arr[g.2+j]? = some x
structure FW (w:World) (Q:Nat->Prop) (blk:Nat->Option (Nat×Nat)) (h:Nat->Option Row):Prop where
 rows:∀x r,h x=some r->match blk x with|some g=>du w Q g r|none=>r.cells=[]
 inj:∀x y r s g g',h x=some r->h y=some s->blk x=some g->blk y=some g'->g.1=g'.1->x=y
 pha:∀y r g,h y=some r->r.mp=true->blk y=some g->∀j x s n:Nat,r.cells[j]? = some (D.ph x s n)->PC y j x∧∃u,w.cell? ⟨g.1,g.2+j,none⟩=some u∧PhR w h blk x s n u
def gW (ty t s nv:Nat) (cs:List D):Row:=⟨0,ty,[.nr t s nv cs],false,true,true⟩
def lB (r:Row) (x:Nat):Option Row:=if x=0 then some r else none
def tU (blk:Nat->Option (Nat×Nat)) (h:Nat->Option Row) (b:Nat):Prop:=∃x r g,h x=some r∧blk x=some g∧g.1=b
def I4 (P:Program) (f:FuncId) (ty t s o:Nat) (cs args:List D) (d:D) (cs':List D):Prop :=
 ∀(w:World) (M:Nat->Prop) (blk:Nat->Option (Nat×Nat)) (h h':Nat->Option Row) (g0:Nat×Nat) (vs:Array Value),h=EH (lB (gW ty t s 0 cs))->h'=EH (lB (gW ty t s 0 cs')) ->
  (∀b,M b->b<w.heap.size)->(∀b,tU blk h b->¬M b)->blk 0=some g0->FW w (fun b=>M b∨tU blk h b) blk h->wQ w (fun b=>M b∨tU blk h b) args vs ->
  Calls P f (#[.pointer (some ⟨g0.1,g0.2+o,none⟩)]++vs) w fun e w'=>∃v blk',e=.returned v∧dJ (tU blk h) w w'∧blk' 0=some g0∧w'.shape? g0.1=w.shape? g0.1∧(∀b,tU blk' h' b->w.heap.size<=b∨tU blk h b)∧FW w' (fun b=>M b∨tU blk' h' b) blk' h'∧RP w' (fun b=>M b∨tU blk' h' b) d v
def I3 (P:Program) (f:FuncId) (args:List D) (ty t s S n:Nat) (cs:List D):Prop :=
 ∀(w:World) (M:Nat->Prop) (h:Nat->Option Row) (vs:Array Value),h=EH (lB (gW ty t s 0 cs))->(∀b,M b->b<w.heap.size)->wQ w M args vs ->
  Calls P f vs w fun e w'=>∃v blk,e=.returned v∧Below w.heap.size w w'∧(∀b,tU blk h b->w.heap.size<=b)∧FW w' (fun b=>M b∨tU blk h b) blk h∧zu w' (blk 0) (.buf 0 0 S 0 n) v
structure bA (P:Program) (Γ:Env):Prop where
 calls:∀f lent args rk out,Γ.sem f lent args=some (rk,out)->pb P f lent args rk out∧dy P f
 ins:∀f p,Γ.ins f=some p->abJ P f p
 grw:∀f p,Γ.grw f=some p->Wa P f p
 lnd:∀f p,Γ.nx.lnd f=some p->dy P f∧∀ty t s o cs args d cs',p.2 ty t s o cs args=some (d,cs')->I4 P f ty t s o cs args d cs'
 res:∀f p,Γ.nx.res f=some p->dy P f∧∀args ty t s S n cs,p args=some (ty,t,s,S,n,cs)->I3 P f args ty t s S n cs
theorem dc.get {P:Program} {t:Nat} {τ:Ty} (h:dc P t τ):∃d i z,P.underlying t=some d∧conv d=τ.ds∧P.info? t=some i∧i.size=τ.size∧i.bytes=τ.bytes∧i.zero=some z∧z.cells=τ.zero.toArray:=by
 have h1:=h.desc
 have h2:=h.info
 cases hd:P.underlying t with
 | none=>simp[hd]at h1
 | some d =>
  cases hi:P.info? t with
  | none=>simp[hi]at h2
  | some i =>
   simp only[hd,Option.map_some,afE]at h1
   simp only[hi,Option.map_some,afE,Prod.mk.injEq]at h2
   cases hz:i.zero with
   | none=>simp[hz]at h2
   | some z =>
    simp only[hz,Option.map_some,afE]at h2
    exact⟨d,i,z,rfl,h1,rfl,h2.1,h2.2.1,hz,by rw[<- h2.2.2]⟩
def dz (P:Program) (o:Oper) (a:Act) (w:World) (Φ:Value->World->Prop):Prop :=
 (∃v w',(execOp a.eval o).run P w=.ok (.value v) w'∧Φ v w')∨(∃w',(execOp a.eval o).run P w=.ok .skip w'∧Φ undef w') ∨
 (∃f args,(execOp a.eval o).run P w=.ok (.enter f args) w∧Calls P f args w (fun e w'=>∃v,e=.returned v∧Φ v w'))
theorem dz.mono {P:Program} {o:Oper} {a:Act} {w:World} {Φ Ψ:Value->World->Prop} (h:dz P o a w Φ) (hm:∀v w',Φ v w'->Ψ v w'):dz P o a w Ψ:=by
 rcases h with⟨v,w',h1,h2⟩|⟨w',h1,h2⟩|⟨f,args,h1,h2⟩
 ·exact .inl ⟨v,w',h1,hm _ _ h2⟩
 ·exact .inr (.inl ⟨w',h1,hm _ _ h2⟩)
 ·exact .inr (.inr ⟨f,args,h1,h2.mono fun e w' ⟨v,h3,h4⟩=>⟨v,h3,hm _ _ h4⟩⟩)
theorem dz.wp {P:Program} {o:Oper} {a:Act} {w:World} {Φ:Value->World->Prop} {K:Act->World->Prop} {Q:Exit->Act->World->Prop} (h:dz P o a w Φ) (hK:∀v w',Φ v w'->K (a.put o.dst v) w'):o.wp P a w K Q:=by
 unfold Oper.wp
 rcases h with⟨v,w',hr,hp⟩|⟨w',hr,hp⟩|⟨f,args,hr,hp⟩
 ·rw[hr];exact hK v w' hp
 ·rw[hr];exact hK undef w' hp
 ·rw[hr]
  refine hp.mono fun e w' ⟨v,he,hv⟩ =>?_
  subst he
  exact hK v w' hv
section
variable {N:Nat} {M:Nat->Prop} {L:ik} {w0:World} {blk:Nat->Option (Nat×Nat)} {V:Nat->Nat->Prop} {t:Nat->D} {h:Nat->Option Row} {a:Act} {w:World}
structure mE (M:Nat->Prop) (h:Nat->Option Row) (blk:Nat->Option (Nat×Nat)) (fr:List Nat) (M':Nat->Prop):Prop where
 le:∀b,M' b->Own M h blk b
 no:∀x,x∈fr->∀r g,h x=some r->blk x=some g->¬M' g.1
theorem mE.left {fr fr':List Nat} {M':Nat->Prop} (hl:mE M h blk (fr++fr') M'):mE M h blk fr M':=⟨hl.le,fun x hx=>hl.no x (afJ _ hx)⟩
theorem mE.right {fr fr':List Nat} {M':Nat->Prop} (hl:mE M h blk (fr++fr') M'):mE M h blk fr' M':=⟨hl.le,fun x hx=>hl.no x (afK _ hx)⟩
theorem Inv.eO (hI:Inv N M L w0 blk V t h a w) (fr:List Nat):mE M h blk fr (Own M (aH h (gG h fr)) blk) where
 le b hb:=by
  rcases hb with hb|⟨x,r',g,hx,hz,hg,rfl⟩
  ·exact .inl hb
  ·rw[yW]at hx
   split at hx
   ·cases hr:h x with
    | none=>simp[hr]at hx
    | some r=>simp only[hr,Option.map_some,afE]at hx;subst hx;rw[JB]at hz;cases hz
   ·exact .inr ⟨x,r',g,hx,hz,hg,rfl⟩
 no x hx r g hr hg hb:=by
  rcases hb with hb|⟨y,r',g',hy,hz,hg',he⟩
  ·exact hI.notM hr hg hb
  ·rw[yW]at hy
   split at hy
   ·cases hr':h y with
    | none=>simp[hr']at hy
    | some r''=>simp only[hr',Option.map_some,afE]at hy;subst hy;rw[JB]at hz;cases hz
   ·rename_i hyf
    have:y=x:=hI.inj y x r' r g' g hy hr hg' hg he
    subst this
    exact hyf hx
theorem Inv.Hw (hI:Inv N M L w0 blk V t h a w) (fr:List Nat):mE M h blk fr (fun b=>Own M h blk b∧∀x,x∈fr->∀r g,h x=some r->blk x=some g->g.1≠b) where
 le b hb:=hb.1
 no x hx r g hr hg hb:=hb.2 x hx r g hr hg rfl
theorem nU {x v:Nat} {r:Row} (hl:ma h x v=some r):h x=some r∧r.v=v:=by
 unfold ma at hl
 split at hl
 ·split at hl
  ·simp only[afE]at hl
   subst hl
   exact⟨by assumption,by assumption⟩
  ·cases hl
 ·cases hl
theorem bU {x v:Nat} {r:Row} (hl:live h x v=some r):h x=some r∧r.v=v:=by
 unfold live at hl
 split at hl
 ·split at hl
  ·rename_i hc
   simp only[afE]at hl
   subst hl
   exact⟨by assumption,hc.1⟩
  ·cases hl
 ·cases hl
theorem fW {x v:Nat} {r:Row} (hl:live h x v=some r):r.mp=false:=by
 unfold live at hl
 split at hl
 ·split at hl
  ·rename_i hc
   simp only[afE]at hl
   subst hl
   exact hc.2
  ·cases hl
 ·cases hl
theorem Ak {x v:Nat} {r:Row} (hl:wz h x v=some r):h x=some r∧r.v=v∧r.mp=true∧pO r=true:=by
 unfold wz at hl
 split at hl
 ·rename_i r' hr
  split at hl
  ·rename_i hc
   simp only[afE]at hl
   subst hl
   exact⟨hr,hc⟩
  ·cases hl
 ·cases hl
theorem rf {r:Row} (h:r.mp=false):pO r=true:=by unfold pO;rw[h]
theorem xH {r:Row} (h:pO r=true) (hm:r.mp=true):∃ks vs,r.cells=[.mpc ks vs]:=by
 unfold pO at h
 split at h
 ·rename_i ks vs _ hc;exact⟨ks,vs,hc⟩
 ·cases h
 ·rename_i hh;rw[hm]at hh;cases hh
theorem Dv {x v:Nat} {ks:List bV} {vs:List D} (hl:fV h x v=some (ks,vs)):∃r,h x=some r∧r.v=v∧r.mp=true∧r.cells=[.mpc ks vs]∧r.ty<900000:=by
 unfold fV at hl
 split at hl
 ·rename_i r hr
  split at hl
  ·rename_i hc
   split at hl
   ·rename_i hcs
    simp only[afE,Prod.mk.injEq]at hl
    obtain⟨rfl,rfl⟩:=hl
    exact⟨r,hr,hc.1,hc.2.1,hcs,hc.2.2⟩
   ·cases hl
  ·cases hl
 ·cases hl
theorem b7 {α:Type} (l:List α) (o n j:Nat):((l.drop o).take n)[j]? = if j<n then l[o+j]? else none:=by
 rw[afL]
 split
 ·rw[afM]
 ·rfl
theorem Inv.wX (hI:Inv N M L w0 blk V t h a w) {x v s o n:Nat} {r:Row} {u:Value} (hl:live h x v=some r) (hr:RT w (Own M h blk) h blk V (.buf x v s o n) u) :
  (∃(g:Nat×Nat) (o' c:Nat) (cs:Array Value),blk x=some g∧u=.slice (some ⟨g.1,o',none⟩) n c∧n<=c∧c<=maxLen∧w.heap[g.1]? = some (.cells cs r.ty (0,0))∧(0<c∨o=0->o'=g.2+o∧c*s+o'=cs.size) ∧
   g.2+r.cells.length<=cs.size∧∀j d,r.cells[j]? = some d->aS d=true∧RP w (Own M h blk) d (cs.getD (g.2+j) undef))∨(blk x=none∧n=0∧r.cells=[]∧∃A,u=.slice A 0 0):=by
 obtain⟨hx,hv⟩:=bU hl
 rcases hr.2 r hx hv with⟨g,o',c,N',t',g0,g1,g2,g3,g4,g5⟩|⟨g0,g1,A,g2⟩
 ·obtain⟨cs,h3,h4,h5⟩:=hI.Dt hx g0 (fW hl)
  have:(r.ty,cs.size)=(t',N'):=by simpa [World.shape?,h3] using g5
  simp only[Prod.mk.injEq]at this
  exact .inl ⟨g,o',c,cs,g0,g1,g3,g4,h3,fun h0=>by obtain⟨k1,k2⟩:=g2 h0;exact⟨k1,by rw[k2,this.2]⟩,h4,h5⟩
 ·have:=(hI.rows x r hx).2
  rw[g0]at this
  exact .inr ⟨g0,g1,this,A,g2⟩
theorem aK {w:World} {g:Nat} {cs:Array Value} {ty:Nat} (hh:w.heap[g]? = some (.cells cs ty (0,0))) {j:Nat} (hj:j<cs.size):w.cell? ⟨g,j,none⟩=some (cs.getD j undef):=by
 simp[World.cell?,hh,hj]
theorem Inv.cY (hI:Inv N M L w0 blk V t h a w) {d d':D} {fr:List Nat} {u:Value} {M':Nat->Prop} (hc:cY h d=some (d',fr)) (hl:mE M h blk fr M') (hr:RT w (Own M h blk) h blk V d u):RP w M' d' u∧aS d'=true:=by
 have hk:∀b,b<w.heap.size->¬Own M h blk b->b<w.heap.size∧¬M' b∧w.heap[b]? = w.heap[b]?:=fun b h1 h2=>⟨h1,fun hb=>h2 (hl.le b hb),rfl⟩
 cases d with
 | int k n=>simp only[Am.cY,afE,Prod.mk.injEq]at hc;obtain⟨rfl,rfl⟩:=hc;exact⟨RP.keep hk hr,rfl⟩
 | bool b=>simp only[Am.cY,afE,Prod.mk.injEq]at hc;obtain⟨rfl,rfl⟩:=hc;exact⟨RP.keep hk hr,rfl⟩
 | str s=>simp only[Am.cY,afE,Prod.mk.injEq]at hc;obtain⟨rfl,rfl⟩:=hc;exact⟨RP.keep hk hr,rfl⟩
 | sl x y n xs=>simp only[Am.cY,afE,Prod.mk.injEq]at hc;obtain⟨rfl,rfl⟩:=hc;exact⟨RP.keep hk hr,rfl⟩
 | buf x v s o n =>
  simp only[Am.cY]at hc
  split at hc
  ·rename_i r hlv
   split at hc
   ·rename_i hle
    simp only[afE,Prod.mk.injEq]at hc
    obtain⟨rfl,rfl⟩:=hc
    rcases hI.wX hlv hr with⟨g,o',c,cs,g0,g1,g2,g3,g4,g5,g7,g8⟩|⟨g0,g1,g2,A,g3⟩
    ·subst g1
     refine⟨.sl (some ⟨g.1,o',none⟩) c false false n _ (fun j=>cs.getD (g.2+(o+j)) undef) g2 g3 (fun h=>by cases h) (fun h=>by cases h) (fun h=>by cases h) (fun hne =>?_) (fun j y hj =>?_) (fun y hy =>?_),rfl⟩
     ·have hn:0<n:=by
       rcases afN n with h0|h0
       ·subst h0;simp at hne
       ·exact h0
      have ho:=(g5 (.inl (by omega))).1
      subst ho
      refine⟨g.1,g.2+o,rfl,hI.lt (bU hlv).1 g0,hl.no x (by simp) r g (bU hlv).1 g0,fun j hj =>?_⟩
      simp only[afO,afP]at hj
      rw[afQ]
      exact aK g4 (by omega)
     ·rw[b7]at hj
      split at hj
      ·exact (g8 _ _ hj).2.keep hk
      ·cases hj
     ·obtain⟨j,hj⟩:=afR hy
      rw[b7]at hj
      split at hj
      ·exact (g8 _ _ hj).1
      ·cases hj
    ·subst g1 g3
     have hnil:List.take (0*s) (List.drop o r.cells)=[]:=by simp
     rw[hnil]
     exact⟨.sl A 0 false false 0 [] (fun _=>undef) (afv _) (afw _) (fun h=>by cases h) (fun _=>⟨rfl,rfl⟩) (fun h=>by cases h) (fun h=>absurd rfl h) (fun j y hj=>by simp at hj) (fun y hy=>by simp at hy),rfl⟩
   ·cases hc
  ·cases hc
 | _=>simp[Am.cY]at hc
theorem tZ {h:Nat->Option Row} {d:D} (hd:∀xs,d ≠ .agg xs):Am.nG h d=Am.cY h d:=by
 cases d<;>first|rfl|exact absurd rfl (hd _)
theorem Inv.nG (hI:Inv N M L w0 blk V t h a w) {d d':D} {fr:List Nat} {u:Value} {M':Nat->Prop} (hc:nG h d=some (d',fr)) (hl:mE M h blk fr M') (hr:RT w (Own M h blk) h blk V d u):RP w M' d' u:=by
 by_cases hd:∀xs,d ≠ .agg xs
 ·rw[tZ hd]at hc
  exact (hI.cY hc hl hr).1
 ·have hk:∀b,b<w.heap.size->¬Own M h blk b->b<w.heap.size∧¬M' b∧w.heap[b]? = w.heap[b]?:=fun b h1 h2=>⟨h1,fun hb=>h2 (hl.le b hb),rfl⟩
  simp only[ne_eq,Classical.not_forall,Classical.not_not]at hd
  obtain⟨xs,rfl⟩:=hd
  simp only[Am.nG,afE,Prod.mk.injEq]at hc
  obtain⟨rfl,rfl⟩:=hc
  exact RP.keep hk (show RP w (Own M h blk) (.agg xs) u from hr)
theorem Inv.NN (hI:Inv N M L w0 blk V t h a w) {x v:Nat} {ks:List bV} {vs:List D} {u:Value} (hl:fV h x v=some (ks,vs)) (hr:RT w (Own M h blk) h blk V (.mp x v) u) :
  ∃(g:Nat×Nat) (r:Row),h x=some r∧r.v=v∧r.mp=true∧r.cells=[.mpc ks vs]∧blk x=some g∧u=.map (some g.1)∧vs.length=ks.length∧∃(ents:Array MapEntry) (clock:Nat),w.heap[g.1]? = some (.map ents clock)∧ents.size=ks.length∧MapKept.Stamped ents clock∧∃us:Nat->Value,(∀j k,ks[j]? = some k->∃e:MapEntry,ents[j]? = some e∧e.key=jx k∧e.val=us j)∧∀j x,vs[j]? = some x->RP w (Own M h blk) x (us j):=by
 obtain⟨r,h1,h2,h3,h4,hty⟩:=Dv hl
 obtain⟨g,k1,k2⟩:=hr.2 r h1 h2
 have hi:=hI.rowIs h1 k1
 unfold du at hi
 rw[h3]at hi
 rcases hi with hi|⟨hi,_⟩
 rotate_left
 ·rw[h4]at hi
  have:=hi _ (afS.2 rfl)
  cases this
 obtain⟨ks',vs',i1,i2,hA,_⟩:=hi
 obtain⟨ents,clock,i3,i4,hst,us,i5,i6⟩:=hA hty
 rw[h4]at i1
 simp only[afT,D.mpc.injEq,and_true]at i1
 obtain⟨rfl,rfl⟩:=i1
 exact⟨g,r,h1,h2,h3,h4,k1,k2,i2,ents,clock,i3,i4,hst,us,i5,i6⟩
theorem Inv.Ti (hI:Inv N M L w0 blk V t h a w) {x v:Nat} {ks:List bV} {vs:List D} {u:Value} {M':Nat->Prop} (hl:fV h x v=some (ks,vs)) (hno:∀r g,h x=some r->blk x=some g->¬M' g.1)
  (hk:∀b,b<w.heap.size->¬Own M h blk b->b<w.heap.size∧¬M' b∧w.heap[b]? = w.heap[b]?) (hr:RT w (Own M h blk) h blk V (.mp x v) u):RP w M' (.mpc ks vs) u:=by
 obtain⟨g,r,h1,h2,h3,h4,h5,rfl,h6,ents,clock,h7,h8,_,us,h9,h10⟩:=hI.NN hl hr
 refine .mpc ks vs (some g.1) us h6 (fun h=>by cases h) (fun b hb =>?_) (fun j y hj=>(h10 j y hj).keep hk)
 simp only[afE]at hb
 subst hb
 exact⟨hI.lt h1 h5,hno r g h1 h5,ents,clock,h7,h8,h9⟩
theorem Inv.aN (hI:Inv N M L w0 blk V t h a w) {d d':D} {fr:List Nat} {u:Value} {M':Nat->Prop} (hc:aN h d=some (d',fr)) (hl:mE M h blk fr M') (hr:RT w (Own M h blk) h blk V d u):RP w M' d' u:=by
 have hk:∀b,b<w.heap.size->¬Own M h blk b->b<w.heap.size∧¬M' b∧w.heap[b]? = w.heap[b]?:=fun b h1 h2=>⟨h1,fun hb=>h2 (hl.le b hb),rfl⟩
 have one:∀d,Am.aN h d=(match Am.cY h d with|some (d',fr)=>some (canon d',fr)|none=>none)->Am.aN h d=some (d',fr)->RT w (Own M h blk) h blk V d u->RP w M' d' u:=by
  intro d he hc hr
  rw[he]at hc
  split at hc
  ·rename_i d1 fr1 h1
   simp only[afE,Prod.mk.injEq]at hc
   obtain⟨rfl,rfl⟩:=hc
   exact (hI.cY h1 hl hr).1.canon
  ·cases hc
 cases d with
 | ptr x v o =>
  simp only[Am.aN]at hc
  split at hc
  ·rename_i r hlv
   split at hc
   ·rename_i hle
    simp only[afE,Prod.mk.injEq]at hc
    obtain⟨rfl,rfl⟩:=hc
    obtain⟨hx,hv⟩:=bU hlv
    obtain⟨g,g0,g1⟩:=hr.2 r hx hv
    obtain⟨cs,g2,g3,g4⟩:=hI.Dt hx g0 (fW hlv)
    subst g1
    refine .ip _ _ (fun j=>cs.getD (g.2+(o+j)) undef) (fun hne=>⟨g.1,g.2+o,rfl,hI.lt hx g0,hl.no x (by simp) r g hx g0,fun j hj =>?_⟩) (fun j y hj =>?_) (fun y hy =>?_)
    ·simp only[afP]at hj
     rw[afQ]
     exact aK g2 (by omega)
    ·rw[afM]at hj
     exact (g4 _ _ hj).2.keep hk
    ·obtain⟨j,hj⟩:=afR hy
     rw[afM]at hj
     exact (g4 _ _ hj).1
   ·cases hc
  ·cases hc
 | agg xs=>simp only[Am.aN,afE,Prod.mk.injEq]at hc;obtain⟨rfl,rfl⟩:=hc;exact (RP.keep hk hr).eX
 | ip xs=>simp only[Am.aN,afE,Prod.mk.injEq]at hc;obtain⟨rfl,rfl⟩:=hc;exact RP.keep hk hr
 | fn f=>simp only[Am.aN,afE,Prod.mk.injEq]at hc;obtain⟨rfl,rfl⟩:=hc;exact RP.keep hk hr
 | box1 x v s o n =>
  simp only[Am.aN]at hc
  split at hc
  ·rename_i d1 fr1 h1
   simp only[afE,Prod.mk.injEq]at hc
   obtain⟨rfl,rfl⟩:=hc
   obtain⟨u',rfl,_,hr⟩:=hr
   obtain⟨k1,k2⟩:=hI.cY h1 hl (show RT w (Own M h blk) h blk V (.buf x v s o n) u' from hr)
   refine .agg _ [u'] rfl (fun j x hj =>?_) (fun x hx =>?_)
   ·cases j with
    | zero=>simp only[List.getElem?_cons_zero,afE]at hj;subst hj;exact k1.canon
    | succ j=>simp at hj
   ·simp only[afS]at hx
    rw[hx,kQ]
    exact k2
  ·cases hc
 | mpc ks vs=>simp only[Am.aN,afE,Prod.mk.injEq]at hc;obtain⟨rfl,rfl⟩:=hc;exact RP.keep hk hr
 | mp x v =>
  simp only[Am.aN]at hc
  split at hc
  ·rename_i ks vs h1
   simp only[afE,Prod.mk.injEq]at hc
   obtain⟨rfl,rfl⟩:=hc
   exact hI.Ti h1 (hl.no x (by simp)) hk hr
  ·cases hc
 | pm x v y =>
  simp only[Am.aN]at hc
  split at hc
  ·rename_i r hlv
   split at hc
   ·rename_i y' v' hcs
    split at hc
    ·rename_i hcond
     obtain⟨c1,c2,rfl⟩:=hcond
     split at hc
     ·rename_i ks vs h1
      simp only[afE,Prod.mk.injEq]at hc
      obtain⟨rfl,rfl⟩:=hc
      obtain⟨hx,hv⟩:=bU hlv
      obtain⟨g,g0,g1⟩:=hr.2 r hx hv
      obtain⟨u',k1,k2⟩:=hI.ali x r g hx c1 c2 g0 0 (.alm y' v') (.mp y' v') (by rw[hcs];rfl) rfl
      have k3:=hI.Ti h1 (hl.no y' (by simp)) hk k2
      subst g1
      refine .ip _ _ (fun _=>u') (fun _=>⟨g.1,g.2+0,rfl,hI.lt hx g0,hl.no x (by simp) r g hx g0,fun j hj =>?_⟩) (fun j z hj =>?_) (fun z hz =>?_)
      ·simp only[List.length_cons,List.length_nil]at hj
       have:j=0:=by omega
       subst this
       exact k1
      ·cases j with
       | zero=>simp only[List.getElem?_cons_zero,afE]at hj;subst hj;exact k3
       | succ j=>simp at hj
      ·simp only[afS]at hz
       subst hz
       rfl
     ·cases hc
    ·cases hc
   ·cases hc
  ·cases hc
 | _=>exact one _ rfl hc hr
theorem BO {w:World} {M:Nat->Prop} {h:Nat->Option Row} {blk:Nat->Option (Nat×Nat)} {V:Nat->Nat->Prop} {d:D} {u:Value} (hr:RC w M h blk V d u):RT w M h blk V d u:=by
 cases d with
 | ptr x v o=>exact hr
 | mp x v=>exact hr
 | pm x v y=>exact hr
 | _=>exact bo hr
theorem Inv.cH (hI:Inv N M L w0 blk V t h a w) {M':Nat->Prop} : ∀ {ds ds':List D} {fr:List Nat} {us:List Value},cH h ds=some (ds',fr)->mE M h blk fr M'->us.length=ds.length ->
  (∀j d,ds[j]? = some d->RT w (Own M h blk) h blk V d (us.getD j undef))->us.length=ds'.length∧∀j d,ds'[j]? = some d->RP w M' d (us.getD j undef)
 | [],ds',fr,us,hc,hl,hlen,hr=>by
  simp only[Am.cH,afE,Prod.mk.injEq]at hc
  obtain⟨rfl,rfl⟩:=hc
  exact⟨hlen,fun j d hj=>by simp at hj⟩
 | d::ds,ds',fr,us,hc,hl,hlen,hr=>by
  simp only[Am.cH]at hc
  split at hc
  ·rename_i d1 fr1 h1
   split at hc
   ·rename_i ds1 fr2 h2
    simp only[afE,Prod.mk.injEq]at hc
    obtain⟨rfl,rfl⟩:=hc
    cases us with
    | nil=>simp at hlen
    | cons u us =>
     have i1:=hI.aN h1 hl.left (hr 0 d rfl)
     obtain⟨i2,i3⟩:=hI.cH h2 hl.right (by simpa using hlen) (fun j d hj=>by simpa using hr (j+1) d (by simpa using hj))
     refine⟨by simp[i2],fun j x hj =>?_⟩
     cases j with
     | zero=>simp only[List.getElem?_cons_zero,afE]at hj;subst hj;simpa using i1
     | succ j=>simpa using i3 j x (by simpa using hj)
   ·cases hc
  ·cases hc
theorem Inv.bE (hI:Inv N M L w0 blk V t h a w) {d d':D} {fr:List Nat} {u:Value} {M':Nat->Prop} (hc:bE h d=some (d',fr)) (hl:mE M h blk fr M') (hr:RT w (Own M h blk) h blk V d u):RP w M' d' u:=by
 cases d with
 | clo f kk xs =>
  simp only[Am.bE]at hc
  split at hc
  ·rename_i ys fr1 h1
   simp only[afE,Prod.mk.injEq]at hc
   obtain⟨rfl,rfl⟩:=hc
   obtain⟨us,k1,k2,k3⟩:=hr
   subst k1
   obtain⟨i1,i2⟩:=hI.cH h1 hl k2 (fun j d hj=>BO (k3 j d hj))
   exact .clo f kk ys us i1 i2
  ·cases hc
 | _=>exact hI.aN (by rw[<- hc];rfl) hl hr
theorem Inv.bm (hI:Inv N M L w0 blk V t h a w) {M':Nat->Prop} : ∀ {ds ds':List D} {fr:List Nat} {us:List Value},bm h ds=some (ds',fr)->mE M h blk fr M'->us.length=ds.length ->
  (∀j d,ds[j]? = some d->RT w (Own M h blk) h blk V d (us.getD j undef))->us.length=ds'.length∧∀j d,ds'[j]? = some d->RP w M' d (us.getD j undef)
 | [],ds',fr,us,hc,hl,hlen,hr=>by
  simp only[Am.bm,afE,Prod.mk.injEq]at hc
  obtain⟨rfl,rfl⟩:=hc
  exact⟨hlen,fun j d hj=>by simp at hj⟩
 | d::ds,ds',fr,us,hc,hl,hlen,hr=>by
  simp only[Am.bm]at hc
  split at hc
  ·rename_i d1 fr1 h1
   split at hc
   ·rename_i ds1 fr2 h2
    simp only[afE,Prod.mk.injEq]at hc
    obtain⟨rfl,rfl⟩:=hc
    cases us with
    | nil=>simp at hlen
    | cons u us =>
     have i1:=hI.bE h1 hl.left (hr 0 d rfl)
     obtain⟨i2,i3⟩:=hI.bm h2 hl.right (by simpa using hlen) (fun j d hj=>by simpa using hr (j+1) d (by simpa using hj))
     refine⟨by simp[i2],fun j x hj =>?_⟩
     cases j with
     | zero=>simp only[List.getElem?_cons_zero,afE]at hj;subst hj;simpa using i1
     | succ j=>simpa using i3 j x (by simpa using hj)
   ·cases hc
  ·cases hc
theorem Inv.dY (hI:Inv N M L w0 blk V t h a w) {d:D} {cs:List D} {fr:List Nat} {u:Value} {M':Nat->Prop} (hc:dY h d=some (cs,fr)) (hl:mE M h blk fr M') (hr:RT w (Own M h blk) h blk V d u) :
  u.cells.size=cs.length∧∀j x,cs[j]? = some x->aS x=true∧RP w M' x (u.cells.getD j undef):=by
 have hk:∀b,b<w.heap.size->¬Own M h blk b->b<w.heap.size∧¬M' b∧w.heap[b]? = w.heap[b]?:=fun b h1 h2=>⟨h1,fun hb=>h2 (hl.le b hb),rfl⟩
 have one:∀d,(∀xs,d ≠ .agg xs)->Am.dY h d=some (cs,fr)->RT w (Own M h blk) h blk V d u->u.cells.size=cs.length∧∀j x,cs[j]? = some x->aS x=true∧RP w M' x (u.cells.getD j undef):=by
  intro d hne hc hr
  have:∃d',Am.cY h d=some (d',fr)∧cs=[d']:=by
   have e:Am.dY h d=match Am.cY h d with|some (d',fr)=>some ([d'],fr)|none=>none:=by
    cases d<;>first|rfl|exact absurd rfl (hne _)
   rw[e]at hc
   split at hc
   ·rename_i d' fr' h1
    simp only[afE,Prod.mk.injEq]at hc
    obtain⟨rfl,rfl⟩:=hc
    exact⟨d',h1,rfl⟩
   ·cases hc
  obtain⟨d',h1,rfl⟩:=this
  obtain⟨h2,h3⟩:=hI.cY h1 hl hr
  rw[h2.cells h3]
  refine⟨rfl,fun j x hj =>?_⟩
  cases j with
  | zero=>simp only[List.getElem?_cons_zero,afE]at hj;subst hj;exact⟨h3,by simpa using h2⟩
  | succ j=>simp at hj
 cases d with
 | agg xs =>
  simp only[Am.dY,afE,Prod.mk.injEq]at hc
  obtain⟨rfl,rfl⟩:=hc
  have hr':RP w (Own M h blk) (.agg xs) u:=hr
  cases hr' with
  | agg xs us h1 h2 h3 =>
   refine⟨by simp[Value.cells,h1],fun j x hj=>⟨h3 x (afX hj),?_⟩⟩
   have:=(h2 j x hj).keep hk
   simpa [Value.cells] using this
 | _=>exact one _ (fun _ h=>by cases h) hc hr
end
theorem nB (g o j:Nat):(⟨g,o,none⟩:Addr).add j=⟨g,o+j,none⟩:=by unfold Addr.add;split<;>simp_all
def At (w:World) (M:Nat->Prop) (g o:Nat) (xs:List D):Prop:=∀j x,xs[j]? = some x->aS x=true∧∃v,w.cell? ⟨g,o+j,none⟩=some v∧RP w M x v
theorem At.drop {w:World} {M:Nat->Prop} {g o:Nat} {xs:List D} (h:At w M g o xs) (k:Nat):At w M g (o+k) (xs.drop k):=by
 intro j x hj
 rw[afM]at hj
 obtain⟨h1,v,h2,h3⟩:=h _ _ hj
 exact⟨h1,v,by rw[afQ];exact h2,h3⟩
theorem At.take {w:World} {M:Nat->Prop} {g o:Nat} {xs:List D} (h:At w M g o xs) (k:Nat):At w M g o (xs.take k):=by
 intro j x hj
 rw[afL]at hj
 split at hj
 ·exact h _ _ hj
 ·cases hj
theorem At.aed {w:World} {M:Nat->Prop} {g o:Nat} {xs:List D} (h:At w M g o xs) :
  ∃us:List Value,us.length=xs.length∧(∀j u,us[j]? = some u->w.cell? ⟨g,o+j,none⟩=some u)∧(∀j x,xs[j]? = some x->RP w M x (us.getD j undef))∧(∀x∈xs,aS x=true):=by
 refine⟨(List.range xs.length).map fun j=>(w.cell? ⟨g,o+j,none⟩).getD undef,by simp,fun j u hj =>?_,fun j x hj =>?_,fun x hx =>?_⟩
 ·obtain⟨hlt,he⟩:=afY.1 hj
  simp only[afZ,af0]at hlt
  simp only[List.getElem_map,af1]at he
  obtain⟨_,v,h2,_⟩:=h j _ (afI hlt)
  rw[h2]at he ⊢
  simpa using he
 ·have hlt:j<xs.length:=(afY.1 hj).1
  obtain⟨_,v,h2,h3⟩:=h j x hj
  have:((List.range xs.length).map fun j=>(w.cell? ⟨g,o+j,none⟩).getD undef).getD j undef=v:=by
   simp[List.getD,afs,hlt,h2]
  rw[this];exact h3
 ·obtain⟨j,hj⟩:=afR hx
  exact (h j x hj).1
section
variable {P:Program} {T:Nat->Option Ty}
theorem ko {ty:Nat} {τ:Ty} (hτ:dc P ty τ) (w:World):(isAgg ty).run P w=.ok τ.ds.nd w:=by
 obtain⟨d,i,z,h1,h2,h3,h4,h5,h6,h7⟩:=hτ.get
 rw[<- h2]
 simp only[isAgg,af2,run_underlying h1,Result.andThen_ok]
 cases d<;>rfl
theorem run_sizeOf {ty:Nat} {τ:Ty} (hτ:dc P ty τ) (w:World):(sizeOf ty).run P w=.ok τ.size w:=by
 obtain⟨d,i,z,h1,h2,h3,h4,h5,h6,h7⟩:=hτ.get
 simp[Go.sizeOf,typeInfo,h3,h4]
theorem ig {ty:Nat} {τ:Ty} (hτ:dc P ty τ) (w:World):∃z,(zeroValue ty).run P w=.ok z w∧z.cells=τ.zero.toArray:=by
 obtain⟨d,i,z,h1,h2,h3,h4,h5,h6,h7⟩:=hτ.get
 exact⟨z,by simp[zeroValue,typeInfo,h3,h6],h7⟩
theorem iZ {ty:Nat} {τ:Ty} (hτ:dc P ty τ) (w:World) (g o:Nat) (us:List Value) (hl:us.length=τ.size) (hc:∀j u,us[j]? = some u->w.cell? ⟨g,o+j,none⟩=some u)
  (h1:τ.ds.nd=false->us.length=1):(loadVar ty ⟨g,o,none⟩).run P w=.ok (if τ.ds.nd then .agg us.toArray else us.getD 0 undef) w:=by
 simp only[loadVar,af2,ko hτ,Result.andThen_ok]
 cases ha:τ.ds.nd with
 | true =>
  have:=run_loadCells_list (P:=P) w ⟨g,o,none⟩ us (fun j v hj=>by rw[nB];exact hc j v hj)
  rw[hl]at this
  simp[run_sizeOf hτ,this]
 | false =>
  have hl1:=h1 ha
  match us,hl1 with
  | [u],_ =>
   have:=hc 0 u rfl
   simp only[Nat.add_zero]at this
   simp[run_load,this]
variable {N:Nat} {M:Nat->Prop} {L:ik} {w0:World} {blk:Nat->Option (Nat×Nat)} {V:Nat->Nat->Prop} {t:Nat->D} {h:Nat->Option Row} {a:Act} {w:World} {e:Nat} {o:Oper} {Γ:Env}
def aV (N:Nat) (M:Nat->Prop) (L:ik) (w0:World) (V:Nat->Nat->Prop) (t:Nat->D) (h:Nat->Option Row) (a:Act) (e:Nat) (dst:Option Nat) (E:bt) (v:Value) (w':World):Prop :=
 ∃blk',Inv N M L w0 blk' (fun x n=>V x n∨(dst=some x∧n=e)) t (aH h E.hw) a w' ∧
  RT w' (Own M (aH h E.hw) blk') (aH h E.hw) blk' (fun x n=>V x n∨(dst=some x∧n=e)) E.val v
theorem aV.de (hI:Inv N M L w0 blk V t h a w) {d:D} {v:Value} {dst:Option Nat} (hr:RT w (Own M h blk) h blk V d v):aV N M L w0 V t h a e dst ⟨d,[]⟩ v w :=
 ⟨blk,hI.weaken fun _ _ h =>.inl h,hr.mono ⟨fun _ h1 h2=>⟨h1,h2,rfl⟩,fun _ _ h =>.inl h,fun _ _ _ r' h1 h2=>⟨⟨r',h1,h2⟩,rfl,fun _ _=>rfl⟩⟩⟩
theorem aV.Jy (hI:Inv N M L w0 blk V t h a w) {d:D} {v:Value} {dst:Option Nat} (fr:List Nat) (hr:RP w (Own M (aH h (gG h fr)) blk) d v):aV N M L w0 V t h a e dst ⟨d,gG h fr⟩ v w :=
 ⟨blk,(hI.freeze fr).weaken fun _ _ h =>.inl h,bo hr⟩
theorem aD {v:Value} {w':World} {Φ:Value->World->Prop} (hr:(execOp a.eval o).run P w=.ok (.value v) w') (hp:Φ v w'):dz P o a w Φ := .inl ⟨v,w',hr,hp⟩
theorem GP (hI:Inv N M L w0 blk V t h a w) {x:Operand} (ho:o.op=.move x∨o.op=.assign x):dz P o a w (aV N M L w0 V t h a e o.dst ⟨ev t x,[]⟩):=by
 refine aD (v:=a.eval x) (w':=w) ?_ (aV.de hI (hI.ev x))
 rcases ho with ho|ho<;>simp[execOp,ho]
theorem zR (hI:Inv N M L w0 blk V t h a w) {ty:Nat} {x:Operand} {E:bt} (ho:o.op=.assign x) (hV:∀d,o.dst=some d->gR N V d e) (hE:bF T ty e o.dst h (ev t x)=some E):dz P o a w (aV N M L w0 V t h a e o.dst E):=by
 have hp:=hI.ev x
 have hstay:E=⟨ev t x,[]⟩->dz P o a w (aV N M L w0 V t h a e o.dst E):=fun h=>by subst h;exact GP hI (.inr ho)
 generalize ev t x=q at *
 have hrun:(execOp a.eval o).run P w=.ok (.value (a.eval x)) w:=by simp[execOp,ho]
 cases q with
 | buf y v s c n =>
  simp only[bF]at hE
  split at hE
  ·rename_i d r hd hl
   split at hE
   ·simp only[afE]at hE
    exact hstay hE.symm
   ·rename_i hz
    simp only[Bool.not_eq_true]at hz
    simp only[afE]at hE
    subst hE
    obtain⟨hy,hv⟩:=bU hl
    have hI':=hI.Wk (w':=w) (h1:=forget h (some y)) (old:=some y) (d:=d) (e:=e) (ty:=r.ty) (lst:=r.lst) (fz:=r.fz) (hfz:=hz) (go:=blk y) (cs:=r.cells) rfl rfl rfl (afv _) (fun _ _ _=>rfl)
     (fun y' hy'=>by cases hy';exact⟨r,hy,hz⟩) rfl (hV d hd) (by
      have:=(hI.rows y r hy).2
      cases hg:blk y with
      | none=>rw[hg]at this;exact this
      | some g =>
       rw[hg]at this
       have k0:=this.2
       unfold du at k0
       rw[fW hl]at k0
       obtain⟨cs,k1,k2,k3⟩:=k0
       exact⟨.inr ⟨y,g,rfl,hg,rfl⟩,cs,k1,k2,k3⟩)
    have e1:({ r with v:=e } : Row)=⟨e,r.ty,r.cells,r.fz,r.lst,false⟩:=by rw[<- fW hl]
    rw[e1]
    refine aD hrun ⟨bz blk d (blk y),?_,?_⟩
    ·show Inv _ _ _ _ _ _ _ (bz (bz h y none) d (some _)) _ _
     refine hI'.weaken fun x v hx =>?_
     rcases hx with hx|⟨rfl,rfl⟩
     ·exact .inl hx
     ·exact .inr ⟨hd,rfl⟩
    ·refine⟨.inr ⟨hd,rfl⟩,fun r' _ _ =>?_⟩
     rw[aq]
     exact hp.2 r hy hv
  ·split at hE
   ·simp only[afE]at hE
    exact hstay hE.symm
   ·simp only[afE]at hE
    subst hE
    exact aD hrun ⟨blk,hI.weaken fun _ _ h =>.inl h,trivial⟩
 | sl nl tight n xs =>
  unfold bF at hE
  split at hE
  ·rename_i hq;cases hq
  ·rename_i hq
   cases hq
   split at hE
   ·rename_i d τ hd hτ
    split at hE
    ·rename_i el hds
     split at hE
     ·rename_i φ hφ
      simp only[afE]at hE
      subst hE
      have hu:a.eval x=.slice none 0 0:=by
       have hp':RP w (Own M h blk) (.sl true true 0 []) (a.eval x):=hp
       generalize a.eval x=u at *
       cases hp' with
       | sl A c nl tight n xs us h1 h2 h3 h4 h5 h6 h7 h8=>obtain⟨rfl,rfl⟩:=(h3 rfl).1 rfl;rfl
      have hI':=hI.Wk (w':=w) (h1:=forget h none) (old:=none) (d:=d) (e:=e) (ty:=el) (lst:=true) (fz:=false) (go:=none) (cs:=[]) rfl rfl rfl (afv _) (fun _ _ _=>rfl)
       (fun y' hy'=>by cases hy') rfl (hV d hd) rfl
      refine aD hrun ⟨bz blk d none,?_,?_⟩
      ·refine hI'.weaken fun x v hx =>?_
       rcases hx with hx|⟨rfl,rfl⟩
       ·exact .inl hx
       ·exact .inr ⟨hd,rfl⟩
      ·refine⟨.inr ⟨hd,rfl⟩,fun r' _ _ =>.inr ⟨aq _ _ _,rfl,none,hu⟩⟩
     ·cases hE
    ·cases hE
   ·cases hE
  ·simp only[afE]at hE
   exact hstay hE.symm
 | _=>exact hstay (by simp only[bF,afE]at hE;exact hE.symm)
theorem W4 (hI:Inv N M L w0 blk V t h a w) {ty:Nat} {q:Nat->Bool} {x:Operand} {E:bt} (ho:o.op=.assign x) (hV:∀d,o.dst=some d->gR N V d e) (hE:pt T q ty e o.dst h (ev t x)=some E):dz P o a w (aV N M L w0 V t h a e o.dst E):=by
 have hx:=hI.ev x
 unfold pt at hE
 split at hE
 ·rename_i d hd
  split at hE
  ·rw[<- hd]at hE
   exact zR hI ho hV hE
  ·unfold gu at hE
   split at hE
   ·rename_i d' fr hc
    simp only[afE]at hE
    subst hE
    exact aD (v:=a.eval x) (w':=w) (by simp[execOp,ho]) (aV.Jy hI fr (hI.nG hc (hI.eO fr) hx).eX)
   ·cases hE
 ·rename_i hd
  rw[<- hd]at hE
  exact zR hI ho hV hE
theorem tV {b:Bool} {u:Value} {h:Nat->Option Row} (hr:RT w M h blk V (.bool b) u):u=.bool b:=by
 have h':RP w M (.bool b) u:=hr
 cases h';rfl
theorem ky {k:IntKind} {n:Int} {u:Value} {h:Nat->Option Row} (hr:RT w M h blk V (.int k n) u):u=.int k n:=by
 have h':RP w M (.int k n) u:=hr
 cases h';rfl
theorem BQ {s:ByteArray} {u:Value} {h:Nat->Option Row} (hr:RT w M h blk V (.str s) u):u=.string s:=by
 have h':RP w M (.str s) u:=hr
 cases h';rfl
theorem GQ (hI:Inv N M L w0 blk V t h a w) {c x y:Operand} {b:Bool} (ho:o.op=.pick c x y) (hc:ev t c=.bool b):dz P o a w (aV N M L w0 V t h a e o.dst ⟨ev t (if b then x else y),[]⟩):=by
 refine aD (v:=a.eval (if b then x else y)) (w':=w) ?_ (aV.de hI (hI.ev _))
 have h1:=hI.ev c
 rw[hc]at h1
 have h2:=tV h1
 cases b<;>simp[execOp,ho,h2,asBool]
theorem ou (zs:List Value) (hz:(zs.map kW).all aS=true) {w:World} {M:Nat->Prop} (j:Nat) (x:D) (hj:(zs.map kW)[j]? = some x):aS x=true∧RP w M x (zs.toArray.getD j undef):=by
 have hp:aS x=true:=by
  rw[afG]at hz
  exact hz x (afX hj)
 refine⟨hp,?_⟩
 rw[afs]at hj
 cases hv:zs[j]? with
 | none=>simp[hv]at hj
 | some v =>
  simp only[hv,Option.map_some,afE]at hj
  subst hj
  have hv':zs.toArray.getD j undef=v:=by simp[hv]
  rw[hv']
  have:=Wg w M (fun _=>none) (fun _=>none) (fun _ _=>True) v
  generalize kW v=d at *
  cases d<;>first|exact this|simp[aS]at hp
theorem BP {d e:Nat} {g:Nat×Nat} {o:Nat} {V':Nat->Nat->Prop} {h':Nat->Option Row} {blk':Nat->Option (Nat×Nat)} (hV:V' d e) (hb:blk' d=some g):RT w M h' blk' V' (.ptr d e o) (.pointer (some ⟨g.1,g.2+o,none⟩)) :=
 ⟨hV,fun _ _ _=>⟨g,hb,rfl⟩⟩
theorem PM {hint:Nat->Option Nat} (hT:gm P T) (hI:Inv N M L w0 blk V t h a w) {ty d:Nat} {τ:Ty} (ho:o.op=.alloc ty) (hd:o.dst=some d) (hτ:T ty=some τ) (hV:gR N V d e) (hz:(τ.zero.map kW).all aS=true) :
  dz P o a w (aV N M L w0 V t h a e o.dst ⟨match hint d with|some y =>.pm d e y|none =>.ptr d e 0,[(d,some ⟨e,ty,τ.zero.map kW,false,false,false⟩)]⟩):=by
 obtain⟨z,hz1,hz2⟩:=ig (hT ty τ hτ) w
 have hI':=hI.alloc (d:=d) (e:=e) (ty:=ty) (lst:=false) (cs:=τ.zero.map kW) (vs:=τ.zero.toArray) hV (by simp) (fun j x hj=>ou τ.zero hz j x hj)
 refine aD (v := .pointer (some ⟨w.heap.size,0,none⟩)) (w':=w.alloc (.cells τ.zero.toArray ty)) ?_ ⟨bz blk d (some (w.heap.size,0)),?_,?_⟩
 ·simp[execOp,ho,Instr.alloc,hz1,newVar,newRow,hz2]
 ·refine hI'.weaken fun x v hx =>?_
  rcases hx with hx|⟨rfl,rfl⟩
  ·exact .inl hx
  ·exact .inr ⟨hd,rfl⟩
 ·cases hint d with
  | none=>exact BP (g:=(w.heap.size,0)) (o:=0) (.inr ⟨hd,rfl⟩) (aq _ _ _)
  | some y=>exact⟨.inr ⟨hd,rfl⟩,fun _ _ _=>⟨(w.heap.size,0),aq _ _ _,rfl⟩⟩
theorem yX {fr:List Nat} {x:Nat} (hx:fr.contains x=false):aH h (gG h fr) x=h x:=by
 rw[yW,if_neg (by simpa using hx)]
theorem W6 (hI:Inv N M L w0 blk V t h a w) {ty d:Nat} {x:Operand} {cs:List D} {fr:List Nat} (ho:o.op=.box ty x) (hd:o.dst=some d) (hV:gR N V d e) (hc:dY h (ev t x)=some (cs,fr)) :
  dz P o a w (aV N M L w0 V t h a e o.dst ⟨.ptr d e 0,gG h fr++[(d,some ⟨e,ty,cs,false,false,false⟩)]⟩):=by
 obtain⟨h1,h2⟩:=hI.dY hc (hI.eO fr) (hI.ev x)
 have hI':=(hI.freeze fr).alloc (d:=d) (e:=e) (ty:=ty) (lst:=false) (cs:=cs) (vs:=(a.eval x).cells) hV (by omega) h2
 refine aD (v := .pointer (some ⟨w.heap.size,0,none⟩)) (w':=w.alloc (.cells (a.eval x).cells ty)) ?_ ⟨bz blk d (some (w.heap.size,0)),?_,?_⟩
 ·simp[execOp,ho,Instr.box,newVar,newRow]
 ·show Inv _ _ _ _ _ _ _ (aH h (gG h fr++[(d,some ⟨e,ty,cs,false,false,false⟩)])) _ _
  rw[fA]
  refine hI'.weaken fun x v hx =>?_
  rcases hx with hx|⟨rfl,rfl⟩
  ·exact .inl hx
  ·exact .inr ⟨hd,rfl⟩
 ·exact BP (g:=(w.heap.size,0)) (o:=0) (.inr ⟨hd,rfl⟩) (aq _ _ _)
theorem Inv.rowAt (hI:Inv N M L w0 blk V t h a w) {x:Nat} {r:Row} {g:Nat×Nat} (hx:h x=some r) (hg:blk x=some g) (hmp:r.mp=false):At w (Own M h blk) g.1 g.2 r.cells:=by
 obtain⟨cs,h3,h4,h5⟩:=hI.Dt hx hg hmp
 intro j d hj
 have hlt:=(afY.1 hj).1
 exact⟨(h5 j d hj).1,cs.getD (g.2+j) undef,aK h3 (by omega),(h5 j d hj).2⟩
theorem RP.adg {M':Nat->Prop} {xs:List D} {u:Value} (hr:RP w M' (.ip xs) u):∃ad,u=.pointer (some ad)∧(xs≠[]->∃b o,ad=⟨b,o,none⟩∧At w M' b o xs):=by
 cases hr with
 | ip xs ad us h6 h7 h8 =>
  refine⟨ad,rfl,fun hne =>?_⟩
  obtain⟨b,o,rfl,_,_,g3⟩:=h6 hne
  exact⟨b,o,rfl,fun j x hj=>⟨h8 x (afX hj),us j,g3 j (afY.1 hj).1,h7 j x hj⟩⟩
theorem oE (hT:gm P T) (hI:Inv N M L w0 blk V t h a w) {ty:Nat} {p:Operand} {τ:Ty} {g c:Nat} {xs:List D} {d:D} (ho:o.op=.load ty p) (hτ:T ty=some τ) (hp:a.eval p=.pointer (some ⟨g,c,none⟩))
  (hat:At w (Own M h blk) g c xs) (hl:xs.length=τ.size) (hd:iB τ xs=some d):dz P o a w (aV N M L w0 V t h a e o.dst ⟨d,[]⟩):=by
 obtain⟨us,h1,h2,h3,h4⟩:=hat.aed
 have hone:τ.ds.nd=false->xs.length=1∧xs=[d]:=by
  intro hf
  simp only[iB,hf,af5,if_false]at hd
  split at hd
  ·simp only[afE]at hd;subst hd;exact⟨rfl,rfl⟩
  ·cases hd
 have hrun:=iZ (hT ty τ hτ) w g c us (by rw[h1,hl]) h2 (fun hf=>by rw[h1];exact (hone hf).1)
 refine aD (v:=if τ.ds.nd then .agg us.toArray else us.getD 0 undef) (w':=w) ?_ (aV.de hI ?_)
 ·simp[execOp,ho,Instr.loadAt,Instr.sureAddr,hp,hrun]
 ·apply bo
  cases ha:τ.ds.nd with
  | true =>
   simp only[iB,ha,if_true,afE]at hd
   subst hd
   exact .agg xs us h1 h3 h4
  | false =>
   obtain⟨_,rfl⟩:=hone ha
   exact h3 0 d rfl
theorem Jl (hT:gm P T) (hI:Inv N M L w0 blk V t h a w) {ty:Nat} {p:Operand} {τ:Ty} {x c:Nat} {r:Row} {g:Nat×Nat} {d:D} (ho:o.op=.load ty p) (hτ:T ty=some τ) (hp:a.eval p=.pointer (some ⟨g.1,g.2+c,none⟩))
  (hx:h x=some r) (hmp:r.mp=false) (hz:r.fz=true) (hl:r.lst=false) (hg:blk x=some g) (hle:c+τ.size<=r.cells.length) (hd:PF τ.ds.nd ((r.cells.drop c).take τ.size)=some d):dz P o a w (aV N M L w0 V t h a e o.dst ⟨d,[]⟩):=by
 have hlen:((r.cells.drop c).take τ.size).length=τ.size:=by simp;omega
 generalize hcs:(r.cells.drop c).take τ.size=cs at hd hlen
 unfold PF at hd
 split at hd
 ·rename_i y v s o' n
  simp only[afE]at hd
  have hs1:τ.size=1:=by simpa using hlen.symm
  have hj:r.cells[c]? = some (.ali y v s o' n):=by
   have:((r.cells.drop c).take τ.size)[0]? = some (.ali y v s o' n):=by rw[hcs];rfl
   rw[b7,if_pos (by omega)]at this
   simpa using this
  obtain⟨u,h1,h2⟩:=hI.ali x r g hx hz hl hg c _ (.buf y v s o' n) hj rfl
  have hrun:=iZ (hT ty τ hτ) w g.1 (g.2+c) [u] (by simpa using hs1.symm) (fun j v hj=>by
   cases j with
   | zero=>simp only[List.getElem?_cons_zero,afE]at hj;subst hj;simpa using h1
   | succ j=>simp at hj) (fun _=>rfl)
  refine aD (v:=if τ.ds.nd then .agg [u].toArray else [u].getD 0 undef) (w':=w) ?_ (aV.de hI ?_)
  ·simp[execOp,ho,Instr.loadAt,Instr.sureAddr,hp,hrun]
  ·cases hA:τ.ds.nd with
   | false =>
    rw[hA]at hd
    simp only[af5,if_false]at hd
    subst hd
    exact h2
   | true =>
    rw[hA]at hd
    simp only[if_true]at hd
    subst hd
    obtain⟨_,u2,c2,r2⟩:=hI.rowAt hx hg hmp c _ hj
    rw[h1]at c2
    cases c2
    exact⟨u,rfl,r2.oW rfl,h2⟩
 ·cases hd
theorem UF (hT:gm P T) (hI:Inv N M L w0 blk V t h a w) {ty:Nat} {p:Operand} {τ:Ty} {E:bt} (ho:o.op=.load ty p) (hτ:T ty=some τ) (hE:df τ h (ev t p)=some E):dz P o a w (aV N M L w0 V t h a e o.dst E):=by
 have hp:=hI.ev p
 generalize ev t p=q at *
 cases q with
 | ptr x v c =>
  simp only[df]at hE
  split at hE
  ·rename_i r hl
   split at hE
   ·rename_i hle
    split at hE
    ·rename_i d hd
     simp only[afE]at hE
     subst hE
     obtain⟨hx,hv⟩:=bU hl
     obtain⟨g,hg,hp'⟩:=hp.2 r hx hv
     have:=((hI.rowAt hx hg (fW hl)).drop c).take τ.size
     exact oE hT hI ho hτ hp' this (by simp;omega) hd
    ·cases hE
   ·cases hE
  ·cases hE
 | ip xs =>
  simp only[df]at hE
  split at hE
  ·rename_i hle
   split at hE
   ·rename_i d hd
    simp only[afE]at hE
    subst hE
    obtain⟨ad,h1,h2⟩:=RP.adg (M':=Own M h blk) hp
    by_cases hne:xs=[]
    ·subst hne
     have hz:τ.size=0:=by simpa using hle
     have hA:τ.ds.nd=true:=by
      cases hA:τ.ds.nd with
      | true=>rfl
      | false=>simp[iB,hA]at hd
     have hsz:=run_sizeOf (hT ty τ hτ) w
     refine aD (v := .agg #[]) (w':=w) ?_ (aV.de hI ?_)
     ·simp[execOp,ho,Instr.loadAt,Instr.sureAddr,h1,loadVar,ko (hT ty τ hτ),hA,hsz,hz,loadCells,loadCellsFrom]
     ·simp only[iB,hA,if_true,List.take_nil,afE]at hd
      subst hd
      exact bo (.agg [] [] rfl (fun j x hj=>by simp at hj) (fun x hx=>by simp at hx))
    ·obtain⟨b,c,rfl,g3⟩:=h2 hne
     exact oE hT hI ho hτ h1 (At.take g3 _) (by simp;omega) hd
   ·cases hE
  ·cases hE
 | _=>simp[df]at hE
theorem wA {h:Nat->Option Row} {x v:Nat} {r:Row} {y s n:Nat} (hl:kd h x v=some (r,y,s,n)):h x=some r∧r.v=v∧r.mp=true∧r.cells=[.ph y s n]:=by
 unfold kd at hl
 split at hl
 ·rename_i r' hx
  split at hl
  ·rename_i hc
   split at hl
   ·rename_i y' s' n' hcs
    simp only[afE,Prod.mk.injEq]at hl
    obtain⟨rfl,rfl,rfl,rfl⟩:=hl
    exact⟨hx,hc.1,hc.2,hcs⟩
   ·cases hl
  ·cases hl
 ·cases hl
theorem W9 (hT:gm P T) (hI:Inv N M L w0 blk V t h a w) {ty:Nat} {p:Operand} {τ:Ty} {x v y:Nat} {E:bt} (ho:o.op=.load ty p) (hτ:T ty=some τ) (hp:RT w (Own M h blk) h blk V (.pm x v y) (a.eval p)) (hE:nL τ h x v y (kd h x v)=some E):dz P o a w (aV N M L w0 V t h a e o.dst E):=by
 cases hl:kd h x v with
 | none=>rw[hl]at hE;cases hE
 | some q =>
  obtain⟨ry,y',s,n⟩:=q
  rw[hl]at hE
  simp only[nL]at hE
  obtain⟨hx,hv,hmp,hcs⟩:=wA hl
  split at hE
  ·rename_i r hy
   split at hE
   ·rename_i hcond
    obtain⟨rfl,c2,c3,c4,c5,c6⟩:=hcond
    simp only[afE]at hE
    subst hE
    obtain⟨g,hg,hp'⟩:=hp.2 ry hx hv
    obtain⟨_,u,h1,h2⟩:=hI.pha x ry g hx hmp hg 0 _ _ _ (by rw[hcs];rfl)
    have hrun:=iZ (hT ty τ hτ) w g.1 (g.2+0) [u] (by simpa using c6.symm) (fun j v hj=>by
     cases j with
     | zero=>simp only[List.getElem?_cons_zero,afE]at hj;subst hj;simpa using h1
     | succ j=>simp at hj) (fun _=>rfl)
    have hless:=hI.eO [y']
    have hk:∀b,b<w.heap.size->¬Own M h blk b->b<w.heap.size∧¬Own M (aH h (gG h [y'])) blk b∧w.heap[b]? = w.heap[b]?:=fun b h1 h2=>⟨h1,fun hb=>h2 (hless.le b hb),rfl⟩
    have hsl:RP w (Own M (aH h (gG h [y'])) blk) (.sl false false n r.cells) u:=by
     rcases h2 r hy with⟨g',c,N',ty',g0,rfl,g2,g3,g4,g5⟩|⟨g0,rfl,A,rfl⟩
     ·obtain⟨arr,k1,k2,k3⟩:=hI.Dt hy g0 c3
      refine .sl (some ⟨g'.1,g'.2,none⟩) c false false n _ (fun j=>arr.getD (g'.2+j) undef) g3 g4 (fun h=>by cases h) (fun h=>by cases h) (fun h=>by cases h) (fun _=>⟨g'.1,g'.2,rfl,hI.lt hy g0,hless.no y' (by simp) r g' hy g0,fun j hj=>aK k1 (by omega)⟩) (fun j d hj=>(k3 j d hj).2.keep hk) (fun d hd =>?_)
      obtain⟨j,hj⟩:=afR hd
      exact (k3 j d hj).1
     ·have:=(hI.rows y' r hy).2
      rw[g0]at this
      have hc:r.cells=[]:=this
      rw[hc]
      exact .sl A 0 false false 0 [] (fun _=>undef) (afv _) (afw _) (fun h=>by cases h) (fun _=>⟨rfl,rfl⟩) (fun h=>by cases h) (fun h=>absurd rfl h) (fun j d hj=>by simp at hj) (fun d hd=>by simp at hd)
    simp only[Nat.add_zero]at hrun hp'
    refine aD (v:=if τ.ds.nd then .agg [u].toArray else [u].getD 0 undef) (w':=w) ?_ (aV.Jy hI [y'] ?_)
    ·simp[execOp,ho,Instr.loadAt,Instr.sureAddr,hp',hrun]
    ·cases hA:τ.ds.nd with
     | false=>exact hsl
     | true =>
      refine .agg [_] [u] rfl (fun j d hj =>?_) (fun d hd =>?_)
      ·cases j with
       | zero=>simp only[List.getElem?_cons_zero,afE]at hj;subst hj;exact hsl
       | succ j=>simp at hj
      ·simp only[afS]at hd
       subst hd
       rfl
   ·cases hE
  ·cases hE
theorem aaf (hT:gm P T) (hI:Inv N M L w0 blk V t h a w) {ty:Nat} {p:Operand} {τ:Ty} {E:bt} (ho:o.op=.load ty p) (hτ:T ty=some τ) (hE:lY τ h (ev t p)=some E):dz P o a w (aV N M L w0 V t h a e o.dst E):=by
 have hp:=hI.ev p
 have hold:=UF (P:=P) (o:=o) (e:=e) (E:=E) hT hI ho hτ
 generalize ev t p=q at *
 cases q with
 | ptr x v c =>
  simp only[lY]at hE
  cases hl:live h x v with
  | none=>rw[hl]at hE;cases hE
  | some r =>
   rw[hl]at hE
   simp only[my]at hE
   split at hE
   ·rename_i hfl
    simp only[af6,af7]at hfl
    split at hE
    ·rename_i hle
     split at hE
     ·rename_i d had
      simp only[afE]at hE
      subst hE
      obtain⟨hx,hv⟩:=bU hl
      obtain⟨g,hg,hp'⟩:=hp.2 r hx hv
      exact Jl hT hI ho hτ hp' hx (fW hl) hfl.1 hfl.2 hg hle had
     ·exact hold hE
    ·cases hE
   ·exact hold hE
 | pm x v y =>
  simp only[lY]at hE
  split at hE
  ·rename_i r hl
   split at hE
   ·rename_i y' v' hcs
    split at hE
    ·rename_i hcond
     obtain⟨c1,c2,c3,c4⟩:=hcond
     simp only[afE]at hE
     subst hE
     obtain⟨hx,hv⟩:=bU hl
     obtain⟨g,hg,hp'⟩:=hp.2 r hx hv
     obtain⟨u,h1,h2⟩:=hI.ali x r g hx c1 c2 hg 0 (.alm y' v') (.mp y' v') (by rw[hcs];rfl) rfl
     have hrun:=iZ (hT ty τ hτ) w g.1 (g.2+0) [u] (by simpa using c3.symm) (fun j v hj=>by
      cases j with
      | zero=>simp only[List.getElem?_cons_zero,afE]at hj;subst hj;simpa using h1
      | succ j=>simp at hj) (fun _=>rfl)
     refine aD (v:=u) (w':=w) ?_ (aV.de hI h2)
     rw[c4]at hrun
     simp only[Nat.add_zero]at hrun hp'
     simp[execOp,ho,Instr.loadAt,Instr.sureAddr,hp',hrun]
    ·cases hE
   ·cases hE
  ·exact W9 hT hI ho hτ hp hE
 | _=>exact hold hE
theorem o0 (cur:Array Value) (us:List Value) (c j:Nat) (hle:c+us.length<=cur.size) :
  (cur.toList.take c++us++cur.toList.drop (c+us.length)).toArray.getD j undef=if j<c then cur.getD j undef else if j<c+us.length then us.getD (j-c) undef else cur.getD j undef:=by
 have hmin:min c cur.size=c:=by omega
 simp only[afA,List.getElem?_toArray,af8]
 by_cases h1:j<c
 ·rw[if_pos h1,af9 (by simp;omega),af9 (by simp;omega),afL,if_pos h1]
  simp
 ·rw[if_neg h1]
  by_cases h2:j<c+us.length
  ·rw[if_pos h2,af9 (by simp;omega),aga (by simp;omega)]
   simp[hmin]
  ·rw[if_neg h2,aga (by simp;omega),afM]
   have:c+us.length+(j-(List.take c cur.toList++us).length)=j:=by simp;omega
   rw[this]
   simp
theorem kh {cells cs:List D} {c j:Nat} (hle:c+cs.length<=cells.length):(putCells cells c cs)[j]? = if j<c then cells[j]? else if j<c+cs.length then cs[j-c]? else cells[j]?:=by
 have hmin:min c cells.length=c:=by omega
 unfold putCells
 by_cases h1:j<c
 ·rw[if_pos h1,af9 (by simp;omega),af9 (by simp;omega),afL,if_pos h1]
 ·rw[if_neg h1]
  by_cases h2:j<c+cs.length
  ·rw[if_pos h2,af9 (by simp;omega),aga (by simp;omega)]
   simp[hmin]
  ·rw[if_neg h2,aga (by simp;omega),afM]
   congr 1
   simp;omega
theorem gU {cells cs:List D} {c:Nat} (hle:c+cs.length<=cells.length):(putCells cells c cs).length=cells.length:=by
 simp[putCells];omega
theorem spliced {w:World} {M:Nat->Prop} {cells cs:List D} {cur:Array Value} {us:List Value} {b c:Nat} (hle:c+cs.length<=cells.length) (hus:us.length=cs.length) (hcur:b+cells.length<=cur.size)
  (h5:∀j d,cells[j]? = some d->aS d=true∧RP w M d (cur.getD (b+j) undef)) (u2:∀j d,cs[j]? = some d->aS d=true∧RP w M d (us.getD j undef)) (j:Nat) (d:D) (hj:(putCells cells c cs)[j]? = some d) :
  aS d=true∧RP w M d ((cur.toList.take (b+c)++us++cur.toList.drop (b+c+us.length)).toArray.getD (b+j) undef):=by
 rw[kh hle]at hj
 rw[o0 _ _ _ _ (by omega),hus]
 split
 ·rename_i h1
  rw[if_pos (by omega)]at hj
  exact h5 j d hj
 ·rename_i h1
  rw[if_neg (by omega)]at hj
  split
  ·rename_i h2
   rw[if_pos (by omega)]at hj
   have:b+j-(b+c)=j-c:=by omega
   rw[this]
   exact u2 _ d hj
  ·rename_i h2
   rw[if_neg (by omega)]at hj
   exact h5 j d hj
theorem Dr (b:Bool) (cs:List D):(oX b cs).length=cs.length:=by cases b<;>simp[oX]
theorem Q5 {w:World} {M:Nat->Prop} {cs:List D} {us:List Value} {b:Bool} (u2:∀j d,cs[j]? = some d->aS d=true∧RP w M d (us.getD j undef)) (j:Nat) (d:D) (hj:(oX b cs)[j]? = some d):aS d=true∧RP w M d (us.getD j undef):=by
 cases b with
 | false=>exact u2 j d hj
 | true =>
  simp only[oX,if_true,afs,aft]at hj
  obtain⟨x,hx,rfl⟩:=hj
  obtain⟨k1,k2⟩:=u2 j x hx
  exact⟨by rw[kQ];exact k1,k2.canon⟩
theorem PU (hT:gm P T) (hI:Inv N M L w0 blk V t h a w) {ty:Nat} {p x:Operand} {τ:Ty} {E:bt} (ho:o.op=.store ty p x) (hτ:T ty=some τ) (hE:cB τ h (ev t p) (ev t x)=some E):dz P o a w (aV N M L w0 V t h a e o.dst E):=by
 have hp:=hI.ev p
 have hq:=hI.ev x
 generalize ev t p=q at *
 generalize ev t x=z at *
 cases q with
 | ptr y v c =>
  simp only[cB]at hE
  split at hE
  ·rename_i r hl
   split at hE
   ·rename_i cs fr hc
    split at hE
    ·rename_i hcond
     obtain⟨c1,c2,c3,c4⟩:=hcond
     simp only[afE]at hE
     subst hE
     obtain⟨hx,hv⟩:=bU hl
     obtain⟨g,hg,hp'⟩:=hp.2 r hx hv
     have hx':aH h (gG h fr) y=some r:=by rw[yX c4];exact hx
     have hIf:=hI.freeze fr
     obtain⟨u1,u2⟩:=hI.dY hc (hI.eO fr) hq
     obtain⟨cur,h3,h4,h5⟩:=hIf.Dt hx' hg (fW hl)
     have hrun:=run_storeCells_at P g.1 (g.2+c) r.ty (a.eval x).cells.toList 0 cur w h3 (by simp only[Array.length_toList];omega) (fun v hv=>by
      obtain⟨j,hj⟩:=afR hv
      have hjl:=(afY.1 hj).1
      simp only[Array.length_toList]at hjl
      obtain⟨q1,q2⟩:=u2 j _ (afI (by omega))
      have:(a.eval x).cells.getD j undef=v:=by simp at hj;simp[hj]
      rw[this]at q2
      exact q2.oW q1)
     rw[af4]at hrun
     have hul:(a.eval x).cells.toList.length=cs.length:=by simp only[Array.length_toList];exact u1
     have hlen:(cur.toList.take (g.2+c)++(a.eval x).cells.toList++cur.toList.drop (g.2+c+(a.eval x).cells.toList.length)).toArray.size=cur.size:=by
      simp;omega
     have hpl:=Dr r.lst cs
     have hw:=hIf.write hx' c3 hg (fW hl) (cs:=putCells r.cells c (oX r.lst cs)) h3 hlen (by rw[hlen,gU (by omega)];exact h4)
      (fun j d hj=>spliced (by omega) (by omega) h4 h5 (Q5 (fun j d hj=>by simpa [List.getD] using u2 j d hj)) j d hj)
     refine .inr (.inl ⟨w.setRow g.1 (cur.toList.take (g.2+c)++(a.eval x).cells.toList++cur.toList.drop (g.2+c+(a.eval x).cells.toList.length)).toArray,?_,blk,?_,trivial⟩)
     ·have hsz:(a.eval x).cells.size=τ.size:=by omega
      simp[execOp,ho,Instr.storeAt,Instr.sureAddr,hp',storeVar,run_sizeOf (hT ty τ hτ),hsz,hrun]
     ·rw[fA]
      exact hw.weaken fun _ _ h =>.inl h
    ·cases hE
   ·cases hE
  ·cases hE
 | _=>simp[cB]at hE
theorem GR (hT:gm P T) (hI:Inv N M L w0 blk V t h a w) {ty:Nat} {p x:Operand} {τ:Ty} {y:Nat} {r:Row} {g:Nat×Nat} {c d:D} {u':Value} (ho:o.op=.store ty p x) (hτ:T ty=some τ) (c1:τ.size=1) (c3:r.cells.length=1) (c4:r.fz=false) (hmp:r.mp=false)
  (hx:h y=some r) (hg:blk y=some g) (hp':a.eval p=.pointer (some ⟨g.1,g.2+0,none⟩)) (hu:(a.eval x).cells = #[u']) (hone:u'.oneCell'=true) (hc:alD c=some d) (hpl:aS c=true) (hrp:∀w' M',RP w' M' c u') (hq2:RT w (Own M h blk) h blk V d u') :
  dz P o a w (aV N M L w0 V t h a e o.dst ⟨.und,[(y,some ⟨r.v,r.ty,[c],true,false,false⟩)]⟩):=by
 obtain⟨cur,h3,h4,h5⟩:=hI.Dt hx hg hmp
 have hrun:=run_storeCells_at P g.1 (g.2+0) r.ty [u'] 0 cur w h3 (by simp;omega) (fun v hv=>by
  simp only[afS]at hv
  subst hv
  exact hone)
 rw[af4]at hrun
 have hsize:cur.size=(cur.toList.take (g.2+0)++[u']++cur.toList.drop (g.2+0+[u'].length)).toArray.size:=by simp;omega
 have hcu:(cur.toList.take (g.2+0)++[u']++cur.toList.drop (g.2+0+[u'].length)).toArray.getD g.2 undef=u':=by
  simp only[afA]
  have:(cur.toList.take g.2).length=g.2:=by simp;omega
  simp[agc,this]
 generalize hnv:(cur.toList.take (g.2+0)++[u']++cur.toList.drop (g.2+0+[u'].length)).toArray=nv at hrun hsize hcu
 have hnew:(w.setRow g.1 nv).heap[g.1]? = some (.cells nv r.ty (0,0)):=setRow_heap w g.1 cur nv r.ty (0,0) h3
 have hhs:(w.setRow g.1 nv).heap.size=w.heap.size:=by simp[World.setRow]
 have hheap:∀b,b≠g.1->(w.setRow g.1 nv).heap[b]? = w.heap[b]?:=by
  intro b hb
  simp only[World.setRow,afF]
  rw[if_neg (Ne.symm hb)]
 have hw:=hI.rewrite (fz:=true) (lst:=false) (cs:=[c]) (w':=w.setRow g.1 nv) hx c4 rfl rfl rfl (by rw[hhs];exact afv _) (fun b _ hb=>hheap b (hb g hg)) (by
  rw[hg]
  refine⟨by simp[World.shape?,hnew,h3,hsize],nv,hnew,by simp;omega,fun j d hj =>?_⟩
  cases j with
  | zero =>
   simp only[List.getElem?_cons_zero,afE]at hj
   subst hj
   rw[af4,hcu]
   exact⟨hpl,hrp _ _⟩
  | succ j=>simp at hj) (fun _ _ g' hg' j c' d' hj hd'=>by
  rw[hg]at hg'
  cases hg'
  cases j with
  | zero =>
   simp only[List.getElem?_cons_zero,afE]at hj
   subst hj
   rw[hc]at hd'
   cases hd'
   refine⟨u',?_,hq2⟩
   rw[af4,aK hnew (by omega),hcu]
  | succ j=>simp at hj)
 refine .inr (.inl ⟨w.setRow g.1 nv,?_,blk,?_,trivial⟩)
 ·simp[execOp,ho,Instr.storeAt,Instr.sureAddr,hp',storeVar,run_sizeOf (hT ty τ hτ),c1,hu,hrun]
 ·exact hw.weaken fun _ _ h =>.inl h
theorem UI (hT:gm P T) (hI:Inv N M L w0 blk V t h a w) (hP:∀x v,V x v->x<N∨2*PK<=x) {ty:Nat} {p x:Operand} {τ:Ty} {y x1 s1 n1:Nat} {r q:Row} {g:Nat×Nat} {u':Value} (ho:o.op=.store ty p x) (hτ:T ty=some τ) (c1:τ.size=1) (c3:r.cells.length=1) (c4:r.fz=false) (hmp:r.mp=false)
  (hx:h y=some r) (hyN:y<N) (hg:blk y=some g) (hp':a.eval p=.pointer (some ⟨g.1,g.2+0,none⟩)) (hu:(a.eval x).cells = #[u']) (hone:u'.oneCell'=true) (hx1:h x1=some q) (hqf:q.fz=false) (hql:q.lst=true) (hqm:q.mp=false) (hne:y≠x1)
  (hrel:(∃g' o' c N' t,blk x1=some g'∧u'=.slice (some ⟨g'.1,o',none⟩) n1 c∧(0<c∨0=0->o'=g'.2+0∧c*s1+o'=N')∧n1<=c∧c<=maxLen∧w.shape? g'.1=some (t,N'))∨(blk x1=none∧n1=0∧∃A,u'=.slice A 0 0)) :
  dz P o a w (aV N M L w0 V t h a e o.dst ⟨.und,[(x1,none),(PK+y,some ⟨0,q.ty,q.cells,false,true,false⟩),(y,some ⟨r.v,r.ty,[.ph (PK+y) s1 n1],false,false,true⟩)]⟩):=by
 obtain⟨cur,h3,h4,h5⟩:=hI.Dt hx hg hmp
 have hrun:=run_storeCells_at P g.1 (g.2+0) r.ty [u'] 0 cur w h3 (by simp;omega) (fun v hv=>by
  simp only[afS]at hv
  subst hv
  exact hone)
 rw[af4]at hrun
 have hsize:cur.size=(cur.toList.take (g.2+0)++[u']++cur.toList.drop (g.2+0+[u'].length)).toArray.size:=by simp;omega
 have hcu:(cur.toList.take (g.2+0)++[u']++cur.toList.drop (g.2+0+[u'].length)).toArray.getD g.2 undef=u':=by
  simp only[afA]
  have:(cur.toList.take g.2).length=g.2:=by simp;omega
  simp[agc,this]
 generalize hnv:(cur.toList.take (g.2+0)++[u']++cur.toList.drop (g.2+0+[u'].length)).toArray=nv at hrun hsize hcu
 have hnew:(w.setRow g.1 nv).heap[g.1]? = some (.cells nv r.ty (0,0)):=setRow_heap w g.1 cur nv r.ty (0,0) h3
 have hhs:(w.setRow g.1 nv).heap.size=w.heap.size:=by simp[World.setRow]
 have hheap:∀b,b≠g.1->(w.setRow g.1 nv).heap[b]? = w.heap[b]?:=by
  intro b hb
  simp only[World.setRow,afF]
  rw[if_neg (Ne.symm hb)]
 have hbig:=hI.big
 have hpk:PK=1000000:=rfl
 have hyk:y≠PK+y:=by omega
 have hV0:∀v,¬V (PK+y) v:=fun v hv=>by have:=hP _ _ hv;omega
 have hrow1:=(hI.rows x1 q hx1).2
 have hown1:∀b,Own M (forget h (some x1)) blk b->Own M h blk b:=fun b hb=>by
  rcases hb with hb|⟨z,r',g',hz,hz2,hz3,hz4⟩
  ·exact .inl hb
  ·simp only[forget]at hz
   by_cases hzx:z=x1
   ·subst hzx;rw[aq]at hz;cases hz
   ·rw[au _ _ hzx]at hz
    exact .inr ⟨z,r',g',hz,hz2,hz3,hz4⟩
 have hA:=hI.Wm (w':=w) (h1:=forget h (some x1)) (old:=some x1) (d:=PK+y) (r0:=⟨0,q.ty,q.cells,false,true,false⟩) (go:=blk x1) (y0:=y) rfl rfl rfl (afv _) (fun _ _ _=>rfl) (fun y' hy'=>by cases hy';exact⟨q,hx1,hqf⟩) rfl rfl hyN hV0
  (fun r' hr'=>by
   simp only[forget]at hr'
   rw[au _ _ hne,hx]at hr'
   cases hr'
   exact hmp) (by
  cases hb:blk x1 with
  | none=>rw[hb]at hrow1;exact hrow1
  | some g' =>
   obtain⟨arr,k1,k2,k3⟩:=hI.Dt hx1 hb hqm
   refine⟨.inr ⟨x1,g',rfl,hb,rfl⟩,arr,k1,k2,fun j d hj=>⟨(k3 j d hj).1,(k3 j d hj).2.keep fun b q1 q2=>⟨q1,?_,rfl⟩⟩⟩
   rintro (hn|rfl)
   ·exact q2 (hown1 b hn)
   ·exact q2 (.inr ⟨x1,q,g',hx1,hqf,hb,rfl⟩)) rfl
 have hxA:bz (forget h (some x1)) (PK+y) (some (⟨0,q.ty,q.cells,false,true,false⟩:Row)) y=some r:=by
  rw[au _ _ hyk]
  simp only[forget]
  rw[au _ _ hne,hx]
 have hgA:bz blk (PK+y) (blk x1) y=some g:=by rw[au _ _ hyk,hg]
 have hB:=hA.iH (r0:=⟨r.v,r.ty,[.ph (PK+y) s1 n1],false,false,true⟩) (w':=w.setRow g.1 nv) hxA c4 rfl rfl rfl rfl (by rw[hhs];exact afv _) (fun b _ hb=>hheap b (hb g hgA)) (by
  rw[hgA]
  refine⟨by simp[World.shape?,hnew,h3,hsize],.inr ⟨fun d hd=>by simp only[afS]at hd;subst hd;rfl,nv,hnew,by simp;omega,fun j d hj =>?_⟩⟩
  cases j with
  | zero=>simp only[List.getElem?_cons_zero,afE]at hj;subst hj;trivial
  | succ j=>simp at hj) (fun h=>by cases h) (fun _ g' hg' j x' s n hc=>by
  rw[hgA]at hg'
  cases hg'
  cases j with
  | succ j=>simp at hc
  | zero =>
  simp only[List.getElem?_cons_zero,afE,D.ph.injEq]at hc
  obtain⟨rfl,rfl,rfl⟩:=hc
  refine⟨⟨by omega,.inl rfl⟩,u',by rw[af4,aK hnew (by omega),hcu],fun r' _ =>?_⟩
  rw[aq]
  rcases hrel with⟨g',o',c,N',t,k0,k1,k2,k3,k4,k5⟩|hrel
  ·obtain⟨k6,k7⟩:=k2 (.inr rfl)
   rw[af4]at k6
   subst k6
   exact .inl ⟨g',c,N',t,k0,k1,k7,k3,k4,k5⟩
  ·exact .inr hrel)
 refine .inr (.inl ⟨w.setRow g.1 nv,?_,bz blk (PK+y) (blk x1),?_,trivial⟩)
 ·simp[execOp,ho,Instr.storeAt,Instr.sureAddr,hp',storeVar,run_sizeOf (hT ty τ hτ),c1,hu,hrun]
 ·exact hB.weaken fun _ _ h =>.inl h
theorem Xf (hT:gm P T) (hI:Inv N M L w0 blk V t h a w) (hP:∀x v,V x v->x<N∨2*PK<=x) {ty:Nat} {p x:Operand} {τ:Ty} {E:bt} (ho:o.op=.store ty p x) (hτ:T ty=some τ) (hE:cJ τ h (ev t p) (ev t x)=some E):dz P o a w (aV N M L w0 V t h a e o.dst E):=by
 have hp:=hI.ev p
 have hq:=hI.ev x
 have hold:=PU (P:=P) (o:=o) (e:=e) (E:=E) hT hI ho hτ
 generalize ev t p=q at *
 generalize ev t x=z at *
 cases z with
 | box1 x1 v1 s1 o1 n1 =>
  cases q with
  | ptr y v c =>
   simp only[cJ]at hE
   split at hE
   ·rename_i r hl
    split at hE
    ·rename_i hcond
     obtain⟨c1,rfl,c3,c4,c5⟩:=hcond
     simp only[afE]at hE
     subst hE
     obtain⟨hx,hv⟩:=bU hl
     obtain⟨g,hg,hp'⟩:=hp.2 r hx hv
     obtain⟨u',hu,hone,hq'⟩:=hq
     exact GR hT hI ho hτ c1 c3 c4 (fW hl) hx hg hp' (by rw[hu];rfl) hone rfl rfl (fun _ _ =>.ali _ _ _ _ _ _ hone) (show RT w (Own M h blk) h blk V (.buf x1 v1 s1 o1 n1) u' from hq')
    ·cases hE
   ·cases hE
  | pm y v k =>
   simp only[cJ]at hE
   split at hE
   ·rename_i r q hl hl1
    split at hE
    ·rename_i hcond
     obtain⟨c1,rfl,c3,c4,c5,c6,c7,c8,c9,rfl,c10⟩:=hcond
     simp only[afE]at hE
     subst hE
     obtain⟨hx,hv⟩:=bU hl
     obtain⟨hx1,hv1⟩:=bU hl1
     obtain⟨g,hg,hp'⟩:=hp.2 r hx hv
     obtain⟨u',hu,hone,hq'⟩:=hq
     exact UI hT hI hP ho hτ c1 c3 c4 (fW hl) hx (by have:=hP _ _ hp.1;omega) hg hp' (by rw[hu];rfl) hone hx1 c6 c7 (fW hl1) c9 (hq'.2 q hx1 hv1)
    ·cases hE
   ·cases hE
  | _=>simp[cJ]at hE
 | mp y1 v1 =>
  cases q with
  | pm y v c =>
   simp only[cJ]at hE
   split at hE
   ·rename_i r hl
    split at hE
    ·rename_i hcond
     obtain⟨c1,c2,c3,c4,c5,c6⟩:=hcond
     subst c2
     simp only[afE]at hE
     subst hE
     obtain⟨hx,hv⟩:=bU hl
     obtain⟨g,hg,hp'⟩:=hp.2 r hx hv
     obtain⟨⟨ks,vs⟩,hm⟩:=Option.isSome_iff_exists.1 c6
     obtain⟨g2,_,_,_,_,_,_,hu,_⟩:=hI.NN hm hq
     exact GR hT hI ho hτ c1 c3 c4 (fW hl) hx hg hp' (by rw[hu];rfl) rfl rfl rfl (fun _ _ =>.alm _ _ _ rfl) (by rw[<- hu];exact hq)
    ·cases hE
   ·cases hE
  | _=>simp[cJ]at hE
 | _=>exact hold hE
end
section
variable {P:Program} {T:Nat->Option Ty} {N:Nat} {M:Nat->Prop} {L:ik} {w0:World} {blk:Nat->Option (Nat×Nat)} {V:Nat->Nat->Prop} {t:Nat->D} {h:Nat->Option Row} {a:Act} {w:World} {e:Nat} {o:Oper} {Γ:Env}
theorem fU {d:TypeDesc} {fs:List (Nat×Nat)} (h:conv d=.struct fs):∃F,d=.struct F∧(F.toList.map fun f=>(f.type,f.offset))=fs:=by
 cases d<;>simp[conv]at h
 exact⟨_,rfl,h⟩
theorem eY {d:TypeDesc} {e:Nat} (h:conv d=.slice e):d=.slice e:=by
 cases d<;>simp[conv]at h
 rw[h]
theorem w9 {d:TypeDesc} {n e:Nat} (h:conv d=.arr n e):d=.array n e:=by
 cases d<;>simp[conv]at h
 rw[h.1,h.2]
theorem pI {d:TypeDesc} (h:conv d=.str):d=.string:=by
 cases d<;>simp[conv]at h
 rfl
theorem uc {d:TypeDesc} (h:conv d=.bool):d=.bool:=by
 cases d<;>simp[conv]at h
 rfl
theorem xa {d:TypeDesc} {k:IntKind} (h:conv d=.int k):d=.int k:=by
 cases d<;>simp[conv]at h
 rw[h]
theorem under (hT:gm P T) {ty:Nat} {τ:Ty} (hτ:T ty=some τ):∃d,P.underlying ty=some d∧conv d=τ.ds:=by
 obtain⟨d,i,z,h1,h2,_⟩:=(hT ty τ hτ).get
 exact⟨d,h1,h2⟩
theorem Mg {F:Array Field} {fs:List (Nat×Nat)} (hF:(F.toList.map fun f=>(f.type,f.offset))=fs) {i ft off:Nat} (hi:fs[i]? = some (ft,off)):∃f,F[i]? = some f∧f.type=ft∧f.offset=off:=by
 rw[<- hF,afs]at hi
 cases hf:F[i]? with
 | none=>simp[hf]at hi
 | some f=>simp[hf]at hi;exact⟨f,rfl,hi.1,hi.2⟩
theorem RP.S2 {M':Nat->Prop} {xs:List D} {ad:Addr} {us:Nat->Value} (k:Nat) (h6:xs≠[]->∃b o,ad=⟨b,o,none⟩∧b<w.heap.size∧¬M' b∧∀j,j<xs.length->w.cell? ⟨b,o+j,none⟩=some (us j))
  (h7:∀j x,xs[j]? = some x->RP w M' x (us j)) (h8:∀x∈xs,aS x=true):RP w M' (.ip (xs.drop k)) (.pointer (some (ad.add k))):=by
 refine .ip _ _ (fun j=>us (k+j)) (fun hne =>?_) (fun j x hj =>?_) (fun x hx=>h8 x (agd hx))
 ·have hne':xs≠[]:=by rintro rfl;simp at hne
  obtain⟨b,o,rfl,g1,g2,g3⟩:=h6 hne'
  refine⟨b,o+k,nB _ _ _,g1,g2,fun j hj =>?_⟩
  rw[afP]at hj
  rw[afQ]
  exact g3 (k+j) (by omega)
 ·rw[afM]at hj
  exact h7 _ _ hj
theorem Xc (hI:Inv N M L w0 blk V t h a w) {x:Operand} {E:bt} (ho:o.op=.nilCheck x) (hE:iw h (ev t x)=some E):dz P o a w (aV N M L w0 V t h a e o.dst E):=by
 have hp:=hI.ev x
 generalize hq:ev t x=q at *
 cases q with
 | ptr y v c =>
  simp only[iw]at hE
  split at hE
  ·rename_i r hl
   simp only[afE]at hE
   subst hE
   obtain⟨hx,hv⟩:=nU hl
   obtain⟨g,hg,hp'⟩:=hp.2 r hx hv
   refine aD (v := .pointer (some ⟨g.1,g.2+c,none⟩)) (w':=w) ?_ (aV.de hI ?_)
   ·simp[execOp,ho,hp']
   ·rw[<- hp'];exact hp
  ·cases hE
 | ip xs =>
  simp only[iw,afE]at hE
  subst hE
  have hp2:=hp
  obtain⟨ad,h1,_⟩:=RP.adg (M':=Own M h blk) hp
  refine aD (v := .pointer (some ad)) (w':=w) ?_ (aV.de hI ?_)
  ·simp[execOp,ho,h1]
  ·rw[<- h1];exact hp2
 | _=>simp[iw]at hE
theorem Cu (hT:gm P T) (hI:Inv N M L w0 blk V t h a w) {x:Operand} {ty i:Nat} {τ:Ty} {E:bt} (ho:o.op=.fieldAddr ty x i) (hτ:T ty=some τ) (hE:dC T τ h i (ev t x)=some E) :
  dz P o a w (aV N M L w0 V t h a e o.dst E):=by
 have hp:=hI.ev x
 have run:∀(ad:Addr) (fs:List (Nat×Nat)) (ft off:Nat) (φ:Ty),τ.ds=.struct fs->fs[i]? = some (ft,off)->T ft=some φ->φ.size≠0->a.eval x=.pointer (some ad) ->
   (execOp a.eval o).run P w=.ok (.value (.pointer (some (ad.add off)))) w:=by
  intro ad fs ft off φ hds hi hφ hz hv
  obtain⟨d,hd,hc⟩:=under hT hτ
  rw[hds]at hc
  obtain⟨F,rfl,hF⟩:=fU hc
  obtain⟨f,hf,rfl,rfl⟩:=Mg hF hi
  have hsz:=run_sizeOf (P:=P) (hT _ _ hφ) w
  simp[execOp,ho,Instr.fieldAt,run_underlying hd,hf,hv,Instr.sureAddr,fieldPlace,hsz,hz]
 generalize hq:ev t x=q at *
 cases q with
 | ptr y v c =>
  simp only[dC]at hE
  split at hE
  ·rename_i r fs hl hds
   split at hE
   ·rename_i ft off hi
    split at hE
    ·rename_i φ hφ
     split at hE
     ·cases hE
     ·rename_i hz
      simp only[afE]at hE
      subst hE
      obtain⟨hx,hv⟩:=nU hl
      obtain⟨g,hg,hp'⟩:=hp.2 r hx hv
      refine aD (run _ fs ft off φ hds hi hφ hz hp') (aV.de hI ⟨hp.1,fun r' h1 h2=>⟨g,hg,by rw[nB,afQ]⟩⟩)
    ·cases hE
   ·cases hE
  ·cases hE
 | pm y v k =>
  simp only[dC]at hE
  split at hE
  ·rename_i q fs hl hds
   split at hE
   ·rename_i ft hi
    split at hE
    ·rename_i φ hφ
     split at hE
     ·cases hE
     ·rename_i hz
      simp only[afE]at hE
      subst hE
      obtain⟨ry,y',s,n⟩:=q
      obtain⟨hx,hv,_,_⟩:=wA hl
      obtain⟨g,hg,hp'⟩:=hp.2 ry hx hv
      refine aD (run _ fs ft 0 φ hds hi hφ hz hp') (aV.de hI ⟨hp.1,fun r' h1 h2=>⟨g,hg,by rw[nB,af4]⟩⟩)
    ·cases hE
   ·cases hE
  ·cases hE
 | ip xs =>
  simp only[dC]at hE
  split at hE
  ·rename_i fs hds
   split at hE
   ·rename_i ft off hi
    split at hE
    ·rename_i φ hφ
     split at hE
     ·cases hE
     ·rename_i hz
      simp only[afE]at hE
      subst hE
      have hp':RP w (Own M h blk) (.ip xs) (a.eval x):=hp
      generalize hu:a.eval x=u at *
      cases hp' with
      | ip xs ad us h6 h7 h8=>exact aD (run _ fs ft off φ hds hi hφ hz rfl) (aV.de hI (bo (RP.S2 off h6 h7 h8)))
    ·cases hE
   ·cases hE
  ·cases hE
 | _=>simp[dC]at hE
theorem rZ (hT:gm P T) {x ix:Operand} {ty el n c:Nat} {τ φ:Ty} {k:IntKind} {i:Int} {ad:Addr} (ho:o.op=.indexAddr ty x ix) (hτ:T ty=some τ) (hds:τ.ds=.slice el) (hφ:T el=some φ)
  (hi:0<=i∧i<n) (hx:a.eval x=.slice (some ad) n c) (hix:a.eval ix=.int k i):(execOp a.eval o).run P w=.ok (.value (.pointer (some (ad.add (i.toNat*φ.size))))) w:=by
 obtain⟨d,hd,hc⟩:=under hT hτ
 rw[hds]at hc
 have:=eY hc
 subst this
 have hsz:=run_sizeOf (P:=P) (hT _ _ hφ) w
 simp only[execOp,ho,Instr.indexAt,hx,hix,asIntOf,af2,Sem.run_pure,Result.andThen_ok,run_underlying hd]
 rw[if_pos hi]
 simp[hsz]
theorem Bj (hT:gm P T) {x ix:Operand} {ty el n:Nat} {τ φ:Ty} {k:IntKind} {i:Int} {ad:Addr} (ho:o.op=.indexAddr ty x ix) (hτ:T ty=some τ) (hds:τ.ds=.arr n el) (hφ:T el=some φ)
  (hi:0<=i∧i<n) (hx:a.eval x=.pointer (some ad)) (hix:a.eval ix=.int k i):(execOp a.eval o).run P w=.ok (.value (.pointer (some (ad.add (i.toNat*φ.size))))) w:=by
 obtain⟨d,hd,hc⟩:=under hT hτ
 rw[hds]at hc
 have:=w9 hc
 subst this
 have hsz:=run_sizeOf (P:=P) (hT _ _ hφ) w
 simp only[execOp,ho,Instr.indexAt,hx,hix,asIntOf,af2,Sem.run_pure,Result.andThen_ok,run_underlying hd,Instr.sureAddr]
 rw[if_pos hi]
 simp[hsz]
theorem Cv (hT:gm P T) (hI:Inv N M L w0 blk V t h a w) {x ix:Operand} {ty:Nat} {τ:Ty} {E:bt} (ho:o.op=.indexAddr ty x ix) (hτ:T ty=some τ) (hE:bD T τ h (ev t x) (ev t ix)=some E) :
  dz P o a w (aV N M L w0 V t h a e o.dst E):=by
 have hp:=hI.ev x
 have hix:=hI.ev ix
 generalize ev t x=q at *
 generalize ev t ix=z at *
 cases z with
 | int k i =>
  have hiv:=ky hix
  cases q with
  | sl nl tight n xs =>
   simp only[bD]at hE
   split at hE
   ·rename_i el hds
    split at hE
    ·rename_i φ hφ
     split at hE
     ·rename_i hi
      simp only[afE]at hE
      subst hE
      have hp':RP w (Own M h blk) (.sl nl tight n xs) (a.eval x):=hp
      generalize hu:a.eval x=u at *
      cases hp' with
      | sl A c nl tight n xs us h1 h2 h3 h4 h5 h6 h7 h8 =>
       cases A with
       | none=>have:=(h4 rfl).1;omega
       | some ad=>exact aD (rZ hT ho hτ hds hφ hi hu hiv) (aV.de hI (bo (RP.S2 _ (fun hne=>by
         obtain⟨b,o,hA,rest⟩:=h6 hne
         cases hA
         exact⟨b,o,rfl,rest⟩) h7 h8)))
     ·cases hE
    ·cases hE
   ·cases hE
  | buf y v s c n =>
   simp only[bD]at hE
   split at hE
   ·rename_i r el hl hds
    split at hE
    ·rename_i φ hφ
     split at hE
     ·rename_i hi
      obtain⟨hs,hi⟩:=hi
      simp only[afE]at hE
      subst hE
      obtain⟨hx,hv⟩:=nU hl
      rcases hp.2 r hx hv with⟨g,o',c',N',t',g0,g1,g2,g3,_⟩|⟨_,h0,_⟩
      ·have ho':=(g2 (.inl (by omega))).1
       subst ho'
       exact aD (rZ hT ho hτ hds hφ hi g1 hiv) (aV.de hI ⟨hp.1,fun r' h1 h2=>⟨g,g0,by rw[nB,hs,afQ]⟩⟩)
      ·omega
     ·cases hE
    ·cases hE
   ·cases hE
  | ptr y v c =>
   simp only[bD]at hE
   split at hE
   ·rename_i r n el hl hds
    split at hE
    ·rename_i φ hφ
     split at hE
     ·rename_i hi
      simp only[afE]at hE
      subst hE
      obtain⟨hx,hv⟩:=bU hl
      obtain⟨g,hg,hp'⟩:=hp.2 r hx hv
      exact aD (Bj hT ho hτ hds hφ hi hp' hiv) (aV.de hI ⟨hp.1,fun r' h1 h2=>⟨g,hg,by rw[nB,afQ]⟩⟩)
     ·cases hE
    ·cases hE
   ·cases hE
  | _=>simp[bD]at hE
 | _=>cases q<;>simp[bD]at hE
end
section
variable {P:Program} {T:Nat->Option Ty} {N:Nat} {M:Nat->Prop} {L:ik} {w0:World} {blk:Nat->Option (Nat×Nat)} {V:Nat->Nat->Prop} {t:Nat->D} {h:Nat->Option Row} {a:Act} {w:World} {e:Nat} {o:Oper} {Γ:Env}
theorem OR (hT:gm P T) {ft off:Nat} {φ:Ty} (hφ:T ft=some φ) {xs:List D} {us:List Value} {d:D} {M':Nat->Prop} (hl:us.length=xs.length) (h2:∀j x,xs[j]? = some x->RP w M' x (us.getD j undef)) (h3:∀x∈xs,aS x=true)
  (hd:HZ φ xs off=some d):∃v,(part ft us.toArray off).run P w=.ok v w∧RP w M' d v:=by
 unfold HZ at hd
 split at hd
 ·rename_i hA
  split at hd
  ·rename_i hle
   simp only[afE]at hd
   subst hd
   refine⟨.agg (us.toArray.extract off (off+φ.size)),by simp[part,ko (hT _ _ hφ),hA,run_sizeOf (hT _ _ hφ)],?_⟩
   have he:us.toArray.extract off (off+φ.size)=((us.drop off).take φ.size).toArray:=by
    apply Array.ext'
    simp[Array.toList_extract,List.extract]
   rw[he]
   refine .agg _ _ (by simp[hl]) (fun j x hj =>?_) (fun x hx=>h3 x (agd (agf hx)))
   rw[b7]at hj
   split at hj
   ·rename_i hjl
    have:=h2 _ x hj
    have hg:((us.drop off).take φ.size).getD j undef=us.getD (off+j) undef:=by
     simp only[af8,b7,if_pos hjl]
    rw[hg];exact this
   ·cases hj
  ·cases hd
 ·rename_i hA
  have hA':φ.ds.nd=false:=by simpa using hA
  have hlt:=(afY.1 hd).1
  have h4:=h2 off d hd
  refine⟨us.getD off undef,?_,h4⟩
  have:us.toArray[off]? = some (us.getD off undef):=by
   simp[List.getD,afI (show off<us.length by omega)]
  simp[part,ko (hT _ _ hφ),hA',this]
theorem PQ (hT:gm P T) (hI:Inv N M L w0 blk V t h a w) {x:Operand} {ty i:Nat} {τ:Ty} {E:bt} (ho:o.op=.field ty x i) (hτ:T ty=some τ) (hE:kE T τ i (ev t x)=some E):dz P o a w (aV N M L w0 V t h a e o.dst E):=by
 have hp:=hI.ev x
 generalize ev t x=q at *
 cases q with
 | agg xs =>
  simp only[kE]at hE
  split at hE
  ·rename_i fs hds
   split at hE
   ·rename_i ft off hi
    split at hE
    ·rename_i φ hφ
     split at hE
     ·rename_i d hd
      simp only[afE]at hE
      subst hE
      have hp':RP w (Own M h blk) (.agg xs) (a.eval x):=hp
      generalize hu:a.eval x=u at *
      cases hp' with
      | agg xs us h1 h2 h3 =>
       obtain⟨v,hv1,hv2⟩:=OR hT hφ h1 h2 h3 hd
       obtain⟨dd,hdd,hc⟩:=under hT hτ
       rw[hds]at hc
       obtain⟨F,rfl,hF⟩:=fU hc
       obtain⟨f,hf,rfl,rfl⟩:=Mg hF hi
       refine aD (v:=v) (w':=w) ?_ (aV.de hI (bo hv2))
       simp[execOp,ho,Instr.field,run_underlying hdd,hf,hu,asAgg,hv1]
     ·cases hE
    ·cases hE
   ·cases hE
  ·cases hE
 | _=>simp[kE]at hE
theorem PR (hT:gm P T) (hI:Inv N M L w0 blk V t h a w) {x ix:Operand} {ty:Nat} {τ:Ty} {E:bt} (ho:o.op=.index ty x ix) (hτ:T ty=some τ) (hE:fB T τ (ev t x) (ev t ix)=some E) :
  dz P o a w (aV N M L w0 V t h a e o.dst E):=by
 have hp:=hI.ev x
 have hix:=hI.ev ix
 generalize ev t x=q at *
 generalize ev t ix=z at *
 obtain⟨dd,hdd,hc⟩:=under hT hτ
 cases z with
 | int k i =>
  have hiv:=ky hix
  cases q with
  | str s =>
   have hs:=BQ hp
   simp only[fB]at hE
   split at hE
   ·rename_i hds
    rw[hds]at hc
    have:=pI hc
    subst this
    split at hE
    ·rename_i h0
     split at hE
     ·rename_i b hb
      simp only[afE]at hE
      subst hE
      refine aD (v := .int .u8 b.toNat) (w':=w) ?_ (aV.de hI (bo (.int _ _)))
      simp only[execOp,ho,Instr.index,hiv,hs,asIntOf,af2,Sem.run_pure,Result.andThen_ok,run_underlying hdd]
      rw[if_pos h0,hb]
      rfl
     ·cases hE
    ·cases hE
   ·cases hE
  | agg xs =>
   simp only[fB]at hE
   split at hE
   ·rename_i n el hds
    rw[hds]at hc
    have:=w9 hc
    subst this
    split at hE
    ·rename_i φ hφ
     split at hE
     ·rename_i hi
      split at hE
      ·rename_i d hd
       simp only[afE]at hE
       subst hE
       have hp':RP w (Own M h blk) (.agg xs) (a.eval x):=hp
       generalize hu:a.eval x=u at *
       cases hp' with
       | agg xs us h1 h2 h3 =>
        obtain⟨v,hv1,hv2⟩:=OR hT hφ h1 h2 h3 hd
        refine aD (v:=v) (w':=w) ?_ (aV.de hI (bo hv2))
        simp only[execOp,ho,Instr.index,hiv,hu,asIntOf,af2,Sem.run_pure,Result.andThen_ok,run_underlying hdd]
        rw[if_pos hi]
        simp[run_sizeOf (hT _ _ hφ),hv1]
      ·cases hE
     ·cases hE
    ·cases hE
   ·cases hE
  | _=>simp[fB]at hE
 | _=>cases q<;>simp[fB]at hE
theorem lv {d:D} {n:Nat} (h:mf d=some n):∃k,d=.int k n:=by
 cases d with
 | int k i =>
  simp only[mf]at h
  split at h
  ·simp only[afE]at h;exact⟨k,by rw[<- h];congr 1;omega⟩
  ·cases h
 | _=>simp[mf]at h
theorem run_sliceBound (k:IntKind) (n y:Nat) (c:BoundsCode) (hle:n<=y):(Instr.sliceBound (.int k n) y c).run P w=.ok n w:=by
 have h2:(n:Int)<=(y:Int):=by omega
 simp[Instr.sliceBound,asIntOf,h2]
theorem rJ (b:Bool) {n cap l k:Nat} {lo hi:Option D} {vlo vhi:Option Value} (hn:n<=cap) (hb:sC n lo hi=some (l,k))
  (hlo:∀d,lo=some d->∃v,vlo=some v∧∀k n,d=.int k n->v=.int k n) (hlo':lo=none->vlo=none)
  (hhi:∀d,hi=some d->∃v,vhi=some v∧∀k n,d=.int k n->v=.int k n) (hhi':hi=none->vhi=none) :
  (Instr.sliceBounds b n cap vlo vhi none).run P w=.ok (l,k,cap) w∧l<=k∧k<=n:=by
 unfold sC at hb
 split at hb
 ·rename_i k' l' h1 h2
  split at hb
  ·rename_i hle
   simp only[afE,Prod.mk.injEq]at hb
   obtain⟨rfl,rfl⟩:=hb
   refine⟨?_,hle.1,hle.2⟩
   have hv1:(hi=none∧vhi=none∧k'=n)∨∃q,vhi=some (.int q (k':Nat)):=by
    cases hi with
    | none=>simp at h1;exact .inl ⟨rfl,hhi' rfl,h1.symm⟩
    | some d =>
     obtain⟨q,rfl⟩:=lv h1
     obtain⟨v,hv,hv'⟩:=hhi _ rfl
     exact .inr ⟨q,by rw[hv,hv' _ _ rfl]⟩
   have hv2:(lo=none∧vlo=none∧l'=0)∨∃q,vlo=some (.int q (l':Nat)):=by
    cases lo with
    | none=>simp at h2;exact .inl ⟨rfl,hlo' rfl,h2.symm⟩
    | some d =>
     obtain⟨q,rfl⟩:=lv h2
     obtain⟨v,hv,hv'⟩:=hlo _ rfl
     exact .inr ⟨q,by rw[hv,hv' _ _ rfl]⟩
   rcases hv1 with⟨_,rfl,rfl⟩|⟨q1,rfl⟩<;>rcases hv2 with⟨_,rfl,rfl⟩|⟨q2,rfl⟩
   ·simp[Instr.sliceBounds]
   ·simp[Instr.sliceBounds,run_sliceBound q2 l' _ _ hle.1]
   ·simp[Instr.sliceBounds,run_sliceBound q1 k' cap _ (by omega)]
   ·simp[Instr.sliceBounds,run_sliceBound q1 k' cap _ (by omega),run_sliceBound q2 l' _ _ hle.1]
  ·cases hb
 ·cases hb
theorem ON (b:Bool) {n cap l k m:Nat} {lo:Option D} {hi:D} {vlo:Option Value} {vhi vm:Value} {q:IntKind} (hb:sC n lo (some hi)=some (l,k)) (hm:vm=.int q m) (hmc:m<=cap) (hkm:k<=m)
  (hlo:∀d,lo=some d->∃v,vlo=some v∧∀k n,d=.int k n->v=.int k n) (hlo':lo=none->vlo=none)
  (hhi:∀k n,hi=.int k n->vhi=.int k n):(Instr.sliceBounds b n cap vlo (some vhi) (some vm)).run P w=.ok (l,k,m) w∧l<=k∧k<=n:=by
 unfold sC at hb
 split at hb
 ·rename_i k' l' h1 h2
  split at hb
  ·rename_i hle
   simp only[afE,Prod.mk.injEq]at hb
   obtain⟨rfl,rfl⟩:=hb
   refine⟨?_,hle.1,hle.2⟩
   obtain⟨q1,rfl⟩:=lv h1
   have hv1:=hhi _ _ rfl
   subst hv1 hm
   have hv2:(lo=none∧vlo=none∧l'=0)∨∃q,vlo=some (.int q (l':Nat)):=by
    cases lo with
    | none=>simp at h2;exact .inl ⟨rfl,hlo' rfl,h2.symm⟩
    | some d =>
     obtain⟨q,rfl⟩:=lv h2
     obtain⟨v,hv,hv'⟩:=hlo _ rfl
     exact .inr ⟨q,by rw[hv,hv' _ _ rfl]⟩
   rcases hv2 with⟨_,rfl,rfl⟩|⟨q2,rfl⟩
   ·simp[Instr.sliceBounds,run_sliceBound q m cap _ hmc,run_sliceBound q1 k' m _ hkm]
   ·simp[Instr.sliceBounds,run_sliceBound q m cap _ hmc,run_sliceBound q1 k' m _ hkm,run_sliceBound q2 l' _ _ hle.1]
  ·cases hb
 ·cases hb
theorem Inv.evo (hI:Inv N M L w0 blk V t h a w) (x:Option Operand):(∀d,x.map (Am.ev t)=some d->∃v,x.map a.eval=some v∧∀k n,d=.int k n->v=.int k n)∧(x.map (Am.ev t)=none->x.map a.eval=none):=by
 cases x with
 | none=>exact⟨fun d hd=>by simp at hd,fun _=>rfl⟩
 | some x =>
  refine⟨fun d hd=>⟨a.eval x,rfl,fun k n hk =>?_⟩,fun hd=>by simp at hd⟩
  simp only[Option.map_some,afE]at hd
  have:=hI.ev x
  rw[hd,hk]at this
  exact ky this
theorem RP.cut {M':Nat->Prop} {A:Option Addr} {c n l k m s:Nat} {nl tight nl' tight':Bool} {xs:List D} (hr:RP w M' (.sl nl tight n xs) (.slice A n c)) (hlk:l<=k) (hkn:k<=n) (hkm:k<=m) (hmc:m<=c) (ht:tight'=true->m=k) (hnl:nl'=true->nl=true∧tight=true∧tight'=true) :
  RP w M' (.sl nl' tight' (k-l) ((xs.drop (l*s)).take ((k-l)*s))) (.slice (if m=l then A else A.map (·.add (l*s))) (k-l) (m-l)):=by
 cases hr with
 | sl A c nl tight n xs us h1 h2 h3 h4 h5 h6 h7 h8 =>
  refine .sl _ _ nl' tight' _ _ (fun j=>us (l*s+j)) (by omega) (by omega) (fun hn =>?_) (fun hn =>?_) (fun ht'=>by rw[ht ht']) (fun hne =>?_) (fun j x hj =>?_) (fun x hx=>h8 x (agd (agf hx)))
  ·obtain⟨q1,q2,q3⟩:=hnl hn
   obtain⟨rfl,rfl⟩:=(h3 q1).1 q2
   refine⟨fun _=>⟨by simp,by omega⟩,fun q=>by rw[q3]at q;cases q⟩
  ·have hA:A=none:=by
    cases A with
    | none=>rfl
    | some ad=>split at hn<;>simp at hn
   have:=h4 hA
   omega
  ·have hxs:xs≠[]:=by rintro rfl;simp at hne
   have hkl:l<k:=by
    rcases agh l k with h'|h'
    ·exact h'
    ·have:k-l=0:=by omega
     simp[this]at hne
   obtain⟨b,c',rfl,g1,g2,g3⟩:=h6 hxs
   rw[if_neg (by omega)]
   refine⟨b,c'+l*s,by simp[nB],g1,g2,fun j hj =>?_⟩
   simp only[afO,afP]at hj
   have:=g3 (l*s+j) (by omega)
   rw[<- afQ]at this
   exact this
  ·rw[b7]at hj
   split at hj
   ·exact h7 _ x hj
   ·cases hj
theorem PT (hT:gm P T) (hI:Inv N M L w0 blk V t h a w) {x:Operand} {lo hi mx:Option Operand} {ty:Nat} {τ:Ty} {E:bt} (ho:o.op=.slice ty x lo hi mx) (hτ:T ty=some τ)
  (hE:cu T τ h (ev t x) (lo.map (ev t)) (hi.map (ev t)) (mx.map (ev t))=some E):dz P o a w (aV N M L w0 V t h a e o.dst E):=by
 have hp:=hI.ev x
 obtain⟨hl1,hl2⟩:=hI.evo lo
 obtain⟨hh1,hh2⟩:=hI.evo hi
 obtain⟨hm1,hm2⟩:=hI.evo mx
 generalize ev t x=q at *
 obtain⟨dd,hdd,hc⟩:=under hT hτ
 have hlv:lo.map a.eval=lo.map a.eval:=rfl
 cases q with
 | str s =>
  have hs:=BQ hp
  simp only[cu]at hE
  split at hE
  ·rename_i l k hds hmx hb
   rw[hds]at hc
   have:=pI hc
   subst this
   simp only[afE]at hE
   subst hE
   obtain⟨hrun,_,_⟩:=rJ (P:=P) (w:=w) false (afv _) hb hl1 hl2 hh1 hh2
   have hmn:=hm2 hmx
   refine aD (v := .string (s.extract l k)) (w':=w) ?_ (aV.de hI (bo (.str _)))
   simp only[execOp,ho,Instr.sliceAt,af2,run_underlying hdd,Result.andThen_ok,Instr.slice,hs,hmn]
   simp[hrun]
  ·cases hE
 | sl nl tight n xs =>
  have hp':RP w (Own M h blk) (.sl nl tight n xs) (a.eval x):=hp
  have hex:∃A c,a.eval x=.slice A n c∧n<=c∧(tight=true->c=n):=by
   generalize a.eval x=u at *
   cases hp' with
   | sl A c nl tight n xs us h1 h2 h3 h4 h5 h6 h7 h8=>exact⟨A,c,rfl,h1,h5⟩
  obtain⟨A,c,hu,hnc,htight⟩:=hex
  rw[hu]at hp'
  simp only[cu]at hE
  split at hE
  ·rename_i el hds
   rw[hds]at hc
   have:=eY hc
   subst this
   split at hE
   ·rename_i φ l k hφ hb
    split at hE
    ·rename_i hmx
     simp only[afE]at hE
     subst hE
     obtain⟨hrun,hlk,hkn⟩:=rJ (P:=P) (w:=w) true hnc hb hl1 hl2 hh1 hh2
     have hmn:=hm2 hmx
     refine aD (v := .slice (if c=l then A else A.map (·.add (l*φ.size))) (k-l) (c-l)) (w':=w) ?_ (aV.de hI (bo (hp'.cut hlk hkn (by omega) (afv _) (fun ht =>?_) (fun hq =>?_))))
     ·simp only[execOp,ho,Instr.sliceAt,af2,run_underlying hdd,Result.andThen_ok,Instr.slice,hu,hmn]
      simp[hrun,run_sizeOf (hT _ _ hφ)]
     ·simp only[af6,beq_iff_eq]at ht
      rw[htight ht.1,ht.2]
     ·simp only[af6]at hq
      refine⟨hq.1,hq.2,?_⟩
      have hc0:c=0∧n=0:=by
       cases hp' with
       | sl A c nl tight n xs us h1 h2 h3 h4 h5 h6 h7 h8=>have:=((h3 hq.1).1 hq.2).2;omega
      simp only[af6,beq_iff_eq]
      exact⟨hq.2,by omega⟩
    ·rename_i md hmx
     split at hE
     ·rename_i m hd hm hhi
      split at hE
      ·rename_i hcond
       simp only[afE]at hE
       subst hE
       obtain⟨q,rfl⟩:=lv hm
       obtain⟨vm,hvm,hvm'⟩:=hm1 _ hmx
       obtain⟨vh,hvh,hvh'⟩:=hh1 _ hhi
       rw[hhi]at hb
       obtain⟨hrun,hlk,hkn⟩:=ON (P:=P) (w:=w) true (cap:=c) hb (hvm' _ _ rfl) (by omega) hcond.1 hl1 hl2 hvh'
       refine aD (v := .slice (if m=l then A else A.map (·.add (l*φ.size))) (k-l) (m-l)) (w':=w) ?_ (aV.de hI (bo (hp'.cut hlk hkn hcond.1 (by omega) (fun ht=>by simpa using ht) (fun hq=>by cases hq))))
       simp only[execOp,ho,Instr.sliceAt,af2,run_underlying hdd,Result.andThen_ok,Instr.slice,hu,hvm,hvh]
       simp[hrun,run_sizeOf (hT _ _ hφ)]
      ·cases hE
     ·cases hE
   ·cases hE
  ·cases hE
 | buf y v s c0 n =>
  simp only[cu]at hE
  split at hE
  ·rename_i r el hl hds hmx
   rw[hds]at hc
   have:=eY hc
   subst this
   split at hE
   ·rename_i φ l k hφ hb
    split at hE
    ·rename_i hs
     obtain⟨hs,hs0⟩:=hs
     simp only[afE]at hE
     subst hE
     obtain⟨hx,hv⟩:=bU hl
     have hmn:=hm2 hmx
     rcases hp.2 r hx hv with⟨g,o',c,N',t',g0,g1,g2,g3,g4,g5⟩|⟨g0,g1,A,g2⟩
     ·obtain⟨hrun,hlk,hkn⟩:=rJ (P:=P) (w:=w) true g3 hb hl1 hl2 hh1 hh2
      refine aD (v := .slice (if c=l then (some ⟨g.1,o',none⟩) else (some ⟨g.1,o'+l*φ.size,none⟩)) (k-l) (c-l)) (w':=w) ?_ (aV.de hI ⟨hp.1,fun r' h1 h2 =>.inl ?_⟩)
      ·simp only[execOp,ho,Instr.sliceAt,af2,run_underlying hdd,Result.andThen_ok,Instr.slice,g1,hmn]
       simp[hrun,run_sizeOf (hT _ _ hφ),nB]
      ·by_cases hcl:c=l
       ·rw[if_pos hcl]
        refine⟨g,o',c-l,N',t',g0,rfl,fun hh =>?_,by omega,by omega,g5⟩
        rcases hh with hh|hh
        ·omega
        ·have hl0:l*s=0:=by omega
         have:l=0:=by
          rcases Nat.mul_eq_zero.1 hl0 with h'|h'
          ·exact h'
          ·omega
         subst this
         obtain⟨q1,q2⟩:=g2 (.inr (by omega))
         rw[Nat.sub_zero,hl0]
         exact⟨by omega,q2⟩
       ·rw[if_neg hcl]
        refine⟨g,o'+l*φ.size,c-l,N',t',g0,rfl,fun hh =>?_,by omega,by omega,g5⟩
        obtain⟨q1,q2⟩:=g2 (.inl (by omega))
        have hle:l*s<=c*s:=agi _ (by omega)
        rw[hs,Nat.sub_mul]
        exact⟨by omega,by omega⟩
     ·subst g1
      obtain⟨hrun,hlk,hkn⟩:=rJ (P:=P) (w:=w) (cap:=0) true (afv _) hb hl1 hl2 hh1 hh2
      have hk0:k=0:=by omega
      have hl0:l=0:=by omega
      subst hk0 hl0
      refine aD (v := .slice A 0 0) (w':=w) ?_ (aV.de hI ⟨hp.1,fun r' h1 h2 =>.inr ⟨g0,rfl,A,rfl⟩⟩)
      simp only[execOp,ho,Instr.sliceAt,af2,run_underlying hdd,Result.andThen_ok,Instr.slice,g2,hmn]
      simp[hrun,run_sizeOf (hT _ _ hφ)]
    ·cases hE
   ·cases hE
  ·cases hE
 | _=>simp[cu]at hE
end
section
variable {P:Program} {T:Nat->Option Ty} {N:Nat} {M:Nat->Prop} {L:ik} {w0:World} {blk:Nat->Option (Nat×Nat)} {V:Nat->Nat->Prop} {t:Nat->D} {h:Nat->Option Row} {a:Act} {w:World} {e:Nat} {o:Oper} {Γ:Env}
theorem OX (cur us:Array Value) (off:Nat) (hle:off+us.size<=cur.size) :
  us.zipIdx.foldl (fun cs (p:Value×Nat)=>cs.setIfInBounds (off+p.2) p.1) cur=(cur.toList.take off++us.toList++cur.toList.drop (off+us.toList.length)).toArray:=by
 have key:∀(l:List Value) (k:Nat) (c:Array Value),off+k+l.length<=c.size ->
   (l.zipIdx k).foldl (fun cs (p:Value×Nat)=>cs.setIfInBounds (off+p.2) p.1) c=(c.toList.take (off+k)++l++c.toList.drop (off+k+l.length)).toArray:=by
  intro l
  induction l with
  | nil=>intro k c _;simp
  | cons v l ih =>
   intro k c hc
   simp only[List.zipIdx_cons,List.foldl_cons]
   simp only[List.length_cons]at hc
   rw[ih (k+1) _ (by simp;omega)]
   have:=list_seg_step c.toList (off+k) v l (by simp;omega)
   simp only[Array.toList_setIfInBounds]
   congr 1
 have:=key us.toList 0 cur (by simp;omega)
 rw[af4]at this
 rw[<- this,<- Array.foldl_toList,Array.toList_zipIdx]
theorem YN {w:World} {M:Nat->Prop} {cells cs:List D} {cur:Array Value} {us:List Value} {c:Nat} (hle:c+cs.length<=cells.length) (hus:us.length=cs.length) (hcur:cells.length<=cur.size)
  (h5:∀j d,cells[j]? = some d->aS d=true∧RP w M d (cur.getD j undef)) (u2:∀j d,cs[j]? = some d->aS d=true∧RP w M d (us.getD j undef)) (j:Nat) (d:D) (hj:(putCells cells c cs)[j]? = some d) :
  aS d=true∧RP w M d ((cur.toList.take c++us++cur.toList.drop (c+us.length)).toArray.getD j undef):=by
 have:=spliced (cur:=cur) (b:=0) hle hus (by omega) (fun j d hj=>by rw[agj];exact h5 j d hj) u2 j d hj
 simp only[agj]at this
 exact this
theorem K8 {w:World} {M:Nat->Prop} {cs:List D} {f:Nat->Value} (u2:∀(j:Nat) d,cs[j]? = some d->aS d=true∧RP w M d (f j)) (j:Nat) (d:D) (hj:(cs.map canon)[j]? = some d):aS d=true∧RP w M d (f j):=by
 rw[afs,aft]at hj
 obtain⟨x,hx,rfl⟩:=hj
 obtain⟨k1,k2⟩:=u2 j x hx
 exact⟨by rw[kQ];exact k1,k2.canon⟩
theorem Inv.gF (hI:Inv N M L w0 blk V t h a w) {place:Nat->Option (Nat×Nat)} {M':Nat->Prop} : ∀ {parts:List (Nat×Operand)} {cells out:List D} {fr:List Nat} {cur:Array Value},
  gF h place cells (parts.map fun p=>(p.1,Am.ev t p.2))=some (out,fr)->mE M h blk fr M'->cells.length=cur.size->(∀j d,cells[j]? = some d->aS d=true∧RP w M' d (cur.getD j undef)) ->
  ∃cur',Instr.fill place cur (parts.map fun p=>(p.1,a.eval p.2))=some cur'∧out.length=cur'.size∧out.length=cells.length∧∀j d,out[j]? = some d->aS d=true∧RP w M' d (cur'.getD j undef)
 | [],cells,out,fr,cur,hf,hl,hsz,hc=>by
  simp only[agk,Am.gF,afE,Prod.mk.injEq]at hf
  obtain⟨rfl,rfl⟩:=hf
  exact⟨cur,rfl,hsz,rfl,hc⟩
 | (i,x)::parts,cells,out,fr,cur,hf,hl,hsz,hc=>by
  simp only[afB,Am.gF]at hf
  split at hf
  ·rename_i off size cs fr1 h1 h2
   split at hf
   ·rename_i hle
    split at hf
    ·rename_i out' fr2 h3
     simp only[afE,Prod.mk.injEq]at hf
     obtain⟨rfl,rfl⟩:=hf
     obtain⟨u1,u2⟩:=hI.dY h2 hl.left (hI.ev x)
     have hul:(a.eval x).cells.toList.length=cs.length:=by simp only[Array.length_toList];exact u1
     have hle':off+cs.length<=cells.length:=by omega
     obtain⟨cur',i1,i2,i3,i4⟩:=hI.gF (cur:=(cur.toList.take off++(a.eval x).cells.toList++cur.toList.drop (off+(a.eval x).cells.toList.length)).toArray) h3 hl.right
      (by rw[gU hle'];simp;omega)
      (fun j d hj=>YN hle' hul (by omega) hc (fun j d hj=>by simpa [List.getD] using u2 j d hj) j d hj)
     refine⟨cur',?_,i2,by rw[i3,gU hle'],i4⟩
     rw[<- i1]
     simp only[afB,Instr.fill,h1]
     have hcond:(decide ((a.eval x).cells.size≠size)||decide (off+(a.eval x).cells.size>cur.size))=false:=by simp;omega
     rw[if_neg (by simpa using hcond)]
     congr 1
     exact OX cur (a.eval x).cells off (by omega)
    ·cases hf
   ·cases hf
  ·cases hf
theorem kT (hT:gm P T):∀(F:List Field),(∀f∈F,(T f.type).isSome=true)->(F.mapM fun f=>(do pure (f.offset,<- Go.sizeOf f.type):Sem (Nat×Nat))).run P w=.ok (F.map fun f=>(f.offset,((T f.type).map (·.size)).getD 0)) w
 | [],_=>by simp
 | f::F,hF=>by
  have h1:=hF f (by simp)
  cases hφ:T f.type with
  | none=>simp[hφ]at h1
  | some φ =>
   have ih:=kT hT F (fun g hg=>hF g (by simp[hg]))
   simp only[List.mapM_cons,af2,run_sizeOf (hT _ _ hφ),Result.andThen_ok,Sem.run_pure,afB,hφ,Option.map_some,Option.getD_some]
   rw[ih]
   rfl
theorem wm (hT:gm P T) (hI:Inv N M L w0 blk V t h a w) {ty:Nat} {parts:Array (Nat×Operand)} {τ:Ty} {E:bt} (ho:o.op=.build ty parts) (hτ:T ty=some τ) (hE:ew T τ h (parts.toList.map fun p=>(p.1,ev t p.2))=some E) :
  dz P o a w (aV N M L w0 V t h a e o.dst E):=by
 obtain⟨dd,hdd,hc⟩:=under hT hτ
 unfold ew at hE
 split at hE
 ·rename_i fs hds
  rw[hds]at hc
  obtain⟨F,rfl,hF⟩:=fU hc
  split at hE
  ·rename_i hcond
   simp only[af6]at hcond
   split at hE
   ·rename_i cs fr hf
    simp only[afE]at hE
    subst hE
    obtain⟨z,hz1,hz2⟩:=ig (hT ty τ hτ) w
    obtain⟨cur',i1,i2,i3,i4⟩:=hI.gF hf (hI.eO fr) (cur:=τ.zero.toArray) (by simp) (fun j d hj=>ou τ.zero hcond.2 j d hj)
    have hsome:∀f∈F.toList,(T f.type).isSome=true:=by
     intro f hf'
     have:=hcond.1
     rw[afG]at this
     exact this (f.type,f.offset) (by rw[<- hF];exact afu.2 ⟨f,hf',rfl⟩)
    have hpl:(fun i=>(F.map fun f=>(f.offset,((T f.type).map (·.size)).getD 0))[i]?)=fieldAt T fs:=by
     funext i
     simp only[fieldAt,<- hF,afs,Array.getElem?_map]
     rw[agm]
     cases hfi:F[i]? with
     | none=>rfl
     | some f =>
      have:=hsome f (by simpa using agn hfi)
      cases hφ:T f.type with
      | none=>simp[hφ]at this
      | some φ=>simp[hφ]
    refine aD (v := .agg cur') (w':=w) ?_ ?_
    ·have hm:=kT (P:=P) (w:=w) hT F.toList hsome
     have hm':(F.mapM fun f=>(do pure (f.offset,<- Go.sizeOf f.type):Sem (Nat×Nat))).run P w=.ok (F.map fun f=>(f.offset,((T f.type).map (·.size)).getD 0)) w:=by
      rw[ago,Sem.run_map,hm]
      simp only[Result.andThen_ok]
      congr 1
      apply Array.ext'
      simp
     rw[<- hpl]at i1
     simp only[execOp,ho,Instr.build,af2,hz1,Result.andThen_ok,run_underlying hdd,hm',hz2,agp]
     rw[i1]
     rfl
    ·have:(⟨.agg cs,gG h fr⟩:bt)=⟨.agg cs,gG h fr⟩:=rfl
     have hag:cur'=cur'.toList.toArray:=by simp
     rw[hag]
     refine aV.Jy hI fr (.agg cs _ (by simp;omega) (fun j d hj =>?_) (fun d hd =>?_))
     ·have:=(i4 j d hj).2
      simpa [List.getD] using this
     ·obtain⟨j,hj⟩:=afR hd
      exact (i4 j d hj).1
   ·cases hE
  ·cases hE
 ·cases hE
theorem W5 (hT:gm P T) (hI:Inv N M L w0 blk V t h a w) {q:Nat->Bool} {ty:Nat} {parts:Array (Nat×Operand)} {τ:Ty} {E:bt} (ho:o.op=.build ty parts) (hτ:T ty=some τ) (hE:nH q T τ h o.dst (parts.toList.map fun p=>(p.1,ev t p.2))=some E) :
  dz P o a w (aV N M L w0 V t h a e o.dst E):=by
 unfold nH at hE
 split at hE
 ·split at hE
  ·exact wm hT hI ho hτ hE
  ·split at hE
   ·rename_i fs x v s o' n hds hps
    split at hE
    ·rename_i hcond
     obtain⟨k1,k2,k3,k4⟩:=hcond
     simp only[afE]at hE
     subst hE
     obtain⟨dd,hdd,hc⟩:=under hT hτ
     rw[hds]at hc
     obtain⟨F,rfl,hF⟩:=fU hc
     obtain⟨p0,hp0,hpe⟩:∃p0,parts.toList=[p0]∧(p0.1,ev t p0.2)=(0,D.buf x v s o' n):=by
      cases hpl:parts.toList with
      | nil=>rw[hpl]at hps;cases hps
      | cons p0 l =>
       rw[hpl]at hps
       simp only[afB,afT,List.map_eq_nil_iff]at hps
       exact⟨p0,by rw[hps.2],hps.1⟩
     simp only[Prod.mk.injEq]at hpe
     have hr:=hI.ev p0.2
     rw[hpe.2]at hr
     have hlv:∃r,ma h x v=some r:=by
      simp only[alive]at k1
      exact Option.isSome_iff_exists.1 k1
     obtain⟨r,hlv⟩:=hlv
     obtain⟨hx,hv⟩:=nU hlv
     obtain⟨A,c,hu⟩:∃A c,a.eval p0.2=.slice A n c:=by
      rcases hr.2 r hx hv with⟨g,o'',c,N',t',g0,g1,_⟩|⟨_,g1,A,g2⟩
      ·exact⟨_,_,g1⟩
      ·subst g1;exact⟨_,_,g2⟩
     obtain⟨z,hz1,hz2⟩:=ig (hT ty τ hτ) w
     have hsome:∀f∈F.toList,(T f.type).isSome=true:=by
      intro f hf'
      rw[afG]at k2
      exact k2 (f.type,f.offset) (by rw[<- hF];exact afu.2 ⟨f,hf',rfl⟩)
     have hpl:(fun i=>(F.map fun f=>(f.offset,((T f.type).map (·.size)).getD 0))[i]?)=fieldAt T fs:=by
      funext i
      simp only[fieldAt,<- hF,afs,Array.getElem?_map]
      rw[agm]
      cases hfi:F[i]? with
      | none=>rfl
      | some f =>
       have:=hsome f (by simpa using agn hfi)
       cases hφ:T f.type with
       | none=>simp[hφ]at this
       | some φ=>simp[hφ]
     have i1:Instr.fill (fieldAt T fs) τ.zero.toArray (parts.toList.map fun p=>(p.1,a.eval p.2))=some #[a.eval p0.2]:=by
      rw[hp0]
      simp only[afB,agk,Instr.fill,hpe.1,k3,hu]
      obtain⟨z0,hz0⟩:∃z0,τ.zero=[z0]:=by
       match hzz:τ.zero,k4 with
       | [z0],_=>exact⟨z0,rfl⟩
      rw[hz0]
      rfl
     refine aD (v := .agg #[a.eval p0.2]) (w':=w) ?_ (aV.de hI ⟨_,rfl,by rw[hu];rfl,hr⟩)
     have hm:=kT (P:=P) (w:=w) hT F.toList hsome
     have hm':(F.mapM fun f=>(do pure (f.offset,<- Go.sizeOf f.type):Sem (Nat×Nat))).run P w=.ok (F.map fun f=>(f.offset,((T f.type).map (·.size)).getD 0)) w:=by
      rw[ago,Sem.run_map,hm]
      simp only[Result.andThen_ok]
      congr 1
      apply Array.ext'
      simp
     rw[<- hpl]at i1
     simp only[execOp,ho,Instr.build,af2,hz1,Result.andThen_ok,run_underlying hdd,hm',hz2,agp]
     rw[i1]
     rfl
    ·cases hE
   ·rename_i fs x v s o' n hds hps
    split at hE
    ·rename_i hcond
     obtain⟨k1,k2,k3,k4⟩:=hcond
     simp only[afE]at hE
     subst hE
     obtain⟨dd,hdd,hc⟩:=under hT hτ
     rw[hds]at hc
     obtain⟨F,rfl,hF⟩:=fU hc
     obtain⟨p0,hp0,hpe⟩:∃p0,parts.toList=[p0]∧(p0.1,ev t p0.2)=(0,D.box1 x v s o' n):=by
      cases hpl:parts.toList with
      | nil=>rw[hpl]at hps;cases hps
      | cons p0 l =>
       rw[hpl]at hps
       simp only[afB,afT,List.map_eq_nil_iff]at hps
       exact⟨p0,by rw[hps.2],hps.1⟩
     simp only[Prod.mk.injEq]at hpe
     have hr:=hI.ev p0.2
     rw[hpe.2]at hr
     obtain⟨u',hu,hone,hr'⟩:=hr
     obtain⟨z,hz1,hz2⟩:=ig (hT ty τ hτ) w
     have hsome:∀f∈F.toList,(T f.type).isSome=true:=by
      intro f hf'
      rw[afG]at k2
      exact k2 (f.type,f.offset) (by rw[<- hF];exact afu.2 ⟨f,hf',rfl⟩)
     have hpl:(fun i=>(F.map fun f=>(f.offset,((T f.type).map (·.size)).getD 0))[i]?)=fieldAt T fs:=by
      funext i
      simp only[fieldAt,<- hF,afs,Array.getElem?_map]
      rw[agm]
      cases hfi:F[i]? with
      | none=>rfl
      | some f =>
       have:=hsome f (by simpa using agn hfi)
       cases hφ:T f.type with
       | none=>simp[hφ]at this
       | some φ=>simp[hφ]
     have i1:Instr.fill (fieldAt T fs) τ.zero.toArray (parts.toList.map fun p=>(p.1,a.eval p.2))=some #[u']:=by
      rw[hp0]
      simp only[afB,agk,Instr.fill,hpe.1,k3,hu]
      obtain⟨z0,hz0⟩:∃z0,τ.zero=[z0]:=by
       match hzz:τ.zero,k4 with
       | [z0],_=>exact⟨z0,rfl⟩
      rw[hz0]
      rfl
     refine aD (v := .agg #[u']) (w':=w) ?_ (aV.de hI ⟨u',rfl,hone,hr'⟩)
     have hm:=kT (P:=P) (w:=w) hT F.toList hsome
     have hm':(F.mapM fun f=>(do pure (f.offset,<- Go.sizeOf f.type):Sem (Nat×Nat))).run P w=.ok (F.map fun f=>(f.offset,((T f.type).map (·.size)).getD 0)) w:=by
      rw[ago,Sem.run_map,hm]
      simp only[Result.andThen_ok]
      congr 1
      apply Array.ext'
      simp
     rw[<- hpl]at i1
     simp only[execOp,ho,Instr.build,af2,hz1,Result.andThen_ok,run_underlying hdd,hm',hz2,agp]
     rw[i1]
     rfl
    ·cases hE
   ·unfold cE at hE
    split at hE
    ·rename_i cs hw hb
     simp only[afE]at hE
     subst hE
     refine (wm (e:=e) hT hI ho hτ hb).mono fun v w' hA =>?_
     obtain⟨blk',h1,h2⟩:=hA
     exact⟨blk',h1,bo (RP.eX (d := .agg cs) h2)⟩
    ·cases hE
 ·exact wm hT hI ho hτ hE
theorem tI (zs:List Value) (n:Nat) (j:Nat) (hj:j<n*zs.length):(((Array.range (n*zs.length)).map fun i=>zs.toArray[i % zs.toArray.size]!).getD j undef)=zs.getD (j % zs.length) undef:=by
 have hz:0<zs.length:=by
  rcases afN zs.length with h0|h0
  ·rw[h0]at hj;omega
  ·exact h0
 have hm:j % zs.length<zs.length:=Nat.mod_lt _ hz
 simp[hj,hm,List.getD]
theorem Bz (zs:List D):∀(n j:Nat) (d:D),(lA n zs)[j]? = some d->j<n*zs.length∧zs[j % zs.length]? = some d
 | 0,j,d,h=>by simp[lA]at h
 | n+1,j,d,h=>by
  have e:lA (n+1) zs=zs++lA n zs:=by simp[lA,List.replicate_succ]
  rw[e]at h
  by_cases hj:j<zs.length
  ·rw[af9 hj]at h
   refine⟨?_,by rw[agr hj];exact h⟩
   rw[ags]
   omega
  ·rw[aga (by omega)]at h
   obtain⟨h1,h2⟩:=Bz zs n (j-zs.length) d h
   refine⟨by rw[ags];omega,?_⟩
   rw[Nat.mod_eq_sub_mod (by omega)]
   exact h2
theorem oU (n:Nat) (zs:List D):(lA n zs).length=n*zs.length:=by
 simp[lA]
theorem qw {d e s n c:Nat} {g:Nat×Nat} {ty:Nat} {cs:Array Value} {V':Nat->Nat->Prop} {h':Nat->Option Row} {blk':Nat->Option (Nat×Nat)} (hV:V' d e) (hb:blk' d=some g) (hg:w.heap[g.1]? = some (.cells cs ty (0,0))) (hn:n<=c) (hc:c<=maxLen) (hs:c*s+g.2=cs.size) :
  RT w M h' blk' V' (.buf d e s 0 n) (.slice (some ⟨g.1,g.2,none⟩) n c) :=
 ⟨hV,fun _ _ _ =>.inl ⟨g,g.2,c,cs.size,ty,hb,rfl,fun _=>⟨rfl,hs⟩,hn,hc,by simp[World.shape?,hg]⟩⟩
theorem Q8 (n:Nat) (zs:List D):lA n (zs.map canon)=(lA n zs).map canon:=by simp[lA,List.map_flatten]
theorem A1 (hT:gm P T) (hI:Inv N M L w0 blk V t h a w) {ty len d:Nat} {parts:Array (Nat×Operand)} {τ:Ty} {E:bt} (ho:o.op=.buildSlice ty len parts) (hd:o.dst=some d) (hV:gR N V d e) (hτ:T ty=some τ)
  (hE:dB T τ h e d len (parts.toList.map fun p=>(p.1,ev t p.2))=some E):dz P o a w (aV N M L w0 V t h a e o.dst E):=by
 obtain⟨dd,hdd,hc⟩:=under hT hτ
 unfold dB at hE
 split at hE
 ·rename_i el hds
  rw[hds]at hc
  have:=eY hc
  subst this
  split at hE
  ·rename_i φ hφ
   split at hE
   ·rename_i hcond
    obtain⟨c1,c2,c3,c4⟩:=hcond
    split at hE
    ·rename_i cs fr hf
     split at hE
     ·rename_i hfr
      simp only[afE]at hE
      subst hE
      obtain⟨z,hz1,hz2⟩:=ig (hT el φ hφ) w
      have hcur:(len*φ.size=0->((Array.range (len*φ.size)).map fun i=>φ.zero.toArray[i % φ.zero.toArray.size]!) = #[]):=by intro h0;simp[h0]
      obtain⟨cur',i1,i2,i3,i4⟩:=hI.gF hf (hI.eO fr) (cur:=(Array.range (len*φ.size)).map fun i=>φ.zero.toArray[i % φ.zero.toArray.size]!)
       (by rw[oU];simp[c4]) (fun j x hj=>by
        obtain⟨r1,r2⟩:=Bz _ _ _ _ hj
        simp only[afZ]at r1 r2
        rw[<- c4,tI φ.zero len j r1]
        have:=ou (w:=w) (M:=Own M (aH h (gG h fr)) blk) φ.zero c3 _ x r2
        simpa [List.getD] using this)
      have hI':=(hI.freeze fr).alloc (d:=d) (e:=e) (ty:=el) (lst:=true) (cs:=cs.map canon) (vs:=cur') hV (by rw[afZ];omega) (fun j x hj=>K8 (f:=fun j=>cur'.getD j undef) i4 j x hj)
      refine aD (v := .slice (some ⟨w.heap.size,0,none⟩) len len) (w':=w.alloc (.cells cur' el)) ?_ ⟨bz blk d (some (w.heap.size,0)),?_,?_⟩
      ·have hnot:¬len*φ.size>2 ^ 24:=by omega
       simp only[execOp,ho,Instr.buildSlice,af2,run_underlying hdd,Result.andThen_ok,run_sizeOf (hT _ _ hφ),if_neg hnot]
       by_cases h0:len*φ.size=0
       ·have hcur0:=hcur h0
        rw[hcur0]at i1
        have hc0:((Array.range (len*φ.size)).map fun i=>(#[]:Array Value)[i % (#[]:Array Value).size]!) = #[]:=by simp[h0]
        simp only[if_pos h0,af2,Sem.run_pure,Result.andThen_ok,agp]
        rw[hc0,i1]
        simp[newRow]
       ·simp only[if_neg h0,af2,hz1,Result.andThen_ok,Sem.run_pure,hz2,agp]
        rw[i1]
        simp[newRow]
      ·show Inv _ _ _ _ _ _ _ (aH h (gG h fr++[(d,some ⟨e,el,cs.map canon,false,true,false⟩)])) _ _
       rw[fA]
       refine hI'.weaken fun x v hx =>?_
       rcases hx with hx|⟨rfl,rfl⟩
       ·exact .inl hx
       ·exact .inr ⟨hd,rfl⟩
      ·have hlen:cur'.size=len*φ.size:=by
        rw[<- i2,i3,oU];simp[c4]
       refine qw (g:=(w.heap.size,0)) (.inr ⟨hd,rfl⟩) (aq _ _ _) (heap_alloc_new w _) (afv _) ?_ (by rw[hlen];simp)
       have:len<=len*φ.size:=Nat.le_mul_of_pos_right _ c2
       simp only[maxLen]
       omega
     ·cases hE
    ·cases hE
   ·cases hE
  ·cases hE
 ·cases hE
theorem uM {M':Nat->Prop} {d:D} {n:Nat} {u:Value} (hn:mf d=some n) (hr:RT w M' h blk V d u):∃k,u=.int k n:=by
 obtain⟨k,rfl⟩:=lv hn
 exact⟨k,ky hr⟩
theorem UG (hT:gm P T) (hI:Inv N M L w0 blk V t h a w) {ty d:Nat} {l c:Operand} {τ:Ty} {E:bt} (ho:o.op=.makeSlice ty l c) (hd:o.dst=some d) (hV:gR N V d e) (hτ:T ty=some τ)
  (hE:oG T τ e d (ev t l) (ev t c)=some E):dz P o a w (aV N M L w0 V t h a e o.dst E):=by
 have hpl:=hI.ev l
 have hpc:=hI.ev c
 obtain⟨dd,hdd,hc⟩:=under hT hτ
 unfold oG at hE
 split at hE
 ·rename_i el hds
  rw[hds]at hc
  have:=eY hc
  subst this
  split at hE
  ·rename_i φ n k hφ hn hk
   split at hE
   ·rename_i hcond
    obtain⟨c1,c2,c3,c4,c5,c6⟩:=hcond
    simp only[afE]at hE
    subst hE
    obtain⟨q1,hl⟩:=uM hn hpl
    obtain⟨q2,hcv⟩:=uM hk hpc
    obtain⟨d',i,z,g1,g2,g3,g4,g5,g6,g7⟩:=(hT el φ hφ).get
    have hb:(i.bytes:Int)*(k:Int)<=281474976710656:=by
     have:((i.bytes*k:Nat):Int)<=281474976710656:=by
      rw[g5,agt];omega
     rwa [agu]at this
    have hk63:(k:Int)<=9223372036854775807:=by
     simp only[maxLen]at c2
     omega
    have hrun:=run_make (P:=P) w ty el i z hdd g3 g6 q1 q2 n k (by omega) (by omega) hb hk63
    simp only[Int.toNat_natCast]at hrun
    have hcells:∀j x,(lA n (φ.zero.map kW))[j]? = some x->aS x=true∧RP w (Own M h blk) x ((madeCells z.cells (k*i.size)).getD j undef):=by
     intro j x hj
     obtain⟨r1,r2⟩:=Bz _ _ _ _ hj
     simp only[afZ]at r1 r2
     have hjk:j<k*φ.zero.length:=afy r1 (agi _ c1)
     have:=ou (w:=w) (M:=Own M h blk) φ.zero c5 _ x r2
     refine⟨this.1,?_⟩
     have he:(madeCells z.cells (k*i.size)).getD j undef=φ.zero.toArray.getD (j % φ.zero.length) undef:=by
      rw[g7,g4,<- c6]
      have:=tI φ.zero k j hjk
      simpa [madeCells,List.getD] using this
     rw[he];exact this.2
    have hsz:(madeCells z.cells (k*i.size)).size=k*φ.size:=by simp[madeCells,g4]
    have hI':=hI.alloc (d:=d) (e:=e) (ty:=el) (lst:=true) (cs:=lA n ((φ.zero.map kW).map canon)) (vs:=madeCells z.cells (k*i.size)) hV (by rw[oU,hsz];simp only[afZ,c6];exact agi _ c1) (fun j x hj=>K8 (f:=fun j=>(madeCells z.cells (k*i.size)).getD j undef) hcells j x (by rw[<- Q8];exact hj))
    refine aD (v := .slice (some ⟨w.heap.size,0,none⟩) n k) (w':=w.alloc (.cells (madeCells z.cells (k*i.size)) el)) ?_ ⟨bz blk d (some (w.heap.size,0)),?_,?_⟩
    ·simp[execOp,ho,hl,hcv,hrun]
    ·refine hI'.weaken fun x v hx =>?_
     rcases hx with hx|⟨rfl,rfl⟩
     ·exact .inl hx
     ·exact .inr ⟨hd,rfl⟩
    ·exact qw (g:=(w.heap.size,0)) (.inr ⟨hd,rfl⟩) (aq _ _ _) (heap_alloc_new w _) c1 c2 (by rw[hsz];simp)
   ·cases hE
  ·cases hE
 ·cases hE
theorem YB {op:BinOp} {ty:Nat} {k:IntKind} {x y:Int} {d:D} (hs:jI op=false) (h:fl op k x y=some d):∃v,(binOp op ty (.int k x) (.int k y)).run P w=.ok v w∧RP w M d v:=by
 cases op with
 | shl=>simp[jI]at hs
 | shr=>simp[jI]at hs
 | quo =>
  simp only[fl]at h
  split at h
  ·cases h
  ·rename_i hy
   simp only[afE]at h
   subst h
   exact⟨_,by simp[binOp,Op.intDiv,hy],.int _ _⟩
 | rem =>
  simp only[fl]at h
  split at h
  ·cases h
  ·rename_i hy
   simp only[afE]at h
   subst h
   exact⟨_,by simp[binOp,Op.intDiv,hy],.int _ _⟩
 | add=>simp only[fl,afE]at h;subst h;exact⟨_,by simp[binOp,Op.intArith],.int _ _⟩
 | sub=>simp only[fl,afE]at h;subst h;exact⟨_,by simp[binOp,Op.intArith],.int _ _⟩
 | mul=>simp only[fl,afE]at h;subst h;exact⟨_,by simp[binOp,Op.intArith],.int _ _⟩
 | and=>simp only[fl,afE]at h;subst h;exact⟨_,by simp[binOp,Op.intBits,BX],.int _ _⟩
 | or=>simp only[fl,afE]at h;subst h;exact⟨_,by simp[binOp,Op.intBits,BX],.int _ _⟩
 | xor=>simp only[fl,afE]at h;subst h;exact⟨_,by simp[binOp,Op.intBits,BX],.int _ _⟩
 | andNot=>simp only[fl,afE]at h;subst h;exact⟨_,by simp[binOp,Op.intBits,BX],.int _ _⟩
 | eql=>simp only[fl,afE]at h;subst h;exact⟨_,by simp[binOp,Op.intCmp],.bool _⟩
 | neq=>simp only[fl,afE]at h;subst h;exact⟨_,by simp[binOp,Op.intCmp],.bool _⟩
 | lss=>simp only[fl,afE]at h;subst h;exact⟨_,by simp[binOp,Op.intCmp],.bool _⟩
 | leq=>simp only[fl,afE]at h;subst h;exact⟨_,by simp[binOp,Op.intCmp],.bool _⟩
 | gtr=>simp only[fl,afE]at h;subst h;exact⟨_,by simp[binOp,Op.intCmp],.bool _⟩
 | geq=>simp only[fl,afE]at h;subst h;exact⟨_,by simp[binOp,Op.intCmp],.bool _⟩
theorem Ra {op:BinOp} {ty:Nat} {k k':IntKind} {x y:Int} {d:D} (hs:jI op=true) (h:rK op k x y=some d):∃v,(binOp op ty (.int k x) (.int k' y)).run P w=.ok v w∧RP w M d v:=by
 unfold rK at h
 split at h
 ·cases h
 ·rename_i hy
  cases op<;>simp only[jI,af5]at hs<;>simp only[afE]at h<;>subst h<;>exact⟨_,by simp[binOp,Op.shift,hy],.int _ _⟩
theorem YD {op:BinOp} {ty:Nat} {x y:ByteArray} {d:D} (h:mn op x y=some d):∃v,(binOp op ty (.string x) (.string y)).run P w=.ok v w∧RP w M d v:=by
 cases op with
 | add =>
  simp only[mn]at h
  split at h
  ·cases h
  ·rename_i hy
   simp only[afE]at h
   subst h
   refine⟨_,?_,.str _⟩
   simp only[binOp,Op.stringOp]
   rw[if_neg hy]
   rfl
 | eql=>simp only[mn,afE]at h;subst h;exact⟨_,by simp[binOp,Op.stringOp],.bool _⟩
 | neq=>simp only[mn,afE]at h;subst h;exact⟨_,by simp[binOp,Op.stringOp],.bool _⟩
 | lss=>simp only[mn,afE]at h;subst h;exact⟨_,by simp[binOp,Op.stringOp],.bool _⟩
 | leq=>simp only[mn,afE]at h;subst h;exact⟨_,by simp[binOp,Op.stringOp],.bool _⟩
 | gtr=>simp only[mn,afE]at h;subst h;exact⟨_,by simp[binOp,Op.stringOp],.bool _⟩
 | geq=>simp only[mn,afE]at h;subst h;exact⟨_,by simp[binOp,Op.stringOp],.bool _⟩
 | _=>simp[mn]at h
end
end Go.Proofs.YtmcncjgbkobjnaaGreat.Am
