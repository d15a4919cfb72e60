import Derived.WalkKit
import Derived.Orders
import Derived.Maps.AppendAt
import Derived.Laws.OwnMore
import Derived.Laws.CopyRow
import Derived.Laws.Concat
import Derived.Laws.Cover3
import Derived.WalkSmall
import Derived.MapKept
import Derived.ArgAppend
import Derived.Deep.LoopGhost
import Derived.Maps.RangeRun
import Derived.Test.YtgnoaanebhmegaaChecked
import Derived.KernelRfl
import GoSem.Claim
import Derived.RowKit
import Derived.Sort.Grow
import Derived.OpenShut
import Derived.Deep.Slices
import Derived.WideKeyArgs
import Derived.SizedLaws
import Derived.ProofKit
import Derived.Below
import Derived.Handed
import Derived.Lib.ItoaMem
import Derived.Lib.SlicesCompact
import Derived.Shelf.SlSortCmp.NoneTotal
import Derived.Ground.SlsfProg
import Derived.Shelf.SlSortCmp.Whole1
import Derived.Test.YtgnoaanebhmegaaProg
import Derived.Shelf.Spec.SlicesInsertGrow
import Derived.Shelf.GgSortFunc.InsertionK
import Derived.Shelf.SlSortCmp.Insertion
import Derived.Lib.Small
import Derived.Lib.Walk
import Derived.LoopTactic
import Derived.Test.YtgnoaanebhmegaaRows
set_option linter.unusedSimpArgs false
set_option linter.unusedVariables false
noncomputable section
open Go.Proofs.Try
namespace Go.Proofs.Ytgnoaanebhmegaa
theorem VB:type_of%@World.cell?_of_block:=@World.cell?_of_block
theorem VC:type_of%@List.getElem?_map.{0,0}:=@List.getElem?_map
theorem VD:type_of%@Option.map_eq_some_iff.{0,0}:=@Option.map_eq_some_iff
theorem VF:type_of%@List.mem_map.{0,0}:=@List.mem_map
theorem VG:type_of%@Nat.le_refl:=@Nat.le_refl
theorem VH:type_of%@Nat.zero_le:=@Nat.zero_le
theorem VI:type_of%@Nat.le_trans:=@Nat.le_trans
theorem VJ:type_of%@Nat.lt_of_lt_of_le:=@Nat.lt_of_lt_of_le
theorem VK:type_of%@Array.getElem?_eq_some_iff.{0}:=@Array.getElem?_eq_some_iff
theorem VL:type_of%@Array.getD_eq_getD_getElem?.{0}:=@Array.getD_eq_getD_getElem?
theorem VM:type_of%@List.map_cons.{0,0}:=@List.map_cons
theorem VN:type_of%@List.mem_cons.{0}:=@List.mem_cons
theorem VO:type_of%@Option.map_some.{0,0}:=@Option.map_some
theorem VP:type_of%@Option.some.injEq.{0}:=@Option.some.injEq
theorem VQ:type_of%@Array.getElem?_modify.{0}:=@Array.getElem?_modify
theorem VR:type_of%@List.all_eq_true.{0}:=@List.all_eq_true
theorem VS:type_of%@List.getElem_mem.{0}:=@List.getElem_mem
theorem VT:type_of%@List.getElem?_eq_getElem.{0}:=@List.getElem?_eq_getElem
theorem VU:type_of%@List.mem_append_left.{0}:=@List.mem_append_left
theorem VV:type_of%@List.mem_append_right.{0}:=@List.mem_append_right
theorem VW:type_of%@List.getElem?_take.{0}:=@List.getElem?_take
theorem VX:type_of%@List.getElem?_drop.{0}:=@List.getElem?_drop
theorem VY:type_of%@Nat.eq_zero_or_pos:=@Nat.eq_zero_or_pos
theorem VZ:type_of%@List.length_take.{0}:=@List.length_take
theorem V0:type_of%@List.length_drop.{0}:=@List.length_drop
theorem V1:type_of%@Nat.add_assoc:=@Nat.add_assoc
theorem V2:type_of%@List.getElem?_of_mem.{0}:=@List.getElem?_of_mem
theorem V3:type_of%@List.mem_singleton.{0}:=@List.mem_singleton
theorem V4:type_of%@List.cons.injEq.{0}:=@List.cons.injEq
theorem V5:type_of%@List.getElem?_cons_zero.{0}:=@List.getElem?_cons_zero
theorem V6:type_of%@List.length_cons.{0}:=@List.length_cons
theorem V7:type_of%@List.length_nil.{0}:=@List.length_nil
theorem V8:type_of%@List.mem_of_getElem?.{0}:=@List.mem_of_getElem?
theorem V9:type_of%@List.getElem?_eq_some_iff.{0}:=@List.getElem?_eq_some_iff
theorem Wa:type_of%@List.length_map.{0,0}:=@List.length_map
theorem Wb:type_of%@List.length_range:=@List.length_range
theorem Wc:type_of%@List.getElem_range:=@List.getElem_range
theorem Wd:type_of%@Sem.run_bind:=@Sem.run_bind
theorem We:type_of%@Result.andThen_ok:=@Result.andThen_ok
theorem Wf:type_of%@Nat.add_zero:=@Nat.add_zero
theorem Wg:type_of%@Bool.false_eq_true:=@Bool.false_eq_true
theorem Wh:type_of%@Bool.and_eq_true:=@Bool.and_eq_true
theorem Wi:type_of%@Bool.not_eq_true':=@Bool.not_eq_true'
theorem Wj:type_of%@List.getD_eq_getElem?_getD.{0}:=@List.getD_eq_getElem?_getD
theorem Wk:type_of%@List.getElem?_append_left.{0}:=@List.getElem?_append_left
theorem Wl:type_of%@List.getElem?_append_right.{0}:=@List.getElem?_append_right
theorem Wm:type_of%@Array.length_toList.{0}:=@Array.length_toList
theorem Wn:type_of%@List.getElem?_append.{0}:=@List.getElem?_append
theorem Wo:type_of%@List.mem_of_mem_drop.{0}:=@List.mem_of_mem_drop
theorem Wp:type_of%@Sem.run_pure:=@Sem.run_pure
theorem Wq:type_of%@List.mem_of_mem_take.{0}:=@List.mem_of_mem_take
theorem Wr:type_of%@Nat.lt_or_ge:=@Nat.lt_or_ge
theorem Ws:type_of%@Nat.mul_le_mul_right:=@Nat.mul_le_mul_right
theorem Wt:type_of%@Nat.zero_add:=@Nat.zero_add
theorem Wu:type_of%@List.map_nil.{0,0}:=@List.map_nil
theorem Wv:type_of%@Option.getD_some.{0}:=@Option.getD_some
theorem Ww:type_of%@Array.getElem?_toList.{0}:=@Array.getElem?_toList
theorem Wx:type_of%@Array.mapM_eq_mapM_toList.{0,0,0}:=@Array.mapM_eq_mapM_toList
theorem Wy:type_of%@Array.toList_map.{0,0}:=@Array.toList_map
theorem Wz:type_of%@Nat.mod_lt:=@Nat.mod_lt
theorem WA:type_of%@List.replicate_succ.{0}:=@List.replicate_succ
theorem WB:type_of%@Nat.mod_eq_of_lt:=@Nat.mod_eq_of_lt
theorem WC:type_of%@Nat.succ_mul:=@Nat.succ_mul
theorem WD:type_of%@Nat.mul_comm:=@Nat.mul_comm
theorem WE:type_of%@Int.natCast_mul:=@Int.natCast_mul
theorem WG:type_of%@Int.toNat_natCast:=@Int.toNat_natCast
theorem WH:type_of%@List.idxOf_cons.{0}:=@List.idxOf_cons
theorem WI:type_of%@List.contains_cons.{0}:=@List.contains_cons
theorem WJ:type_of%@List.all_cons.{0}:=@List.all_cons
theorem WK:type_of%@List.getD_cons_zero.{0}:=@List.getD_cons_zero
theorem WL:type_of%@List.not_mem_nil.{0}:=@List.not_mem_nil
theorem WM:type_of%@List.getElem?_cons_succ.{0}:=@List.getElem?_cons_succ
theorem WN:type_of%@List.length_append.{0}:=@List.length_append
theorem WQ:type_of%@Array.getElem?_eq_getElem.{0}:=@Array.getElem?_eq_getElem
theorem WR:type_of%@Nat.sub_self:=@Nat.sub_self
theorem WS:type_of%@Nat.min_eq_left:=@Nat.min_eq_left
theorem WT:type_of%@Nat.add_mul:=@Nat.add_mul
theorem WU:type_of%@Array.getElem_append.{0}:=@Array.getElem_append
theorem WV:type_of%@List.mem_append.{0}:=@List.mem_append
theorem WW:type_of%@Array.getElem?_extract.{0}:=@Array.getElem?_extract
theorem WX:type_of%@Array.getElem?_eq_none.{0}:=@Array.getElem?_eq_none
theorem WY:type_of%@List.eq_nil_of_length_eq_zero.{0}:=@List.eq_nil_of_length_eq_zero
theorem WZ:type_of%@Array.toList_append.{0}:=@Array.toList_append
theorem W0:type_of%@List.append_assoc.{0}:=@List.append_assoc
theorem W1:type_of%@List.drop_append_of_le_length.{0}:=@List.drop_append_of_le_length
theorem W2:type_of%@Nat.add_sub_cancel_left:=@Nat.add_sub_cancel_left
theorem W3:type_of%@List.take_append.{0}:=@List.take_append
theorem W4:type_of%@List.take_append_of_le_length.{0}:=@List.take_append_of_le_length
theorem W5:type_of%@List.take_of_length_le.{0}:=@List.take_of_length_le
theorem W6:type_of%@List.drop_zero.{0}:=@List.drop_zero
theorem W7:type_of%@Bool.not_true:=@Bool.not_true
theorem W8:type_of%@Bool.true_and:=@Bool.true_and
theorem W9:type_of%@List.mem_flatMap.{0,0}:=@List.mem_flatMap
theorem Xa:type_of%@List.map_congr_left.{0,0}:=@List.map_congr_left
theorem Xb:type_of%@List.mem_cons_self.{0}:=@List.mem_cons_self
theorem Xc:type_of%@List.mem_cons_of_mem.{0}:=@List.mem_cons_of_mem
theorem Xd:type_of%@List.toList_toArray.{0}:=@List.toList_toArray
theorem Xe:type_of%@Option.bind_some.{0,0}:=@Option.bind_some
theorem Xf:type_of%@Bool.or_eq_true:=@Bool.or_eq_true
theorem Xg:type_of%@List.getElem?_eq_none.{0}:=@List.getElem?_eq_none
theorem Xh:type_of%@List.mem_filter.{0}:=@List.mem_filter
theorem Xi:type_of%@List.pairwise_cons.{0}:=@List.pairwise_cons
theorem Xj:type_of%@List.nodup_cons.{0}:=@List.nodup_cons
theorem Xk:type_of%@Option.toList_some.{0}:=@Option.toList_some
theorem Xl:type_of%@List.mem_range:=@List.mem_range
theorem Xm:type_of%@Nat.le_of_not_lt:=@Nat.le_of_not_lt
theorem Xn:type_of%@Nat.zero_lt_one:=@Nat.zero_lt_one
theorem Xo:type_of%@List.nil_append.{0}:=@List.nil_append
theorem Xp:type_of%@Nat.le_of_ble_eq_true:=@Nat.le_of_ble_eq_true
theorem Xq:type_of%@List.drop_append.{0}:=@List.drop_append
theorem Xr:type_of%@List.drop_eq_nil_of_le.{0}:=@List.drop_eq_nil_of_le
theorem Xs:type_of%@List.drop_drop.{0}:=@List.drop_drop
theorem Xt:type_of%@List.take_append_drop.{0}:=@List.take_append_drop
theorem Xu:type_of%@Nat.zero_mul:=@Nat.zero_mul
theorem Xv:type_of%@Nat.div_lt_of_lt_mul:=@Nat.div_lt_of_lt_mul
theorem Xw:type_of%@List.length_pos_iff.{0}:=@List.length_pos_iff
theorem Xx:type_of%@List.append_nil.{0}:=@List.append_nil
theorem Xy:type_of%@List.cons_append.{0}:=@List.cons_append
theorem Xz:type_of%@List.drop_succ_cons.{0}:=@List.drop_succ_cons
theorem XA:type_of%@List.take_succ_cons.{0}:=@List.take_succ_cons
theorem XB:type_of%@List.drop_eq_getElem_cons.{0}:=@List.drop_eq_getElem_cons
theorem XC:type_of%@Bool.false_and:=@Bool.false_and
theorem XD:type_of%@Bool.not_false:=@Bool.not_false
theorem XE:type_of%@List.length_set.{0}:=@List.length_set
theorem XF:type_of%@List.Perm.refl.{0}:=@List.Perm.refl
theorem XG:type_of%@Int.lt_trichotomy:=@Int.lt_trichotomy
theorem XH:type_of%@Nat.div_add_mod:=@Nat.div_add_mod
theorem XI:type_of%@List.take_length.{0}:=@List.take_length
theorem XJ:type_of%@Int.mul_comm:=@Int.mul_comm
theorem XK:type_of%@Int.mul_one:=@Int.mul_one
theorem XL:type_of%@Int.mul_le_mul_of_nonneg_left:=@Int.mul_le_mul_of_nonneg_left
theorem XM:type_of%@Int.mul_add:=@Int.mul_add
theorem XN:type_of%@Int.mul_assoc:=@Int.mul_assoc
theorem XO:type_of%@List.take_add_one.{0}:=@List.take_add_one
theorem XP:type_of%@Int.ediv_nonneg:=@Int.ediv_nonneg
theorem XQ:type_of%@Int.ediv_lt_of_lt_mul:=@Int.ediv_lt_of_lt_mul
theorem XR:type_of%@Int.emod_lt_of_pos:=@Int.emod_lt_of_pos
theorem XS:type_of%@Int.mul_ediv_add_emod:=@Int.mul_ediv_add_emod
theorem XT:type_of%@Int.mul_nonneg:=@Int.mul_nonneg
theorem XU:type_of%@Int.mul_le_mul:=@Int.mul_le_mul
theorem XV:type_of%@List.getElem_set_ne.{0}:=@List.getElem_set_ne
theorem XW:type_of%@Int.mul_left_comm:=@Int.mul_left_comm
theorem XX:type_of%@Int.mul_sub:=@Int.mul_sub
theorem XY:type_of%@Int.add_mul:=@Int.add_mul
theorem XZ:type_of%@Int.mul_zero:=@Int.mul_zero
theorem X0:type_of%@Int.one_mul:=@Int.one_mul
theorem X1:type_of%@Int.mul_le_mul_of_nonneg_right:=@Int.mul_le_mul_of_nonneg_right
theorem X2:type_of%@Nat.div_eq_of_lt:=@Nat.div_eq_of_lt
theorem X3:type_of%@List.getLast?_eq_some_getLast.{0}:=@List.getLast?_eq_some_getLast
theorem X4:type_of%@Int.sign_eq_one_of_pos:=@Int.sign_eq_one_of_pos
theorem X5:type_of%@Int.sign_eq_neg_one_of_neg:=@Int.sign_eq_neg_one_of_neg
theorem X6:type_of%@Nat.gcd_zero_right:=@Nat.gcd_zero_right
theorem X7:type_of%@Nat.pos_of_ne_zero:=@Nat.pos_of_ne_zero
theorem X8:type_of%@List.length_filter_le.{0}:=@List.length_filter_le
theorem X9:type_of%@List.head?_drop.{0}:=@List.head?_drop
theorem Ya:type_of%@List.length_mapIdx.{0,0}:=@List.length_mapIdx
theorem Yb:type_of%@List.getElem?_mapIdx.{0,0}:=@List.getElem?_mapIdx
theorem Yc{α:Type}{a:α}:a=a:=Eq.trans rfl rfl
end Go.Proofs.Ytgnoaanebhmegaa
namespace Go.Proofs.Ytgnoaanebhmegaa.Am
open Go.RowKit
abbrev bC:=Int×Option Int
def iR:bC->Value
 | (n,none) =>.int .i64 n
 | (a,some b) =>.agg #[.int .i64 a,.int .i64 b]
def zB (k:bC):Bool:=k.2.isSome
theorem OH {k k':bC} (h:iR k=iR k'):k=k':=by
 obtain⟨a,x⟩:=k;obtain⟨b,y⟩:=k';cases x<;>cases y<;>simp[iR]at h
 ·subst h;rfl
 ·obtain⟨rfl,rfl⟩:=h;rfl
inductive D where
 | int (k:IntKind) (n:Int)
 | bool (b:Bool)
 | str (s:ByteArray)
 | sl (nl tight:Bool) (n:Nat) (xs:List D)
 | ptr (x v o:Nat)
 | ip (xs:List D)
 | buf (x v s o n:Nat)
 | agg (xs:List D)
 | tup (xs:List D)
 | fn (f:Nat)
 | clo (f k:Nat) (caps:List D)
 | ali (x v s o n:Nat)
 | box1 (x v s o n:Nat)
 | mp (x v:Nat)
 | mpc (ks:List bC) (vs:List D)
 | alm (x v:Nat)
 | pm (x v y:Nat)
 | ph (x s n:Nat)
 | nx (n:Nat) (xs:List D)
 | nr (ty s nv:Nat) (cs:List D)
 | und
 | skp
structure Row where
 v:Nat
 ty:Nat
 cells:List D
 fz:Bool
 lst:Bool
 mp:Bool:=false
def aF:D->Bool
 | .int _ _ | .bool _ | .str _ | .sl _ _ _ _ | .ali _ _ _ _ _ | .mpc _ _ | .alm _ _=>true
 | _=>false
def canon:D->D
 | .sl _ _ n xs =>.sl false false n xs
 | d=>d
def dT:D->D
 | .sl _ _ n xs =>.sl false false n xs
 | .agg xs =>.agg (xs.map canon)
 | d=>d
def bj {α:Type} (f:Nat->α) (i:Nat) (v:α):Nat->α:=fun j=>if j=i then v else f j
inductive Ds where
 | int (k:IntKind)|bool|str
 | struct (fs:List (Nat×Nat))
 | slice (e:Nat)
 | arr (n e:Nat)
 | map (k e:Nat)
 | other
structure Ty where
 ds:Ds
 size:Nat
 bytes:Nat
 zero:List Value
 eqok:Bool:=false
def conv:TypeDesc->Ds
 | .int k =>.int k
 | .bool =>.bool
 | .string =>.str
 | .struct F =>.struct (F.toList.map fun f=>(f.type,f.offset))
 | .slice e =>.slice e
 | .array n e =>.arr n e
 | .map k e =>.map k e
 | _ =>.other
def jR:Value->D
 | .int k n =>.int k n
 | .bool b =>.bool b
 | .string s =>.str s
 | .slice none 0 0 =>.sl true true 0 []
 | .map none =>.mpc [] []
 | _ =>.und
def Ds.ko:Ds->Bool
 | .struct _ | .arr _ _=>true
 | _=>false
def ev (t:Nat->D):Operand->D
 | .tmp i=>t i
 | .const v=>jR v
 | .global _ =>.und
 | .func f =>.fn f
def IG:Value->Bool
 | .agg _=>true
 | _=>false
structure fW (P:Program) (t:Nat) (τ:Ty):Prop where
 desc:(P.underlying t).map conv=some τ.ds
 info:(P.info? t).map (fun i=>(i.size,i.bytes,i.zero.map fun z=>z.cells.toList))=some (τ.size,τ.bytes,some τ.zero)
 agg:(P.info? t).map (fun i=>i.zero.map IG)=some (some τ.ds.ko)
 eqs:τ.eqok=true->P.stoodInHeld t=false∧P.eqGuardType P.depth t=false∧(match P.underlying t with|some (.struct F)=>F.all (fun f=>f.name != "_")|_=>true)=true
def fb (P:Program) (T:Nat->Option Ty):Prop:=∀t τ,T t=some τ->fW P t τ
inductive RP (w:World) (M:Nat->Prop):D->Value->Prop
 | int (k:IntKind) (n:Int):RP w M (.int k n) (.int k n)
 | bool (b:Bool):RP w M (.bool b) (.bool b)
 | str (s:ByteArray):RP w M (.str s) (.string s)
 | sl (A:Option Addr) (c:Nat) (nl tight:Bool) (n:Nat) (xs:List D) (us:Nat->Value) (h1:n<=c) (h2:c<=maxLen) (h3:nl=true->(tight=true->A=none∧c=0)∧(tight=false->A≠none)) (h4:A=none->n=0∧c=0)
   (h5:tight=true->c=n) (h6:xs≠[]->∃b o,A=some ⟨b,o,none⟩∧b<w.heap.size∧¬M b∧∀j,j<xs.length->w.cell? ⟨b,o+j,none⟩=some (us j))
   (h7:∀j x,xs[j]? = some x->RP w M x (us j)) (h8:∀x∈xs,aF x=true):RP w M (.sl nl tight n xs) (.slice A n c)
 | ip (xs:List D) (ad:Addr) (us:Nat->Value) (h6:xs≠[]->∃b o,ad=⟨b,o,none⟩∧b<w.heap.size∧¬M b∧∀j,j<xs.length->w.cell? ⟨b,o+j,none⟩=some (us j))
   (h7:∀j x,xs[j]? = some x->RP w M x (us j)) (h8:∀x∈xs,aF x=true):RP w M (.ip xs) (.pointer (some ad))
 | agg (xs:List D) (us:List Value) (h1:us.length=xs.length) (h2:∀j x,xs[j]? = some x->RP w M x (us.getD j undef)) (h3:∀x∈xs,aF x=true):RP w M (.agg xs) (.agg us.toArray)
 | tup (xs:List D) (us:List Value) (h1:us.length=xs.length) (h2:∀j x,xs[j]? = some x->RP w M x (us.getD j undef)):RP w M (.tup xs) (.tuple us.toArray)
 | fn (f:Nat):RP w M (.fn f) (.func (.func f) #[] #[])
 | ali (x v s o n:Nat) (u:Value) (h1:u.oneCell'=true):RP w M (.ali x v s o n) u
 | alm (x v:Nat) (u:Value) (h1:u.oneCell'=true):RP w M (.alm x v) u
 | mpc (ks:List bC) (vs:List D) (mb:Option Nat) (us:Nat->Value) (h1:vs.length=ks.length) (h2:mb=none->ks=[])
   (h3:∀b,mb=some b->b<w.heap.size∧¬M b∧∃(ents:Array MapEntry) (clock:Nat),w.heap[b]? = some (.map ents clock)∧ents.size=ks.length∧∀j k,ks[j]? = some k->∃e:MapEntry,ents[j]? = some e∧e.key=iR k∧e.val=us j)
   (h4:∀j x,vs[j]? = some x->RP w M x (us j)):RP w M (.mpc ks vs) (.map mb)
 | clo (f k:Nat) (xs:List D) (us:List Value) (h1:us.length=xs.length) (h2:∀j x,xs[j]? = some x->RP w M x (us.getD j undef)):RP w M (.clo f k xs) (.func (.func f) (us.take k).toArray (us.drop k).toArray)
theorem RP.keep {w w':World} {M M':Nat->Prop} (hk:∀b,b<w.heap.size->¬M b->b<w'.heap.size∧¬M' b∧w'.heap[b]? = w.heap[b]?) {d:D} {u:Value} (h:RP w M d u):RP w' M' d u:=by
 induction h with
 | int k n=>exact .int k n
 | bool b=>exact .bool b
 | str s=>exact .str s
 | sl A c nl tight n xs us h1 h2 h3 h4 h5 h6 h7 h8 O =>
  refine .sl A c nl tight n xs us h1 h2 h3 h4 h5 (fun U =>?_) O h8;obtain⟨b,o,hA,X,hM,hc⟩:=h6 U;obtain⟨Y,Z,k3⟩:=hk b X hM;exact⟨b,o,hA,Y,Z,fun j hj=>(VB (a:=⟨b,o+j,none⟩) k3).trans (hc j hj)⟩
 | ip xs ad us h6 h7 h8 O =>
  refine .ip xs ad us (fun U =>?_) O h8;obtain⟨b,o,hA,X,hM,hc⟩:=h6 U;obtain⟨Y,Z,k3⟩:=hk b X hM;exact⟨b,o,hA,Y,Z,fun j hj=>(VB (a:=⟨b,o+j,none⟩) k3).trans (hc j hj)⟩
 | agg xs us h1 h2 h3 O=>exact .agg xs us h1 O h3
 | tup xs us h1 h2 O=>exact .tup xs us h1 O
 | fn f=>exact .fn f
 | ali x v s o n u h1=>exact .ali x v s o n u h1
 | alm x v u h1=>exact .alm x v u h1
 | mpc ks vs mb us h1 h2 h3 h4 O =>
  refine .mpc ks vs mb us h1 h2 (fun b X =>?_) O;obtain⟨Y,Z,ents,clock,k3,k4,k5⟩:=h3 b X;obtain⟨q1,q2,q3⟩:=hk b Y Z;exact⟨q1,q2,ents,clock,q3.trans k3,k4,k5⟩
 | clo f kk xs us h1 h2 O=>exact .clo f kk xs us h1 O
theorem RP.canon {w:World} {M:Nat->Prop} {d:D} {u:Value} (h:RP w M d u):RP w M (canon d) u:=by
 cases h with
 | sl A c nl tight n xs us h1 h2 h3 h4 h5 h6 h7 h8=>exact .sl A c false false n xs us h1 h2 (fun h=>by cases h) h4 (fun h=>by cases h) h6 h7 h8
 | int k n=>exact .int k n
 | bool b=>exact .bool b
 | str s=>exact .str s
 | ip xs ad us h6 h7 h8=>exact .ip xs ad us h6 h7 h8
 | agg xs us h1 h2 h3=>exact .agg xs us h1 h2 h3
 | tup xs us h1 h2=>exact .tup xs us h1 h2
 | fn f=>exact .fn f
 | ali x v s o n u h1=>exact .ali x v s o n u h1
 | alm x v u h1=>exact .alm x v u h1
 | mpc ks vs mb us h1 h2 h3 h4=>exact .mpc ks vs mb us h1 h2 h3 h4
 | clo f O xs us h1 h2=>exact .clo f O xs us h1 h2
theorem jj (d:D):aF (canon d)=aF d:=by cases d<;>rfl
theorem RP.dT {w:World} {M:Nat->Prop} {d:D} {u:Value} (h:RP w M d u):RP w M (dT d) u:=by
 cases h with
 | agg xs us h1 h2 h3 =>
  refine .agg _ us (by simpa using h1) (fun j x U =>?_) (fun x X =>?_)
  ·rw[VC,VD]at U;obtain⟨y,O,rfl⟩:=U;exact (h2 j y O).canon
  ·obtain⟨y,O,rfl⟩:=VF.1 X;rw[jj];exact h3 y O
 | sl A c nl tight n xs us h1 h2 h3 h4 h5 h6 h7 h8=>exact .sl A c false false n xs us h1 h2 (fun h=>by cases h) h4 (fun h=>by cases h) h6 h7 h8
 | int k n=>exact .int k n
 | bool b=>exact .bool b
 | str s=>exact .str s
 | ip xs ad us h6 h7 h8=>exact .ip xs ad us h6 h7 h8
 | tup xs us h1 h2=>exact .tup xs us h1 h2
 | fn f=>exact .fn f
 | ali x v s o n u h1=>exact .ali x v s o n u h1
 | alm x v u h1=>exact .alm x v u h1
 | mpc ks vs mb us h1 h2 h3 h4=>exact .mpc ks vs mb us h1 h2 h3 h4
 | clo f Y xs us h1 h2=>exact .clo f Y xs us h1 h2
def RC (w:World) (M:Nat->Prop) (h:Nat->Option Row) (blk:Nat->Option (Nat×Nat)) (V:Nat->Nat->Prop):D->Value->Prop
 | .ptr x v o,u=>V x v∧∀r,h x=some r->r.v=v->∃g,blk x=some g∧u=.pointer (some ⟨g.1,g.2+o,none⟩)
 | .mp x v,u=>V x v∧∀r,h x=some r->r.v=v->∃g,blk x=some g∧u=.map (some g.1)
 | .pm x v _,u=>V x v∧∀r,h x=some r->r.v=v->∃g,blk x=some g∧u=.pointer (some ⟨g.1,g.2+0,none⟩)
 | d,u=>RP w M d u
def RT (w:World) (M:Nat->Prop) (h:Nat->Option Row) (blk:Nat->Option (Nat×Nat)) (V:Nat->Nat->Prop):D->Value->Prop
 | .ptr x v o,u=>V x v∧∀r,h x=some r->r.v=v->∃g,blk x=some g∧u=.pointer (some ⟨g.1,g.2+o,none⟩)
 | .buf x v s o n,u=>V x v∧∀r,h x=some r->r.v=v ->
   (∃g o' c N t,blk x=some g∧u=.slice (some ⟨g.1,o',none⟩) n c∧(0<c∨o=0->o'=g.2+o∧c*s+o'=N)∧n<=c∧c<=maxLen∧w.shape? g.1=some (t,N))∨(blk x=none∧n=0∧∃A,u=.slice A 0 0)
 | .clo f O xs,u=>∃us:List Value,u=.func (.func f) (us.take O).toArray (us.drop O).toArray∧us.length=xs.length∧∀(j:Nat) x,xs[j]? = some x->RC w M h blk V x (us.getD j undef)
 | .mp x v,u=>V x v∧∀r,h x=some r->r.v=v->∃g,blk x=some g∧u=.map (some g.1)
 | .pm x v _,u=>V x v∧∀r,h x=some r->r.v=v->∃g,blk x=some g∧u=.pointer (some ⟨g.1,g.2+0,none⟩)
 | .box1 x v s o n,u=>∃u':Value,u=.agg #[u']∧u'.oneCell'=true∧V x v∧∀r,h x=some r->r.v=v ->
   (∃g o' c N t,blk x=some g∧u'=.slice (some ⟨g.1,o',none⟩) n c∧(0<c∨o=0->o'=g.2+o∧c*s+o'=N)∧n<=c∧c<=maxLen∧w.shape? g.1=some (t,N))∨(blk x=none∧n=0∧∃A,u'=.slice A 0 0)
 | .und,_=>True
 | .skp,u=>u=undef
 | d,u=>RP w M d u
def Own (M:Nat->Prop) (h:Nat->Option Row) (blk:Nat->Option (Nat×Nat)) (b:Nat):Prop:=M b∨∃x r g,h x=some r∧r.fz=false∧blk x=some g∧g.1=b
def M0 (w:World) (M:Nat->Prop) (g:Nat×Nat) (r:Row):Prop :=
 ∃cs:Array Value,w.heap[g.1]? = some (.cells cs r.ty (0,0))∧g.2+r.cells.length<=cs.size∧∀j d,r.cells[j]? = some d->aF d=true∧RP w M d (cs.getD (g.2+j) undef)
def Qf (w:World) (M:Nat->Prop) (g:Nat×Nat) (ks:List bC) (vs:List D):Prop :=
 ∃(ents:Array MapEntry) (clock:Nat),w.heap[g.1]? = some (.map ents clock)∧ents.size=ks.length∧MapKept.Stamped ents clock∧∃us:Nat->Value,(∀j k,ks[j]? = some k->∃e:MapEntry,ents[j]? = some e∧e.key=iR k∧e.val=us j)∧∀j x,vs[j]? = some x->RP w M x (us j)
def DJ (w:World) (M:Nat->Prop) (g:Nat×Nat) (ty:Nat) (ks:List bC) (vs:List D):Prop :=
 g.2=0∧∃(b:Nat) (ents:Array MapEntry) (clock:Nat) (seen:Array Nat) (c l:List Nat) (us:Nat->Value),w.heap[g.1]? = some (.mapIter (some b) clock seen clock)∧b<w.heap.size∧¬M b∧w.heap[b]? = some (.map ents clock)∧MapKept.Stamped ents clock ∧
  c.length=ty-900000∧c.length<=1∧(c++l).length=ks.length∧l.Nodup∧(∀i,i∈l↔∃e:MapEntry,ents[i]? = some e∧seen.contains e.born=false)∧(∀i,i∈c->∃e:MapEntry,ents[i]? = some e∧seen.back? = some e.born) ∧
  (∀j k,ks[j]? = some k->∃(i:Nat) (e:MapEntry),(c++l)[j]? = some i∧ents[i]? = some e∧e.key=iR k∧e.val=us j)∧∀j x,vs[j]? = some x->RP w M x (us j)
def rR (w:World) (M:Nat->Prop) (g:Nat×Nat) (r:Row):Prop :=
 ∃ks vs,r.cells=[.mpc ks vs]∧vs.length=ks.length∧(r.ty<900000->Qf w M g ks vs)∧(900000<=r.ty->DJ w M g r.ty ks vs)
def UT:D->Bool
 | .ph _ _ _ | .und | .int _ _ | .bool _ | .str _ | .sl _ _ _ _=>true
 | _=>false
def vV (w:World) (M:Nat->Prop):D->Value->Prop
 | .ph _ _ _,_=>True
 | .und,_=>True
 | d,u=>RP w M d u
def vW (w:World) (M:Nat->Prop) (g:Nat×Nat) (r:Row):Prop:=(∀d∈r.cells,UT d=true)∧∃cs:Array Value,w.heap[g.1]? = some (.cells cs r.ty (0,0))∧g.2+r.cells.length<=cs.size∧∀j d,r.cells[j]? = some d->vV w M d (cs.getD (g.2+j) undef)
def cr (w:World) (M:Nat->Prop) (g:Nat×Nat) (r:Row):Prop :=
 match r.mp with
 | true=>rR w M g r∨vW w M g r
 | false=>M0 w M g r
def Jw (L:Nat->Prop) (w0 w:World) (M:Nat->Prop) (g:Option (Nat×Nat)) (r:Row):Prop :=
 match g with
 | some g=>(w0.heap.size<=g.1∨L g.1)∧cr w M g r
 | none=>r.cells=[]
def PE:Option Nat:=none
def SI:Array Value:=((List.range 20).map fun i=>Value.int .u64 ((10 ^ i:Nat):Int)).toArray
structure Jx (w:World) (M:Nat->Prop) (b:Nat):Prop where
 lt:b<w.heap.size
 no:¬M b
 is:∃ty fr,w.heap[b]? = some (.cells SI ty fr)
theorem Jx.less {w:World} {M1 M2:Nat->Prop} {b:Nat} (h:Jx w M1 b) (hm:∀b,M2 b->M1 b):Jx w M2 b:=⟨h.lt,fun O=>h.no (hm _ O),h.is⟩
def LP (w:World) (M:Nat->Prop):Prop:=∀b,PE=some b->Jx w M b
theorem LP.keep {w w':World} {M M':Nat->Prop} (hk:∀b,b<w.heap.size->¬M b->b<w'.heap.size∧¬M' b∧w'.heap[b]? = w.heap[b]?) (h:LP w M):LP w' M':=fun b O=>by
 obtain⟨h1,h2,ty,fr,h3⟩:=h b O;obtain⟨U,X,Y⟩:=hk b h1 h2;exact⟨U,X,ty,fr,Y.trans h3⟩
structure cC (L:Nat->Prop) (w0 w:World):Prop where
 os:w.os=w0.os
 tape:w.tape=w0.tape
 output:w.output=w0.output
 size:w0.heap.size<=w.heap.size
 block:∀k,k<w0.heap.size->¬L k->w.heap[k]? = w0.heap[k]?
def Un:D->Option D
 | .ali x v s o n=>some (.buf x v s o n)
 | .alm x v=>some (.mp x v)
 | _=>none
abbrev fV:=Option (Option (Nat×Nat)×(Nat->Prop))
def LB (L:fV) (b:Nat):Prop:=∃p,L=some p∧((∃g:Nat×Nat,p.1=some g∧b=g.1)∨p.2 b)
def C9 (go:Option (Nat×Nat)):fV:=some (go,fun _=>False)
theorem lT {b:Nat} : ¬LB none b:=fun⟨_,h,_⟩=>by cases h
theorem Cx {go:Option (Nat×Nat)} {b:Nat} : LB (C9 go) b↔∃g,go=some g∧b=g.1 :=
 ⟨fun⟨p,h1,h2⟩=>by cases h1;exact h2.elim id False.elim,fun h=>⟨_,rfl,.inl h⟩⟩
def PK:Nat:=1000000
def NK (y j:Nat):Nat:=PK*(j+2)+y
def HZ (y j x:Nat):Prop:=y<PK∧(x=PK+y∨x=NK y j)
def Ra (w:World) (h:Nat->Option Row) (blk:Nat->Option (Nat×Nat)) (x s n:Nat) (u:Value):Prop:=∀r,h x=some r ->
 (∃g c O ty,blk x=some g∧u=.slice (some ⟨g.1,g.2,none⟩) n c∧c*s+g.2=O∧n<=c∧c<=maxLen∧w.shape? g.1=some (ty,O))∨(blk x=none∧n=0∧∃A,u=.slice A 0 0)
structure fY (N:Nat) (V:Nat->Nat->Prop) (d e:Nat):Prop where
 no:¬V d e
 lt:d<N
structure Inv (N:Nat) (M:Nat->Prop) (L:fV) (w0:World) (blk:Nat->Option (Nat×Nat)) (V:Nat->Nat->Prop) (t:Nat->D) (h:Nat->Option Row) (a:Act) (w:World):Prop where
 tab:LP w (Own M h blk)
 below:cC (LB L) w0 w
 mlt:∀b,M b->b<w0.heap.size
 lent:∀b,LB L b->¬M b
 pin:∀go,L=some go->V 0 0∧∀r,h 0=some r->r.v=0->blk 0=go.1∧∀g,go.1=some g->w.shape? g.1=w0.shape? g.1
 defers:a.defers=[]
 tsz:a.tmps.size=N
 slots:∀i,RT w (Own M h blk) h blk V (t i) (a.tmps.getD i undef)
 rows:∀x r,h x=some r->(x<N->V x r.v)∧Jw (LB L) w0 w (Own M h blk) (blk x) r
 inj:∀x y r s g g',h x=some r->h y=some s->blk x=some g->blk y=some g'->g.1=g'.1->x=y
 ali:∀y r g,h y=some r->r.fz=true->r.lst=false->blk y=some g->∀j c d,r.cells[j]? = some c->Un c=some d->∃u,w.cell? ⟨g.1,g.2+j,none⟩=some u∧RT w (Own M h blk) h blk V d u
 big:N<=PK
 pha:∀y r g,h y=some r->r.mp=true->blk y=some g->∀j x s n:Nat,r.cells[j]? = some (D.ph x s n)->HZ y j x∧∃u,w.cell? ⟨g.1,g.2+j,none⟩=some u∧Ra w h blk x s n u
def ey:D->List Nat
 | .ptr x _ _=>[x]
 | .box1 x _ _ _ _=>[x]
 | .mp x _=>[x]
 | .pm x _ y=>[x,y]
 | .buf x _ _ _ _=>[x]
 | _=>[]
def nm:D->List Nat
 | .clo _ _ xs=>xs.flatMap ey
 | d=>ey d
def live (h:Nat->Option Row) (x v:Nat):Option Row :=
 match h x with
 | some r=>if r.v=v∧r.mp=false then some r else none
 | none=>none
def jX (h:Nat->Option Row) (x v:Nat):Option Row :=
 match h x with
 | some r=>if r.v=v then some r else none
 | none=>none
def iL (h:Nat->Option Row) (x v:Nat):Option (Row×Nat×Nat×Nat) :=
 match h x with
 | some r=>if r.v=v∧r.mp=true then (match r.cells with | [.ph y s n]=>some (r,y,s,n)|_=>none) else none
 | none=>none
def fi (h:Nat->Option Row) (x v:Nat):Option (List bC×List D) :=
 match h x with
 | some r=>if r.v=v∧r.mp=true∧r.ty<900000 then (match r.cells with | [.mpc ks vs]=>some (ks,vs)|_=>none) else none
 | none=>none
def mL (r:Row):Bool :=
 match r.mp,r.cells with
 | true,[.mpc _ _]=>decide (r.ty<900000)
 | true,_=>false
 | false,_=>true
def rv (h:Nat->Option Row) (x v:Nat):Option Row :=
 match h x with
 | some r=>if r.v=v∧r.mp=true∧mL r=true then some r else none
 | none=>none
def sC (d:D) (h:Nat->Option Row) (x v:Nat):Option Row :=
 match d with
 | .mp _ _=>rv h x v
 | _=>live h x v
def content (h:Nat->Option Row):D->Option (Nat×List D)
 | .sl _ _ n xs=>some (n,xs)
 | .buf x v s o n =>
  match live h x v with
  | some r=>if o+n*s<=r.cells.length then some (n,(r.cells.drop o).take (n*s)) else none
  | none=>none
 | _=>none
def b9 (h:Nat->Option Row):D->Option (D×List Nat)
 | .int k n=>some (.int k n,[])
 | .bool b=>some (.bool b,[])
 | .str s=>some (.str s,[])
 | .sl a b n xs=>some (.sl a b n xs,[])
 | .buf x v s o n =>
  match live h x v with
  | some r=>if o+n*s<=r.cells.length then some (.sl false false n ((r.cells.drop o).take (n*s)),[x]) else none
  | none=>none
 | _=>none
def cT (h:Nat->Option Row):D->Option (List D×List Nat)
 | .agg xs=>some (xs,[])
 | d =>
  match b9 h d with
  | some (O,fr)=>some ([O],fr)
  | none=>none
def aD (h:Nat->Option Row):D->Option (D×List Nat)
 | .ptr x v o =>
  match live h x v with
  | some r=>if o<=r.cells.length then some (.ip (r.cells.drop o),[x]) else none
  | none=>none
 | .agg xs=>some (.agg (xs.map canon),[])
 | .ip xs=>some (.ip xs,[])
 | .fn f=>some (.fn f,[])
 | .box1 x v s o n =>
  match b9 h (.buf x v s o n) with
  | some (O,fr)=>some (.agg [canon O],fr)
  | none=>none
 | .mp x v =>
  match fi h x v with
  | some (ks,vs)=>some (.mpc ks vs,[x])
  | none=>none
 | .mpc ks vs=>some (.mpc ks vs,[])
 | .pm x v y =>
  match live h x v with
  | some r =>
   match r.cells with
   | [.alm y' U] =>
    if r.fz=true∧r.lst=false∧y'=y then
     match fi h y U with
     | some (ks,vs)=>some (.ip [.mpc ks vs],[x,y])
     | none=>none
    else none
   | _=>none
  | none=>none
 | d =>
  match b9 h d with
  | some (O,fr)=>some (canon O,fr)
  | none=>none
def bU (h:Nat->Option Row):List D->Option (List D×List Nat)
 | []=>some ([],[])
 | d::ds =>
  match aD h d with
  | some (X,fr) =>
   match bU h ds with
   | some (O,U)=>some (X::O,fr++U)
   | none=>none
  | none=>none
def aV (h:Nat->Option Row):D->Option (D×List Nat)
 | .clo f O xs =>
  match bU h xs with
  | some (U,fr)=>some (.clo f O U,fr)
  | none=>none
 | d=>aD h d
def aO (h:Nat->Option Row):List D->Option (List D×List Nat)
 | []=>some ([],[])
 | d::ds =>
  match aV h d with
  | some (X,fr) =>
   match aO h ds with
   | some (O,U)=>some (X::O,fr++U)
   | none=>none
  | none=>none
def mJ (r:Row):Row :=
 match r.fz with
 | true=>r
 | false=>{ r with fz:=true,lst:=true }
def fB (h:Nat->Option Row) (fr:List Nat):List (Nat×Option Row):=fr.map fun x=>(x,(h x).map mJ)
structure aR where
 val:D
 hw:List (Nat×Option Row)
def ay (h:Nat->Option Row):List (Nat×Option Row)->Nat->Option Row
 | []=>h
 | (x,r)::l=>ay (bj h x r) l
def l3 (b:Bool) (cs:List D):List D:=if b then cs.map canon else cs
def putCells (cells:List D) (o:Nat) (cs:List D):List D:=cells.take o++cs++cells.drop (o+cs.length)
def gP (τ:Ty) (cs:List D):Option D :=
 if τ.ds.ko then some (.agg cs) else match cs with | [d]=>some d|_=>none
def H4 (b:Bool):List D->Option D
 | [.ali x v s o n]=>some (if b then .box1 x v s o n else .buf x v s o n)
 | _=>none
def ch (τ:Ty) (h:Nat->Option Row):D->Option aR
 | .ptr x v o =>
  match live h x v with
  | some r=>if o+τ.size<=r.cells.length then (match gP τ ((r.cells.drop o).take τ.size) with|some d=>some ⟨d,[]⟩|none=>none) else none
  | none=>none
 | .ip xs=>if τ.size<=xs.length then (match gP τ (xs.take τ.size) with|some d=>some ⟨d,[]⟩|none=>none) else none
 | _=>none
def kZ (τ:Ty) (h:Nat->Option Row) (x v o:Nat):Option Row->Option aR
 | some r =>
  if r.fz && !r.lst then
   if o+τ.size<=r.cells.length then
    match H4 τ.ds.ko ((r.cells.drop o).take τ.size) with
    | some d=>some ⟨d,[]⟩
    | none=>ch τ h (.ptr x v o)
   else none
  else ch τ h (.ptr x v o)
 | none=>none
def kY (τ:Ty) (h:Nat->Option Row) (x v y:Nat):Option (Row×Nat×Nat×Nat)->Option aR
 | some (_,y',s,n) =>
  match h y with
  | some r=>if y'=y∧y=PK+x∧r.mp=false∧r.lst=true∧r.cells.length=n*s∧τ.size=1 then some ⟨if τ.ds.ko then .agg [.sl false false n r.cells] else .sl false false n r.cells,fB h [y]⟩ else none
  | none=>none
 | none=>none
def jV (τ:Ty) (h:Nat->Option Row):D->Option aR
 | .ptr x v o=>kZ τ h x v o (live h x v)
 | .pm x v y =>
  match live h x v with
  | some r =>
   match r.cells with
   | [.alm y' O]=>if r.fz=true∧r.lst=false∧τ.size=1∧τ.ds.ko=false then some ⟨.mp y' O,[]⟩ else none
   | _=>none
  | none=>kY τ h x v y (iL h x v)
 | d=>ch τ h d
def bQ (τ:Ty) (h:Nat->Option Row):D->D->Option aR
 | .ptr x v o,d =>
  match live h x v with
  | some r =>
   match cT h d with
   | some (cs,fr)=>if cs.length=τ.size∧o+τ.size<=r.cells.length∧r.fz=false∧fr.contains x=false then some ⟨.und,fB h fr++[(x,some { r with cells:=putCells r.cells o (l3 r.lst cs) })]⟩ else none
   | none=>none
  | none=>none
 | _,_=>none
def bW (τ:Ty) (h:Nat->Option Row) (p d:D):Option aR :=
 match d with
 | .box1 y O s U n =>
  match p with
  | .ptr x v o =>
   match live h x v with
   | some r=>if τ.size=1∧o=0∧r.cells.length=1∧r.fz=false∧r.lst=false then some ⟨.und,[(x,some ⟨r.v,r.ty,[.ali y O s U n],true,false,false⟩)]⟩ else none
   | none=>none
  | .pm x v k =>
   match live h x v,live h y O with
   | some r,some q=>if τ.size=1∧U=0∧r.cells.length=1∧r.fz=false∧r.lst=false∧q.fz=false∧q.lst=true∧q.cells.length=n*s∧x≠y∧k=PK+x∧x<PK then
     some ⟨.und,[(y,none),(k,some ⟨0,q.ty,q.cells,false,true,false⟩),(x,some ⟨r.v,r.ty,[.ph k s n],false,false,true⟩)]⟩ else none
   | _,_=>none
  | _=>none
 | .mp y' X =>
  match p with
  | .pm x v y =>
   match live h x v with
   | some r=>if τ.size=1∧y'=y∧r.cells.length=1∧r.fz=false∧r.lst=false∧(fi h y X).isSome then some ⟨.und,[(x,some ⟨r.v,r.ty,[.alm y' X],true,false,false⟩)]⟩ else none
   | none=>none
  | _=>none
 | d=>bQ τ h p d
def gh (h:Nat->Option Row):D->Option aR
 | .ptr x v o=>match jX h x v with|some _=>some ⟨.ptr x v o,[]⟩|none=>none
 | .ip xs=>some ⟨.ip xs,[]⟩
 | _=>none
def cw (T:Nat->Option Ty) (τ:Ty) (h:Nat->Option Row) (i:Nat):D->Option aR
 | .ptr x v o =>
  match jX h x v,τ.ds with
  | some _,.struct fs=>match fs[i]? with
   | some (O,off)=>match T O with|some φ=>if φ.size=0 then none else some ⟨.ptr x v (o+off),[]⟩|none=>none
   | none=>none
  | _,_=>none
 | .pm x v k =>
  match iL h x v,τ.ds with
  | some _,.struct fs=>match fs[i]? with
   | some (O,0)=>match T O with|some φ=>if φ.size=0 then none else some ⟨.pm x v k,[]⟩|none=>none
   | _=>none
  | _,_=>none
 | .ip xs =>
  match τ.ds with
  | .struct fs=>match fs[i]? with
   | some (O,off)=>match T O with|some φ=>if φ.size=0 then none else some ⟨.ip (xs.drop off),[]⟩|none=>none
   | none=>none
  | _=>none
 | _=>none
def BE (φ:Ty) (xs:List D) (off:Nat):Option D :=
 if φ.ds.ko then (if off+φ.size<=xs.length then some (.agg ((xs.drop off).take φ.size)) else none) else xs[off]?
def ja (T:Nat->Option Ty) (τ:Ty) (i:Nat):D->Option aR
 | .agg xs =>
  match τ.ds with
  | .struct fs=>match fs[i]? with
   | some (O,off)=>match T O with|some φ=>(match BE φ xs off with|some d=>some ⟨d,[]⟩|none=>none)|none=>none
   | none=>none
  | _=>none
 | _=>none
def aU (T:Nat->Option Ty) (τ:Ty) (h:Nat->Option Row):D->D->Option aR
 | .sl _ _ n xs,.int _ i =>
  match τ.ds with
  | .slice el=>match T el with|some φ=>if 0<=i∧i<n then some ⟨.ip (xs.drop (i.toNat*φ.size)),[]⟩ else none|none=>none
  | _=>none
 | .buf x v s o n,.int _ i =>
  match jX h x v,τ.ds with
  | some _,.slice el=>match T el with|some φ=>if φ.size=s∧0<=i∧i<n then some ⟨.ptr x v (o+i.toNat*s),[]⟩ else none|none=>none
  | _,_=>none
 | .ptr x v o,.int _ i =>
  match live h x v,τ.ds with
  | some _,.arr n el=>match T el with|some φ=>if 0<=i∧i<n then some ⟨.ptr x v (o+i.toNat*φ.size),[]⟩ else none|none=>none
  | _,_=>none
 | _,_=>none
def eh (T:Nat->Option Ty) (τ:Ty):D->D->Option aR
 | .str s,.int _ i =>
  match τ.ds with
  | .str=>if 0<=i then (match s[i.toNat]? with|some b=>some ⟨.int .u8 b.toNat,[]⟩|none=>none) else none
  | _=>none
 | .agg xs,.int _ i =>
  match τ.ds with
  | .arr n el=>match T el with|some φ=>if 0<=i∧i<n then (match BE φ xs (i.toNat*φ.size) with|some d=>some ⟨d,[]⟩|none=>none) else none|none=>none
  | _=>none
 | _,_=>none
def lv:D->Option Nat
 | .int _ i=>if 0<=i then some i.toNat else none
 | _=>none
def oB (n:Nat) (O U:Option D):Option (Nat×Nat) :=
 match (match U with|none=>some n|some d=>lv d),(match O with|none=>some 0|some d=>lv d) with
 | some h,some l=>if l<=h∧h<=n then some (l,h) else none
 | _,_=>none
def bJ (T:Nat->Option Ty) (τ:Ty) (h:Nat->Option Row) (x:D) (U O X:Option D):Option aR :=
 match x with
 | .str s =>
  match τ.ds,X,oB s.size U O with
  | .str,none,some (l,k)=>some ⟨.str (s.extract l k),[]⟩
  | _,_,_=>none
 | .sl nl tight n xs =>
  match τ.ds with
  | .slice el =>
   match T el,oB n U O with
   | some φ,some (l,k) =>
    match X with
    | none=>some ⟨.sl (nl&&tight) (tight&&k==n) (k-l) ((xs.drop (l*φ.size)).take ((k-l)*φ.size)),[]⟩
    | some m=>match lv m,O with
     | some m,some _=>if k<=m∧m<=n then some ⟨.sl false (m==k) (k-l) ((xs.drop (l*φ.size)).take ((k-l)*φ.size)),[]⟩ else none
     | _,_=>none
   | _,_=>none
  | _=>none
 | .buf y v s o n =>
  match live h y v,τ.ds,X with
  | some _,.slice el,none =>
   match T el,oB n U O with
   | some φ,some (l,k)=>if φ.size=s∧0<s then some ⟨.buf y v s (o+l*s) (k-l),[]⟩ else none
   | _,_=>none
  | _,_,_=>none
 | _=>none
def fh (h:Nat->Option Row) (place:Nat->Option (Nat×Nat)) (cells:List D):List (Nat×D)->Option (List D×List Nat)
 | []=>some (cells,[])
 | (i,d)::rest =>
  match place i,cT h d with
  | some (off,size),some (cs,fr) =>
   if cs.length=size∧off+size<=cells.length then
    match fh h place (putCells cells off cs) rest with
    | some (out,O)=>some (out,fr++O)
    | none=>none
   else none
  | _,_=>none
def fieldAt (T:Nat->Option Ty) (fs:List (Nat×Nat)) (i:Nat):Option (Nat×Nat) :=
 match fs[i]? with
 | some (O,off)=>match T O with|some φ=>some (off,φ.size)|none=>none
 | none=>none
def dj (T:Nat->Option Ty) (τ:Ty) (h:Nat->Option Row) (parts:List (Nat×D)):Option aR :=
 match τ.ds with
 | .struct fs =>
  if (fs.all fun f=>(T f.1).isSome)&&(τ.zero.map jR).all aF then
   match fh h (fieldAt T fs) (τ.zero.map jR) parts with
   | some (cs,fr)=>some ⟨.agg cs,fB h fr⟩
   | none=>none
  else none
 | _=>none
def alive (h:Nat->Option Row):D->Bool
 | .ptr x v _=>(jX h x v).isSome
 | .buf x v _ _ _=>(jX h x v).isSome
 | _=>true
def cE:Option aR->Option aR
 | some ⟨.agg cs,hw⟩=>some ⟨.agg (cs.map canon),hw⟩
 | _=>none
def kU (q:Nat->Bool) (T:Nat->Option Ty) (τ:Ty) (h:Nat->Option Row) (dst:Option Nat) (parts:List (Nat×D)):Option aR :=
 match dst with
 | some d =>
  if q d then dj T τ h parts else
   match τ.ds,parts with
   | .struct fs,[(0,.buf x v s o n)]=>if (alive h (.buf x v s o n))∧(fs.all fun f=>(T f.1).isSome)∧fieldAt T fs 0=some (0,1)∧τ.zero.length=1 then some ⟨.box1 x v s o n,[]⟩ else none
   | .struct fs,[(0,.box1 x v s o n)]=>if (alive h (.buf x v s o n))∧(fs.all fun f=>(T f.1).isSome)∧fieldAt T fs 0=some (0,1)∧τ.zero.length=1 then some ⟨.box1 x v s o n,[]⟩ else none
   | _,_=>cE (dj T τ h parts)
 | none=>dj T τ h parts
def jK (n:Nat) (O:List D):List D:=(List.replicate n O).flatten
def cv (T:Nat->Option Ty) (τ:Ty) (h:Nat->Option Row) (e d len:Nat) (parts:List (Nat×D)):Option aR :=
 match τ.ds with
 | .slice el =>
  match T el with
  | some φ =>
   if len*φ.size<=16777216∧0<φ.size∧(φ.zero.map jR).all aF=true∧φ.zero.length=φ.size then
    match fh h (fun i=>some (i*φ.size,φ.size)) (jK len (φ.zero.map jR)) parts with
    | some (cs,fr)=>if fr.contains d=false then some ⟨.buf d e φ.size 0 len,fB h fr++[(d,some ⟨e,el,cs.map canon,false,true,false⟩)]⟩ else none
    | none=>none
   else none
  | none=>none
 | _=>none
def lV (T:Nat->Option Ty) (τ:Ty) (e d:Nat) (l c:D):Option aR :=
 match τ.ds with
 | .slice el =>
  match T el,lv l,lv c with
  | some φ,some l,some c =>
   if l<=c∧c<=maxLen∧c*φ.bytes<=140737488355328∧0<φ.size∧(φ.zero.map jR).all aF=true∧φ.zero.length=φ.size then
    some ⟨.buf d e φ.size 0 l,[(d,some ⟨e,el,jK l ((φ.zero.map jR).map canon),false,true,false⟩)]⟩
   else none
  | _,_,_=>none
 | _=>none
def fI (T:Nat->Option Ty) (τ:Ty) (h:Nat->Option Row) (e d:Nat) (s x:D):Option aR :=
 match τ.ds with
 | .slice el =>
  match T el,content h x with
  | some φ,some (m,news) =>
   if 0<φ.size∧φ.zero.length=φ.size then
    match s with
    | .sl nl tight n xs =>
     if tight=true∧n+m<=maxLen∧(n+m)*φ.bytes<=140737488355328∧xs.length=n*φ.size∧news.length=m*φ.size then
      if m=0 then some ⟨.sl nl tight n xs,[]⟩ else some ⟨.buf d e φ.size 0 (n+m),[(d,some ⟨e,el,xs++news,false,true,false⟩)]⟩
     else none
    | .buf y v z o n =>
     match live h y v with
     | some r =>
      if z=φ.size∧r.ty=el∧r.fz=false∧o+n*φ.size<=r.cells.length∧n+m<=maxLen∧(n+m)*φ.bytes<=140737488355328∧news.length=m*φ.size then
       some ⟨.buf d e φ.size 0 (n+m),[(y,none),(d,some ⟨e,el,(r.cells.drop o).take (n*φ.size)++news,false,true,false⟩)]⟩
      else none
     | none=>none
    | _=>none
   else none
  | _,_=>none
 | _=>none
def QE:D->Option bC
 | .int .i64 n=>some (n,none)
 | .agg [.int .i64 a,.int .i64 b]=>some (a,some b)
 | _=>none
def n5 (z:D):List bC->List D->bC->D
 | k::ks,v::vs,n=>if k=n then v else n5 z ks vs n
 | _,_,_=>z
def vB (ks:List bC) (n:bC):List bC:=if ks.contains n then ks else ks++[n]
def Dp (ks:List bC) (vs:List D) (n:bC) (d:D):List D:=if ks.contains n then vs.set (ks.idxOf n) d else vs++[d]
def o0 (T:Nat->Option Ty) (κ:Ty):Option Bool :=
 match κ.ds with
 | .int .i64=>some false
 | .struct [(a,0),(b,1)]=>match T a,T b with
  | some α,some β=>match α.ds,β.ds with
   | .int .i64,.int .i64=>if κ.eqok then some true else none
   | _,_=>none
  | _,_=>none
 | _=>none
def Gm (T:Nat->Option Ty) (τ:Ty):Option (Bool×Ty) :=
 match τ.ds with
 | .map k el=>match T k,T el with
  | some κ,some φ=>match o0 T κ with|some b=>some (b,φ)|none=>none
  | _,_=>none
 | _=>none
def k9 (T:Nat->Option Ty) (ty:Nat) (τ:Ty) (e d:Nat):Option aR :=
 match Gm T τ with
 | some _=>if 900000<=ty then none else some ⟨.mp d e,[(d,some ⟨e,ty,[.mpc [] []],false,true,true⟩)]⟩
 | none=>none
def mapOf (h:Nat->Option Row):D->Option (List bC×List D)
 | .mp x v=>fi h x v
 | .mpc ks vs=>some (ks,vs)
 | _=>none
def jd (b:Bool) (n:bC) (ks:List bC):Bool:=zB n==b&&ks.all fun k=>zB k==b
def fJ (T:Nat->Option Ty) (τ:Ty) (h:Nat->Option Row) (m i:D) (ok:Bool):Option aR :=
 match Gm T τ,mapOf h m,QE i with
 | some (b,φ),some (ks,vs),some n =>
  match gP φ (φ.zero.map jR) with
  | some z=>if jd b n ks=true∧(φ.zero.map jR).all aF=true then some ⟨if ok then .tup [n5 (dT z) ks vs n,.bool (ks.contains n)] else n5 (dT z) ks vs n,[]⟩ else none
  | none=>none
 | _,_,_=>none
def rK (h:Nat->Option Row):D->Option (D×List Nat)
 | .agg xs=>some (.agg (xs.map canon),[])
 | d =>
  match b9 h d with
  | some (O,fr)=>some (canon O,fr)
  | none=>none
def cj (T:Nat->Option Ty) (τ:Ty) (h:Nat->Option Row) (m i x:D):Option aR :=
 match Gm T τ,m,QE i,rK h x with
 | some (b,_),.mp y v,some n,some (d,fr) =>
  match h y with
  | some r =>
   match fi h y v with
   | some (ks,vs)=>if jd b n ks=true∧r.fz=false∧fr.contains y=false then some ⟨.und,fB h fr++[(y,some ⟨r.v,r.ty,[.mpc (vB ks n) (Dp ks vs n d)],false,true,true⟩)]⟩ else none
   | none=>none
  | none=>none
 | _,_,_,_=>none
def HU:D->D->Option Bool
 | .int k a,.int k' b=>if k=k' then some (a==b) else none
 | .bool a,.bool b=>some (a==b)
 | .str a,.str b=>some (a==b)
 | _,_=>none
def Kl:List D->List D->Option Bool
 | [],[]=>some true
 | x::xs,y::O=>match HU x y,Kl xs O with|some a,some b=>some (a&&b)|_,_=>none
 | _,_=>none
def gZ:Ds->Bool
 | .int _ | .bool | .str=>true
 | _=>false
def kindOk:Ds->D->Bool
 | .int _,.int _ _=>true
 | .bool,.bool _=>true
 | .str,.str _=>true
 | _,_=>false
def dq (T:Nat->Option Ty):Nat->List (Nat×Nat)->List D->Bool
 | _,[],[]=>true
 | o,(O,off)::fs,x::xs=>off==o&&(match T O with|some φ=>kindOk φ.ds x|none=>false)&&dq T (o+1) fs xs
 | _,_,_=>false
def QK (nl tight:Bool) (n:Nat):Option Bool:=if 0<n then some false else if nl then some tight else none
def MV (T:Nat->Option Ty) (τ:Ty):D->D->Option Bool
 | .bool a,.bool b=>match τ.ds with | .bool=>some (a==b)|_=>none
 | .sl nl tight n _,.sl true true 0 []=>match τ.ds with | .slice _=>QK nl tight n|_=>none
 | .agg xs,.agg O =>
  match τ.ds with
  | .struct fs=>if τ.eqok&&dq T 0 fs xs then Kl xs O else none
  | _=>none
 | _,_=>none
def wo (op:BinOp) (k:IntKind) (x y:Int):Int :=
 let a:=BitVec.ofInt k.bits x
 let b:=BitVec.ofInt k.bits y
 match op with
 | .and=>k.wrap (a &&& b).toNat
 | .or=>k.wrap (a ||| b).toNat
 | .xor=>k.wrap (a ^^^ b).toNat
 | _=>k.wrap (a &&& ~~~b).toNat
def dV (op:BinOp) (k:IntKind) (x y:Int):Option D :=
 match op with
 | .add=>some (.int k (k.wrap (x+y)))
 | .sub=>some (.int k (k.wrap (x-y)))
 | .mul=>some (.int k (k.wrap (x*y)))
 | .quo=>if y=0 then none else some (.int k (k.wrap (x.tdiv y)))
 | .rem=>if y=0 then none else some (.int k (x.tmod y))
 | .and=>some (.int k (wo .and k x y))
 | .or=>some (.int k (wo .or k x y))
 | .xor=>some (.int k (wo .xor k x y))
 | .andNot=>some (.int k (wo .andNot k x y))
 | .eql=>some (.bool (x==y))
 | .neq=>some (.bool (x != y))
 | .lss=>some (.bool (x<y))
 | .leq=>some (.bool (x<=y))
 | .gtr=>some (.bool (x>y))
 | .geq=>some (.bool (x>=y))
 | _=>none
def j5 (op:BinOp) (x y:ByteArray):Option D :=
 match op with
 | .add=>if ((x.size+y.size:Nat):Int)>IntKind.i64.max then none else some (.str (x++y))
 | .eql=>some (.bool (x.toList==y.toList))
 | .neq=>some (.bool !(x.toList==y.toList))
 | .lss=>some (.bool (Op.bytesLess x.toList y.toList))
 | .leq=>some (.bool (Op.bytesLess x.toList y.toList||x.toList==y.toList))
 | .gtr=>some (.bool !(Op.bytesLess x.toList y.toList||x.toList==y.toList))
 | .geq=>some (.bool !Op.bytesLess x.toList y.toList)
 | _=>none
def nS (op:BinOp) (k:IntKind) (x y:Int):Option D :=
 if y<0 then none else
 match op with
 | .shl=>some (.int k (k.wrap (x*2 ^ (min y.toNat k.bits))))
 | .shr=>some (.int k (x.fdiv (2 ^ (min y.toNat k.bits))))
 | _=>none
def ic:BinOp->Bool
 | .shl | .shr=>true
 | _=>false
def te (T:Nat->Option Ty) (ty:Nat) (op:BinOp) (a b:D):Option D :=
 match a,b with
 | .int k x,.int k' y=>if ic op then nS op k x y else if k=k' then dV op k x y else none
 | .str x,.str y=>j5 op x y
 | a,b =>
  match T ty with
  | some τ =>
   match op with
   | .eql=>match MV T τ a b with|some c=>some (.bool c)|none=>none
   | .neq=>match MV T τ a b with|some c=>some (.bool !c)|none=>none
   | _=>none
  | none=>none
def zC (op:UnOp):D->Option D
 | .int k n=>match op with
  | .neg=>some (.int k (k.wrap (0-n)))
  | .xor=>some (.int k (wo .xor k (if k.signed then -1 else k.max) n))
  | _=>none
 | .bool b=>match op with | .not=>some (.bool !b)|_=>none
 | _=>none
mutual
def ep:D->Bool
 | .int _ _ | .bool _ | .str _=>true
 | .agg xs | .tup xs=>ll xs
 | _=>false
def ll:List D->Bool
 | []=>true
 | x::xs=>ep x&&ll xs
end
def sB:D->Option Nat
 | .str s=>some s.size
 | .sl _ _ n _=>some n
 | .buf _ _ _ _ n=>some n
 | _=>none
def rA (f:Int->Int->Int) (k:IntKind):Int->List D->Option Int
 | x,[]=>some x
 | x,.int k' y::r=>if k=k' then rA f k (f x y) r else none
 | _,_=>none
def bu (T:Nat->Option Ty) (h:Nat->Option Row) (e:Nat) (dst:Option Nat) (b:Builtin) (O:List Nat) (args:List D):Option aR :=
 match b,O,args with
 | .len,t::_,[x] =>
  if alive h x then
   match T t,sB x with
   | some τ,some n=>match τ.ds,x with
    | .str,.str _=>some ⟨.int .i64 n,[]⟩
    | .slice _,.sl _ _ _ _=>some ⟨.int .i64 n,[]⟩
    | .slice _,.buf _ _ _ _ _=>some ⟨.int .i64 n,[]⟩
    | _,_=>none
   | some τ,none=>match τ.ds,mapOf h x with
    | .map _ _,some (ks,_)=>some ⟨.int .i64 (ks.length:Nat),[]⟩
    | _,_=>none
   | _,_=>none
  else none
 | .append,[t,U],[s,x] =>
  if t=U then
   match T t,dst with
   | some τ,some d=>fI T τ h e d s x
   | _,_=>none
  else none
 | .max,_,.int k x::r=>match rA (fun x y=>if y>x then y else x) k x r with|some z=>some ⟨.int k z,[]⟩|none=>none
 | .min,_,.int k x::r=>match rA (fun x y=>if y<x then y else x) k x r with|some z=>some ⟨.int k z,[]⟩|none=>none
 | _,_,_=>none
def fU:D->Bool
 | .buf _ _ _ _ _ | .clo _ _ _ | .und | .skp | .box1 _ _ _ _ _=>false
 | _=>true
inductive RK where
 | clean (d:D)
 | same (s o n:Nat)
 | fresh (ty s n:Nat) (cells:List D)
structure Grow where
 ty:Nat
 k:Nat
 bytes:Nat
 sem:List D->List D->Option (List D)
def xZ (ty nv:Nat) (fz:Bool):Option D->Option Row
 | some (.nx n xs)=>some ⟨nv,ty,xs,fz,true,false⟩
 | _=>none
def Br (fz:Bool) (o:Nat):List D->Option Row
 | [.nr ty s nv cs]=>xZ ty nv fz (cs.drop o).head?
 | _=>none
def lY (r:Row) (o:Nat):Option Row:=if r.mp then Br r.fz o r.cells else none
def dZ:D->Bool
 | .int _ _ | .bool _ | .str _ | .sl _ _ _ _=>true
 | _=>false
def lM (y s o:Nat):D->D
 | .nx n _ =>.ph (NK y o) s n
 | d=>if dZ d then d else .und
theorem gw {y s o:Nat} {d:D} (h:dZ d=true):lM y s o d=d:=by
 cases d<;>first|rfl|cases h
theorem lH {y s o x O n:Nat} {d:D} (h:lM y s o d=.ph x O n):∃xs,d=.nx n xs∧x=NK y o∧O=s:=by
 cases d<;>simp[lM,dZ]at h;obtain⟨rfl,rfl,rfl⟩:=h;exact⟨_,rfl,rfl,rfl⟩
theorem ik (y s o:Nat) (d:D):UT (lM y s o d)=true:=by
 cases d<;>rfl
def SL (y:Nat):List D->List D
 | [.nr ty s nv cs]=>cs.mapIdx (lM y s)
 | cs=>cs
def vG (y:Nat) (r:Row):Row:=if r.mp then { r with cells:=SL y r.cells } else r
def UP (a b:Nat):Decidable (a<b):=@Eq.rec Prop (¬b<=a) (fun p _=>Decidable p) instDecidableNot (a<b) (propext Nat.not_le)
def EH (h:Nat->Option Row) (k:Nat):Option Row:=@ite _ (k<2*PK) (UP k (2*PK)) ((h k).map (vG k)) ((h (k % PK)).bind fun r=>lY r (k / PK-2))
def rt (k:Nat):Nat:=if k<2*PK then k else k % PK
structure UC where
 lnd:Nat->Option (Nat×(Nat->Nat->Nat->Nat->List D->List D->Option (D×List D))):=fun _=>none
 res:Nat->Option (List D->Option (Nat×Nat×Nat×Nat×Nat×List D)):=fun _=>none
structure Env where
 lends:Nat->Bool
 sem:Nat->Option (D×Row)->List D->Option (RK×Option Row)
 own:Nat->Bool
 hint:Nat->Option Nat:=fun _=>none
 ins:Nat->Option (Nat×Nat×Nat):=fun _=>none
 grw:Nat->Option Grow:=fun _=>none
 nst:Nat->Option (Nat×Nat×Nat):=fun _=>none
 nx:UC:={}
def oC (Γ:Env) (h:Nat->Option Row) (e:Nat) (dst:Option Nat) (g:Nat) (args:List D):Option aR :=
 match aO h args with
 | some (VA,fr) =>
  match Γ.sem g none VA with
  | some (.clean r,_)=>some ⟨r,if ep r then [] else fB h fr⟩
  | some (.fresh ty s n cells,_) =>
   match dst with
   | some d=>if fr.contains d=false then some ⟨.buf d e s 0 n,(if ll cells then [] else fB h fr)++[(d,some ⟨e,ty,cells,false,true,false⟩)]⟩ else none
   | none=>none
  | _=>none
 | none=>none
def kR (Γ:Env) (h:Nat->Option Row) (e:Nat) (dst:Option Nat) (g x v:Nat) (d0:D) (rest:List D):Option aR :=
 match sC d0 h x v with
 | some r =>
  if r.fz=false then
   match aO h rest with
   | some (VA,fr) =>
    if fr.contains x=false then
     match Γ.sem g (some (d0,{ r with v:=0 })) VA with
     | some (.clean c,some O)=>some ⟨c,fB h fr++[(x,some { O with v:=v })]⟩
     | some (.same s o n,some O)=>some ⟨.buf x v s o n,fB h fr++[(x,some { O with v:=v })]⟩
     | some (.fresh ty s n cells,none) =>
      match dst with
      | some d=>if fr.contains d=false then some ⟨.buf d e s 0 n,fB h fr++[(x,none),(d,some ⟨e,ty,cells,false,true,false⟩)]⟩ else none
      | none=>none
     | _=>none
    else none
   | none=>none
  else none
 | none=>none
def nW (h:Nat->Option Row) (p:Grow) (args:List D):Option aR :=
 match args with
 | .pm y v k::rest =>
  match iL h y v,h k with
  | some (O,k',s,n),some r =>
   if k'=k∧k=PK+y∧y<PK∧O.fz=false∧r.mp=false∧r.fz=false∧r.lst=true∧s=p.k∧r.ty=p.ty∧r.cells.length=n*p.k∧(n+1)*p.bytes<=140737488355328 then
    match p.sem r.cells rest with
    | some cs=>some ⟨.int .i64 (n:Int),[(k,some ⟨r.v,p.ty,r.cells++cs,false,true,false⟩),(y,some ⟨O.v,O.ty,[.ph k p.k (n+1)],false,false,true⟩)]⟩
    | none=>none
   else none
  | _,_=>none
 | _=>none
def nX (h:Nat->Option Row) (e:Nat) (dst:Option Nat) (p:Nat×Nat×Nat) (args:List D):Option aR :=
 match args with
 | [.buf x v s o n,.int .i64 i,.buf y O U o' m] =>
  match live h x v,live h y O,dst with
  | some r,some r',some d =>
   if r.fz=false∧r'.fz=false∧r.lst=true∧r'.lst=true∧x≠y∧s=p.2.1∧U=p.2.1∧r.ty=p.1∧r'.ty=p.1∧o=0∧o'=0∧r.cells.length=n*p.2.1∧r'.cells.length=m*p.2.1∧0<=i∧i<=n∧0<m∧(n+m)*p.2.2<=140737488355328 then
    some ⟨.buf d e p.2.1 0 (n+m),[(y,none),(x,none),(d,some ⟨e,p.1,r.cells.take (i.toNat*p.2.1)++(r'.cells++r.cells.drop (i.toNat*p.2.1)),false,true,false⟩)]⟩
   else none
  | _,_,_=>none
 | _=>none
def eV (Γ:Env) (h:Nat->Option Row) (e:Nat) (dst:Option Nat) (f:D) (args:List D):Option aR :=
 match f with
 | .fn g =>
  match Γ.ins g with
  | some p=>nX h e dst p args
  | none =>
  match Γ.grw g with
  | some p=>nW h p args
  | none =>
  if Γ.lends g then
   match args with
   | .buf x v s o n::rest=>kR Γ h e dst g x v (.buf 0 0 s o n) rest
   | .ptr x v o::rest=>kR Γ h e dst g x v (.ptr 0 0 o) rest
   | .mp x v::rest=>kR Γ h e dst g x v (.mp 0 0) rest
   | _=>none
  else oC Γ h e dst g args
 | .clo g O caps=>if caps.all fU then oC Γ h e dst g (caps.take O++(args++caps.drop O)) else none
 | _=>none
def aW (T:Nat->Option Ty) (ty e:Nat) (dst:Option Nat) (h:Nat->Option Row) (x:D):Option aR :=
 match x with
 | .buf y v s o n =>
  match dst,live h y v with
  | some d,some r=>if r.fz then some ⟨.buf y v s o n,[]⟩ else some ⟨.buf d e s o n,[(y,none),(d,some { r with v:=e })]⟩
  | _,_=>if (jX h y v).isSome then some ⟨.buf y v s o n,[]⟩ else some ⟨.und,[]⟩
 | .sl true true 0 [] =>
  match dst,T ty with
  | some d,some τ =>
   match τ.ds with
   | .slice el=>match T el with|some φ=>some ⟨.buf d e φ.size 0 0,[(d,some ⟨e,el,[],false,true,false⟩)]⟩|none=>none
   | _=>none
  | _,_=>none
 | x=>some ⟨x,[]⟩
def kS (h:Nat->Option Row):D->Option (D×List Nat)
 | .agg xs=>some (.agg xs,[])
 | d=>b9 h d
def eX (h:Nat->Option Row) (x:D):Option aR :=
 match kS h x with
 | some (O,fr)=>some ⟨dT O,fB h fr⟩
 | none=>none
def me (T:Nat->Option Ty) (q:Nat->Bool) (ty e:Nat) (dst:Option Nat) (h:Nat->Option Row) (x:D):Option aR :=
 match dst with
 | some d=>if q d then aW T ty e (some d) h x else eX h x
 | none=>aW T ty e none h x
def jq (T:Nat->Option Ty) (Γ:Env) (e:Nat) (o:Oper) (vs:Operand->D) (h:Nat->Option Row):Option aR :=
 match o.op with
 | .move x=>some ⟨vs x,[]⟩
 | .assign x=>me T Γ.own o.type e o.dst h (vs x)
 | .pick c a b=>match vs c with | .bool true=>some ⟨vs a,[]⟩ | .bool false=>some ⟨vs b,[]⟩|_=>none
 | .alloc ty=>match T ty,o.dst with
  | some τ,some d=>if (τ.zero.map jR).all aF then some ⟨match Γ.hint d with|some y =>.pm d e y|none =>.ptr d e 0,[(d,some ⟨e,ty,τ.zero.map jR,false,false,false⟩)]⟩ else none
  | _,_=>none
 | .box ty x=>match o.dst,cT h (vs x) with
  | some d,some (cs,fr)=>if fr.contains d=false then some ⟨.ptr d e 0,fB h fr++[(d,some ⟨e,ty,cs,false,false,false⟩)]⟩ else none
  | _,_=>none
 | .load ty p=>match T ty with|some τ=>jV τ h (vs p)|none=>none
 | .store ty p x=>match T ty with|some τ=>bW τ h (vs p) (vs x)|none=>none
 | .nilCheck x=>gh h (vs x)
 | .fieldAddr ty x i=>match T ty with|some τ=>cw T τ h i (vs x)|none=>none
 | .field ty x i=>match T ty with|some τ=>ja T τ i (vs x)|none=>none
 | .indexAddr ty x i=>match T ty with|some τ=>aU T τ h (vs x) (vs i)|none=>none
 | .index ty x i=>match T ty with|some τ=>eh T τ (vs x) (vs i)|none=>none
 | .slice ty x O U X=>match T ty with|some τ=>bJ T τ h (vs x) (O.map vs) (U.map vs) (X.map vs)|none=>none
 | .build ty parts=>match T ty with|some τ=>kU Γ.own T τ h o.dst (parts.toList.map fun p=>(p.1,vs p.2))|none=>none
 | .buildSlice ty len parts=>match T ty,o.dst with|some τ,some d=>cv T τ h e d len (parts.toList.map fun p=>(p.1,vs p.2))|_,_=>none
 | .makeSlice ty l c=>match T ty,o.dst with|some τ,some d=>lV T τ e d (vs l) (vs c)|_,_=>none
 | .binOp op ty x y _=>match te T ty op (vs x) (vs y) with|some d=>some ⟨d,[]⟩|none=>none
 | .unOp op _ x=>match zC op (vs x) with|some d=>some ⟨d,[]⟩|none=>none
 | .convert src dst x=>match T dst,T src,vs x with
  | some τ,some _,.int _ n=>(match τ.ds with | .int k=>some ⟨.int k (k.wrap n),[]⟩|_=>none)
  | _,_,_=>none
 | .makeFunc fn first caps=>match fn with | .func f=>if (first.toList.map vs++caps.toList.map vs).all fU then some ⟨.clo f first.size (first.toList.map vs++caps.toList.map vs),[]⟩ else none|_=>none
 | .makeMap ty none=>match T ty,o.dst with|some τ,some d=>k9 T ty τ e d|_,_=>none
 | .lookup ty m i ok=>match T ty with|some τ=>fJ T τ h (vs m) (vs i) ok|none=>none
 | .insert ty m i x=>match T ty with|some τ=>cj T τ h (vs m) (vs i) (vs x)|none=>none
 | .mapUpdate ty m i x=>match T ty with|some τ=>cj T τ h (vs m) (vs i) (vs x)|none=>none
 | .extract t i=>match vs t with | .tup xs=>(match xs[i]? with|some d=>some ⟨d,[]⟩|none=>none)|_=>none
 | .call c=>match c.callee with
  | .value f=>eV Γ h e o.dst (vs f) (c.args.toList.map vs)
  | .builtin b=>bu T h e o.dst b c.argTypes.toList (c.args.toList.map vs)
  | _=>none
 | _=>none
def ej (o:Oper) (vs:Operand->D):List Nat :=
 match o.op with
 | .move _ | .pick _ _ _=>[]
 | .makeFunc _ _ _=>[]
 | op=>(op.operands.toList.flatMap fun x=>nm (vs x))++o.dst.toList
theorem aj {α:Type} (f:Nat->α) (i:Nat) (v:α):bj f i v i=v:=by simp[bj]
theorem al {α:Type} (f:Nat->α) {i j:Nat} (v:α) (h:j≠i):bj f i v j=f j:=by simp[bj,h]
theorem PZ {α:Type} (f:Nat->α) {i j:Nat} (v u:α) (h:i≠j):bj (bj f i v) j u=bj (bj f j u) i v:=by
 funext k;unfold bj;split<;>split<;>simp_all
theorem RP.nH {w:World} {M:Nat->Prop} {d:D} {u:Value} (h:RP w M d u) (O:aF d=true):u.oneCell'=true:=by
 cases h<;>simp_all [aF,Value.oneCell']
theorem RP.cells {w:World} {M:Nat->Prop} {d:D} {u:Value} (h:RP w M d u) (O:aF d=true):u.cells = #[u]:=by
 cases h with
 | ali x v s o n u h1=>cases u<;>simp_all [Value.oneCell',Value.cells]
 | alm x v u h1=>cases u<;>simp_all [Value.oneCell',Value.cells]
 | _=>simp_all [aF,Value.cells]
theorem aS {w:World} {M:Nat->Prop} {h:Nat->Option Row} {blk:Nat->Option (Nat×Nat)} {V:Nat->Nat->Prop} {d:D} {u:Value} (O:RP w M d u):RT w M h blk V d u:=by
 cases O with
 | int k n=>exact .int k n
 | bool b=>exact .bool b
 | str s=>exact .str s
 | sl A c nl tight n xs us h1 h2 h3 h4 h5 h6 h7 h8=>exact .sl A c nl tight n xs us h1 h2 h3 h4 h5 h6 h7 h8
 | ip xs ad us h6 h7 h8=>exact .ip xs ad us h6 h7 h8
 | agg xs us h1 h2 h3=>exact .agg xs us h1 h2 h3
 | tup xs us h1 h2=>exact .tup xs us h1 h2
 | fn f=>exact .fn f
 | ali x v s o n u h1=>exact .ali x v s o n u h1
 | mpc ks vs mb us h1 h2 h3 h4=>exact .mpc ks vs mb us h1 h2 h3 h4
 | alm x v u h1=>exact .alm x v u h1
 | clo f X xs us h1 h2 =>
  refine⟨us,rfl,h1,fun j x U =>?_⟩;have:=h2 j x U;cases x with
  | ptr x v o=>cases this
  | mp x v=>cases this
  | pm x v y=>cases this
  | _=>exact this
theorem M7 (w:World) (M:Nat->Prop) (h:Nat->Option Row) (blk:Nat->Option (Nat×Nat)) (V:Nat->Nat->Prop) (v:Value):RT w M h blk V (jR v) v:=by
 unfold jR;split
 ·exact .int _ _
 ·exact .bool _
 ·exact .str _
 ·exact .sl none 0 true true 0 [] (fun _=>undef) (VG _) (VH _) (fun _=>⟨fun _=>⟨rfl,rfl⟩,fun h=>by cases h⟩) (fun _=>⟨rfl,rfl⟩) (fun _=>rfl) (fun h=>absurd rfl h) (fun j x O=>by simp at O) (fun x O=>by simp at O)
 ·exact .mpc [] [] none (fun _=>undef) rfl (fun _=>rfl) (fun b U=>by cases U) (fun j x X=>by simp at X)
 ·trivial
structure zF (w w':World) (M M':Nat->Prop) (h h':Nat->Option Row) (blk blk':Nat->Option (Nat×Nat)) (V V':Nat->Nat->Prop):Prop where
 hk:∀b,b<w.heap.size->¬M b->b<w'.heap.size∧¬M' b∧w'.heap[b]? = w.heap[b]?
 hV:∀x v,V x v->V' x v
 hrow:∀x v,V x v->∀r',h' x=some r'->r'.v=v->(∃r,h x=some r∧r.v=v)∧blk' x=blk x∧∀g,blk x=some g->w'.shape? g.1=w.shape? g.1
theorem RC.mono {w w':World} {M M':Nat->Prop} {h h':Nat->Option Row} {blk blk':Nat->Option (Nat×Nat)} {V V':Nat->Nat->Prop} (k:zF w w' M M' h h' blk blk' V V') {d:D} {u:Value}
  (O:RC w M h blk V d u):RC w' M' h' blk' V' d u:=by
 cases d with
 | ptr x v o =>
  refine⟨k.hV _ _ O.1,fun r' h1 h2 =>?_⟩;obtain⟨⟨r,h3,h4⟩,h5,_⟩:=k.hrow x v O.1 r' h1 h2;rw[h5];exact O.2 r h3 h4
 | mp x v =>
  refine⟨k.hV _ _ O.1,fun r' h1 h2 =>?_⟩;obtain⟨⟨r,h3,h4⟩,h5,_⟩:=k.hrow x v O.1 r' h1 h2;rw[h5];exact O.2 r h3 h4
 | pm x v y =>
  refine⟨k.hV _ _ O.1,fun r' h1 h2 =>?_⟩;obtain⟨⟨r,h3,h4⟩,h5,_⟩:=k.hrow x v O.1 r' h1 h2;rw[h5];exact O.2 r h3 h4
 | _=>exact RP.keep k.hk O
theorem RT.mono {w w':World} {M M':Nat->Prop} {h h':Nat->Option Row} {blk blk':Nat->Option (Nat×Nat)} {V V':Nat->Nat->Prop} (k:zF w w' M M' h h' blk blk' V V') {d:D} {u:Value}
  (O:RT w M h blk V d u):RT w' M' h' blk' V' d u:=by
 cases d with
 | ptr x v o=>exact RC.mono (d := .ptr x v o) k O
 | mp x v=>exact RC.mono (d := .mp x v) k O
 | pm x v y=>exact RC.mono (d := .pm x v y) k O
 | buf x v s o n =>
  refine⟨k.hV _ _ O.1,fun r' h1 h2 =>?_⟩;obtain⟨⟨r,h3,h4⟩,h5,h6⟩:=k.hrow x v O.1 r' h1 h2;rw[h5];rcases O.2 r h3 h4 with⟨g,o',c,N,t,g0,g1,g2,g3,g4,g5⟩|U
  ·exact .inl ⟨g,o',c,N,t,g0,g1,g2,g3,g4,(h6 g g0).trans g5⟩
  ·exact .inr U
 | clo f Z xs =>
  obtain⟨us,h1,h2,h3⟩:=O;exact⟨us,h1,h2,fun j x X=>(h3 j x X).mono k⟩
 | box1 x v s o n =>
  obtain⟨u',hu,Y,O⟩:=O;refine⟨u',hu,Y,k.hV _ _ O.1,fun r' h1 h2 =>?_⟩;obtain⟨⟨r,h3,h4⟩,h5,h6⟩:=k.hrow x v O.1 r' h1 h2;rw[h5];rcases O.2 r h3 h4 with⟨g,o',c,N,t,g0,g1,g2,g3,g4,g5⟩|U
  ·exact .inl ⟨g,o',c,N,t,g0,g1,g2,g3,g4,(h6 g g0).trans g5⟩
  ·exact .inr U
 | und=>trivial
 | skp=>exact O
 | _=>exact RP.keep k.hk O
theorem bz {w w':World} {b:Nat} (h:w'.heap[b]? = w.heap[b]?):w'.shape? b=w.shape? b:=by simp[World.shape?,h]
theorem cC.refl (L:Nat->Prop) (w:World):cC L w w:=⟨rfl,rfl,rfl,VG _,fun _ _ _=>rfl⟩
theorem cC.trans {L L':Nat->Prop} {a b c:World} (h:cC L a b) (k:cC L' b c) (U:∀x,L' x->x<a.heap.size->L x):cC L a c :=
 ⟨k.os.trans h.os,k.tape.trans h.tape,k.output.trans h.output,VI h.size k.size,fun i O hn=>(k.block i (VJ O h.size) (fun X=>hn (U i X O))).trans (h.block i O hn)⟩
theorem cC.sI {L:Nat->Prop} {w w':World} (h:Below w.heap.size w w'):cC L w w':=⟨h.os,h.tape,h.output,h.size,fun k hk _=>h.block k hk⟩
theorem cC.below {L:Nat->Prop} {w w':World} (h:cC L w w') (O:∀b,¬L b):Below w.heap.size w w':=⟨h.os,h.tape,h.output,h.size,fun k hk=>h.block k hk (O k)⟩
theorem M0.keep {w w':World} {M M':Nat->Prop} {g:Nat×Nat} {r:Row} (h:M0 w M g r) (U:w'.heap[g.1]? = w.heap[g.1]?) (hk:∀b,b<w.heap.size->¬M b->b<w'.heap.size∧¬M' b∧w'.heap[b]? = w.heap[b]?):M0 w' M' g r:=by
 obtain⟨cs,h1,h2,h3⟩:=h;exact⟨cs,U.trans h1,h2,fun j d O=>⟨(h3 j d O).1,(h3 j d O).2.keep hk⟩⟩
theorem rR.keep {w w':World} {M M':Nat->Prop} {g:Nat×Nat} {r r':Row} (h:rR w M g r) (hc:r'.cells=r.cells) (U:r'.ty=r.ty) (Z:w'.heap[g.1]? = w.heap[g.1]?) (hk:∀b,b<w.heap.size->¬M b->b<w'.heap.size∧¬M' b∧w'.heap[b]? = w.heap[b]?):rR w' M' g r':=by
 obtain⟨ks,vs,h1,h2,hA,hB⟩:=h;refine⟨ks,vs,hc.trans h1,h2,fun q =>?_,fun q =>?_⟩
 ·obtain⟨ents,clock,h3,h4,O,us,h5,h6⟩:=hA (U ▸ q);exact⟨ents,clock,Z.trans h3,h4,O,us,h5,fun j x X=>(h6 j x X).keep hk⟩
 ·rw[U];obtain⟨Y,b,ents,clock,seen,c,l,us,h3,h4,h5,h6,O,k1,k2,k3,k4,k5,k6,k7,k8⟩:=hB (U ▸ q);obtain⟨p1,p2,p3⟩:=hk b h4 h5;exact⟨Y,b,ents,clock,seen,c,l,us,Z.trans h3,p1,p2,p3.trans h6,O,k1,k2,k3,k4,k5,k6,k7,fun j x X=>(k8 j x X).keep hk⟩
theorem vV.keep {w w':World} {M M':Nat->Prop} {d:D} {u:Value} (h:vV w M d u) (hk:∀b,b<w.heap.size->¬M b->b<w'.heap.size∧¬M' b∧w'.heap[b]? = w.heap[b]?):vV w' M' d u:=by
 cases d with
 | ph _ _ _=>trivial
 | und=>trivial
 | _=>exact RP.keep hk h
theorem vW.keep {w w':World} {M M':Nat->Prop} {g:Nat×Nat} {r r':Row} (h:vW w M g r) (O:r'.cells=r.cells) (U:r'.ty=r.ty) (X:w'.heap[g.1]? = w.heap[g.1]?) (hk:∀b,b<w.heap.size->¬M b->b<w'.heap.size∧¬M' b∧w'.heap[b]? = w.heap[b]?):vW w' M' g r':=by
 obtain⟨h1,cs,h2,h3,h4⟩:=h;exact⟨by rw[O];exact h1,cs,by rw[U];exact X.trans h2,by rw[O];exact h3,fun j d Y=>(h4 j d (by rw[<- O];exact Y)).keep hk⟩
theorem cr.keep {w w':World} {M M':Nat->Prop} {g:Nat×Nat} {r r':Row} (h:cr w M g r) (U:r'.cells=r.cells) (X:r'.ty=r.ty) (hm:r'.mp=r.mp) (Y:w'.heap[g.1]? = w.heap[g.1]?) (hk:∀b,b<w.heap.size->¬M b->b<w'.heap.size∧¬M' b∧w'.heap[b]? = w.heap[b]?):cr w' M' g r':=by
 unfold cr at h ⊢;rw[hm];cases O:r.mp with
 | true =>
  rw[O]at h;rcases h with h|h
  ·exact .inl (rR.keep h U X Y hk)
  ·exact .inr (vW.keep h U X Y hk)
 | false =>
  rw[O]at h;obtain⟨cs,h1,h2,h3⟩:=h;refine⟨cs,by rw[X];exact Y.trans h1,by rw[U];exact h2,fun j d Z =>?_⟩;rw[U]at Z;exact⟨(h3 j d Z).1,(h3 j d Z).2.keep hk⟩
theorem cr.heap {w:World} {M:Nat->Prop} {g:Nat×Nat} {r:Row} (h:cr w M g r):g.1<w.heap.size:=by
 unfold cr at h;cases O:r.mp with
 | true =>
  rw[O]at h;rcases h with⟨ks,vs,_,_,U,X⟩|⟨_,cs,h3,_⟩
  ·by_cases q:r.ty<900000
   ·obtain⟨ents,clock,h3,_⟩:=U q;exact (VK.1 h3).1
   ·obtain⟨_,b,ents,clock,seen,c,l,us,h3,_⟩:=X (by omega);exact (VK.1 h3).1
  ·exact (VK.1 h3).1
 | false=>rw[O]at h;obtain⟨cs,h3,_⟩:=h;exact (VK.1 h3).1
theorem Ra.mono {w w':World} {h h':Nat->Option Row} {blk blk':Nat->Option (Nat×Nat)} {x s n:Nat} {u:Value} (k:Ra w h blk x s n u) (O:∀r',h' x=some r'->(∃r,h x=some r)∧blk' x=blk x∧∀g,blk x=some g->w'.shape? g.1=w.shape? g.1):Ra w' h' blk' x s n u:=by
 intro r' U;obtain⟨⟨r,h1⟩,h2,h3⟩:=O r' U;rw[h2];rcases k r h1 with⟨g,c,X,ty,g0,g1,g2,g3,g4,g5⟩|Y
 ·exact .inl ⟨g,c,X,ty,g0,g1,g2,g3,g4,(h3 g g0).trans g5⟩
 ·exact .inr Y
theorem Jw.keep {L:Nat->Prop} {w0 w w':World} {M M':Nat->Prop} {g:Option (Nat×Nat)} {r:Row} (h:Jw L w0 w M g r) (O:∀b,g=some b->w'.heap[b.1]? = w.heap[b.1]?) (hk:∀b,b<w.heap.size->¬M b->b<w'.heap.size∧¬M' b∧w'.heap[b]? = w.heap[b]?):Jw L w0 w' M' g r:=by
 cases g with
 | none=>exact h
 | some g=>exact⟨h.1,h.2.keep rfl rfl rfl (O g rfl) hk⟩
section
variable {N:Nat} {M:Nat->Prop} {L:fV} {w0:World} {blk:Nat->Option (Nat×Nat)} {V:Nat->Nat->Prop} {t:Nat->D} {h:Nat->Option Row} {a:Act} {w:World}
theorem Inv.ev (O:Inv N M L w0 blk V t h a w) (x:Operand):RT w (Own M h blk) h blk V (ev t x) (a.eval x):=by
 cases x with
 | tmp i=>exact O.slots i
 | const v=>exact M7 _ _ _ _ _ v
 | global g=>trivial
 | func f=>exact RP.fn f
theorem Inv.xQ (O:Inv N M L w0 blk V t h a w) {x:Nat} {r:Row} {g:Nat×Nat} (U:h x=some r) (X:blk x=some g) (hm:r.mp=false):M0 w (Own M h blk) g r:=by
 have:=(O.rows x r U).2;rw[X]at this;have:=this.2;unfold cr at this;rw[hm]at this;exact this
theorem Inv.rowIs (O:Inv N M L w0 blk V t h a w) {x:Nat} {r:Row} {g:Nat×Nat} (U:h x=some r) (X:blk x=some g):cr w (Own M h blk) g r:=by
 have:=(O.rows x r U).2;rw[X]at this;exact this.2
theorem Inv.base (O:Inv N M L w0 blk V t h a w) {x:Nat} {r:Row} {g:Nat×Nat} (U:h x=some r) (X:blk x=some g):w0.heap.size<=g.1∨LB L g.1:=by
 have:=(O.rows x r U).2;rw[X]at this;exact this.1
theorem Inv.lt (O:Inv N M L w0 blk V t h a w) {x:Nat} {r:Row} {g:Nat×Nat} (U:h x=some r) (X:blk x=some g):g.1<w.heap.size:=by
 exact (O.rowIs U X).heap
theorem Inv.rF (O:Inv N M L w0 blk V t h a w) {b:Nat} (U:Own M h blk b):b<w.heap.size:=by
 rcases U with U|⟨x,r,g,X,_,Y,rfl⟩
 ·exact VJ (O.mlt b U) O.below.size
 ·exact O.lt X Y
theorem Inv.notM (O:Inv N M L w0 blk V t h a w) {x:Nat} {r:Row} {g:Nat×Nat} (U:h x=some r) (X:blk x=some g):¬M g.1:=by
 rcases O.base U X with h1|h1
 ·intro hm;have:=O.mlt _ hm;omega
 ·exact O.lent _ h1
theorem OA (O:Array Value) (d i:Nat) (v:Value) (U:d<O.size):(O.setIfInBounds d v).getD i undef=if i=d then v else O.getD i undef:=by
 simp only[VL]
 by_cases h:i=d
 ·subst h;simp[U]
 ·rw[Array.getElem?_setIfInBounds_ne (Ne.symm h)];simp[h]
theorem Inv.put (O:Inv N M L w0 blk V t h a w) {d:Nat} (X:d<N) {x:D} {v:Value} (Y:RT w (Own M h blk) h blk V x v):Inv N M L w0 blk V (bj t d x) h (a.put (some d) v) w where
 tab:=O.tab
 below:=O.below
 mlt:=O.mlt
 lent:=O.lent
 pin:=O.pin
 defers:=O.defers
 tsz:=by simp[Act.put,O.tsz]
 slots i:=by
  simp only[Act.put];rw[OA _ _ _ _ (by rw[O.tsz];exact X)]
  by_cases U:i=d
  ·subst U;simpa [bj] using Y
  ·simpa [bj,U] using O.slots i
 rows:=O.rows
 inj:=O.inj
 ali:=O.ali
 pha:=O.pha
 big:=O.big
theorem Inv.weaken (O:Inv N M L w0 blk V t h a w) {V':Nat->Nat->Prop} (hV:∀x v,V x v->V' x v):Inv N M L w0 blk V' t h a w where
 tab:=O.tab
 below:=O.below
 mlt:=O.mlt
 lent:=O.lent
 pin go U:=⟨hV _ _ (O.pin go U).1,(O.pin go U).2⟩
 defers:=O.defers
 tsz:=O.tsz
 slots i:=(O.slots i).mono ⟨fun _ h1 h2=>⟨h1,h2,rfl⟩,hV,fun _ _ _ r' h1 h2=>⟨⟨r',h1,h2⟩,rfl,fun _ _=>rfl⟩⟩
 rows x r X:=⟨fun Y=>hV _ _ ((O.rows x r X).1 Y),(O.rows x r X).2⟩
 pha:=O.pha
 big:=O.big
 inj:=O.inj
 ali y r g Z hz hl U j c d hj hd:=by
  obtain⟨u,h1,h2⟩:=O.ali y r g Z hz hl U j c d hj hd;exact⟨u,h1,h2.mono ⟨fun _ h1 h2=>⟨h1,h2,rfl⟩,hV,fun _ _ _ r' h1 h2=>⟨⟨r',h1,h2⟩,rfl,fun _ _=>rfl⟩⟩⟩
theorem Inv.OI (O:Inv N M L w0 blk V t h a w) {w':World} (hb:Below w.heap.size w w'):Inv N M L w0 blk V t h a w' where
 tab:=O.tab.keep fun b h1 h2=>⟨VJ h1 hb.size,h2,hb.block b h1⟩
 below:=O.below.trans (cC.sI (L:=LB L) hb) (fun _ h _=>h)
 mlt:=O.mlt
 lent:=O.lent
 pin go U:=⟨(O.pin go U).1,fun r hr hv=>⟨((O.pin go U).2 r hr hv).1,fun g X=>by
  have h1:=(O.pin go U).2 r hr hv;rw[<- h1.2 g X];exact bz (hb.block _ (O.lt hr (h1.1.trans X)))⟩⟩
 defers:=O.defers
 tsz:=O.tsz
 slots i:=(O.slots i).mono ⟨fun b h1 h2=>⟨VJ h1 hb.size,h2,hb.block b h1⟩,fun _ _ h=>h,
  fun x v _ r' h1 h2=>⟨⟨r',h1,h2⟩,rfl,fun g U=>bz (hb.block _ (O.lt h1 U))⟩⟩
 rows x r hx:=⟨(O.rows x r hx).1,(O.rows x r hx).2.keep (fun g U=>hb.block _ (O.lt hx U)) (fun b Y k2=>⟨VJ Y hb.size,k2,hb.block b Y⟩)⟩
 inj:=O.inj
 big:=O.big
 pha y r g Z hm U j x s n hc:=by
  obtain⟨h0,u,h1,h2⟩:=O.pha y r g Z hm U j x s n hc;exact⟨h0,u,(VB (a:=⟨g.1,g.2+j,none⟩) (hb.block _ (O.lt Z U))).trans h1,h2.mono fun r' Y=>⟨⟨r',Y⟩,rfl,fun g' aa=>bz (hb.block _ (O.lt Y aa))⟩⟩
 ali y r g Z hz hl U j c d hj hd:=by
  obtain⟨u,h1,h2⟩:=O.ali y r g Z hz hl U j c d hj hd;refine⟨u,(VB (a:=⟨g.1,g.2+j,none⟩) (hb.block _ (O.lt Z U))).trans h1,h2.mono ⟨fun b h1 h2=>⟨VJ h1 hb.size,h2,hb.block b h1⟩,fun _ _ h=>h,
   fun x v _ r' h1 h2=>⟨⟨r',h1,h2⟩,rfl,fun g U=>bz (hb.block _ (O.lt h1 U))⟩⟩⟩
theorem Inv.drew (O:Inv N M L w0 blk V t h a w):Inv N M L w0 blk V t h a w.drew:=O.OI ((Below.refl _ _).drew)
theorem zb (l l':List (Nat×Option Row)):∀h:Nat->Option Row,ay h (l++l')=ay (ay h l) l':=by
 induction l with
 | nil=>intro h;rfl
 | cons p l O=>intro h;obtain⟨x,r⟩:=p;exact O _
theorem ef (h:Nat->Option Row) (l:List (Nat×Option Row)) (x:Nat) (r:Option Row):ay h (l++[(x,r)])=bj (ay h l) x r:=by rw[zb];rfl
theorem CZ (r:Row):(mJ r).fz=true:=by
 unfold mJ;split
 ·assumption
 ·rfl
theorem Sr (r:Row):(mJ r).v=r.v∧(mJ r).ty=r.ty∧(mJ r).cells=r.cells∧(mJ r).mp=r.mp∧((mJ r).lst=false->mJ r=r):=by
 unfold mJ;split
 ·exact⟨rfl,rfl,rfl,rfl,fun _=>rfl⟩
 ·exact⟨rfl,rfl,rfl,rfl,fun h=>by cases h⟩
theorem H5 (h:Nat->Option Row) (x:Nat):∀(fr:List Nat) (g:Nat->Option Row),(∀y,y∉fr->g y=h y∨g y=(h y).map mJ) ->
  (x∈fr->ay g (fB h fr) x=(h x).map mJ)∧(x∉fr->ay g (fB h fr) x=g x):=by
 intro fr
 induction fr with
 | nil=>intro g _;exact⟨fun O=>by simp at O,fun _=>rfl⟩
 | cons y fr Z =>
  intro g hg;simp only[fB,VM,ay];have Y:∀z,z∉fr->(bj g y ((h y).map mJ)) z=h z∨(bj g y ((h y).map mJ)) z=(h z).map mJ:=by
   intro z hz
   by_cases U:z=y
   ·subst U;right;simp[bj]
   ·simp only[bj,U,if_false];exact hg z (by simp[U,hz])
  obtain⟨i1,i2⟩:=Z _ Y;refine⟨fun O =>?_,fun O =>?_⟩
  ·by_cases X:x∈fr
   ·exact i1 X
   ·have:x=y:=by simpa [X] using O
    subst this;exact (i2 X).trans (by simp[bj])
  ·simp only[VN,not_or]at O;exact (i2 O.2).trans (by simp[bj,O.1])
theorem xr (h:Nat->Option Row) (fr:List Nat) (x:Nat):ay h (fB h fr) x=if x∈fr then (h x).map mJ else h x:=by
 have:=H5 h x fr h (fun _ _ =>.inl rfl)
 by_cases O:x∈fr
 ·simpa [O] using this.1 O
 ·simpa [O] using this.2 O
theorem Inv.freeze (O:Inv N M L w0 blk V t h a w) (fr:List Nat):Inv N M L w0 blk V t (ay h (fB h fr)) a w:=by
 have X:∀x r',ay h (fB h fr) x=some r'->∃r,h x=some r∧r'.v=r.v∧r'.ty=r.ty∧r'.cells=r.cells∧(r'.fz=false->r.fz=false)∧(r'.lst=false->r'=r)∧r'.mp=r.mp:=by
  intro x r' U;rw[xr]at U;split at U
  ·cases hr:h x with
   | none=>simp[hr]at U
   | some r =>
    simp only[hr,Option.map_some,VP]at U;subst U;obtain⟨k1,k2,k3,k4,k5⟩:=Sr r;exact⟨r,rfl,k1,k2,k3,(fun h=>by rw[CZ]at h;cases h),k5,k4⟩
  ·exact⟨r',U,rfl,rfl,rfl,id,(fun _=>rfl),rfl⟩
 have ho:∀b,¬Own M h blk b->¬Own M (ay h (fB h fr)) blk b:=by
  intro b hb Z;rcases Z with Z|⟨x,r',g,U,hz,Y,rfl⟩
  ·exact hb (.inl Z)
  ·obtain⟨r,h1,_,_,_,h5,_⟩:=X x r' U;exact hb (.inr ⟨x,r,g,h1,h5 hz,Y,rfl⟩)
 exact {
  tab:=O.tab.keep fun b h1 h2=>⟨h1,ho b h2,rfl⟩
  below:=O.below
  mlt:=O.mlt
  lent:=O.lent
  pin:=fun go Y=>⟨(O.pin go Y).1,fun r' hr hv=>by
   obtain⟨r,g1,g2,_⟩:=X 0 r' hr;exact (O.pin go Y).2 r g1 (by omega)⟩
  defers:=O.defers
  tsz:=O.tsz
  slots:=fun i=>(O.slots i).mono ⟨fun b h1 h2=>⟨h1,ho b h2,rfl⟩,fun _ _ h=>h,fun x v _ r' h1 h2=>by
   obtain⟨r,g1,g2,_⟩:=X x r' h1;exact⟨⟨r,g1,by omega⟩,rfl,fun _ _=>rfl⟩⟩
  rows:=fun x r' U=>by
   obtain⟨r,g1,g2,g3,g4,_,_,g7⟩:=X x r' U;obtain⟨h1,h2⟩:=O.rows x r g1;rw[g2];refine⟨h1,?_⟩;cases hb:blk x with
   | none=>rw[hb]at h2;exact g4.trans h2
   | some g =>
    rw[hb]at h2;exact⟨h2.1,h2.2.keep g4 g3 g7 rfl fun b k1 k2=>⟨k1,ho b k2,rfl⟩⟩
  inj:=fun x y r s g g' U hy Y aa he=>by
   obtain⟨r',g1,_⟩:=X x r U;obtain⟨s',g2,_⟩:=X y s hy;exact O.inj x y r' s' g g' g1 g2 Y aa he
  big:=O.big
  pha:=fun y r' g hy hm Y j x s n hc=>by
   obtain⟨r,g1,_,_,g4,_,_,g7⟩:=X y r' hy;obtain⟨h0,u,h1,h2⟩:=O.pha y r g g1 (g7.symm.trans hm) Y j x s n (by rw[<- g4];exact hc);exact⟨h0,u,h1,h2.mono fun ab k1=>by
    obtain⟨r2,q1,_⟩:=X x ab k1;exact⟨⟨r2,q1⟩,rfl,fun _ _=>rfl⟩⟩
  ali:=fun y r' g hy hz hl Y j c d' hj ad=>by
   obtain⟨r,g1,_,_,_,_,g6,_⟩:=X y r' hy;obtain rfl:=g6 hl;obtain⟨u,h1,h2⟩:=O.ali y r' g g1 hz hl Y j c d' hj ad;exact⟨u,h1,h2.mono ⟨fun b h1 h2=>⟨h1,ho b h2,rfl⟩,fun _ _ h=>h,fun x v _ r' h1 h2=>by
    obtain⟨r,g1,g2,_⟩:=X x r' h1;exact⟨⟨r,g1,by omega⟩,rfl,fun _ _=>rfl⟩⟩⟩ }
def forget (h:Nat->Option Row):Option Nat->Nat->Option Row
 | some y=>bj h y none
 | none=>h
theorem Inv.CA (Z:Inv N M L w0 blk V t h a w) {w':World} {h1:Nat->Option Row} {old:Option Nat} {d e:Nat} {r0:Row} {go:Option (Nat×Nat)}
  (aA:w'.os=w.os) (ak:w'.tape=w.tape) (au:w'.output=w.output) (an:w.heap.size<=w'.heap.size)
  (hblock:∀k,k<w.heap.size->(∀y g,old=some y->blk y=some g->k≠g.1)->w'.heap[k]? = w.heap[k]?)
  (hold:∀y,old=some y->∃r,h y=some r∧r.fz=false) (av:h1=forget h old) (hV:fY N V d e)
  (ae:match go with
   | some g=>(w.heap.size<=g.1∨∃y g0,old=some y∧blk y=some g0∧g.1=g0.1)∧cr w' (fun b=>Own M h1 blk b∨b=g.1) g r0
   | none=>r0.cells=[]) (hfz:r0.fz=false) (ai:r0.v=e) (aB:r0.mp=true->∀g,go=some g->∀j x s n:Nat,r0.cells[j]? = some (D.ph x s n)->HZ d j x∧∃u,w'.cell? ⟨g.1,g.2+j,none⟩=some u∧Ra w' (bj h1 d (some r0)) (bj blk d go) x s n u:=by (intro h;cases h)) :
  Inv N M L w0 (bj blk d go) (fun x v=>V x v∨(x=d∧v=e)) t (bj h1 d (some r0)) a w':=by
 have hf:∀x r,h1 x=some r->h x=some r∧∀y,old=some y->x≠y:=by
  intro x r Y;cases old with
  | none=>subst av;exact⟨Y,fun y X=>by cases X⟩
  | some y =>
   subst av;simp only[forget]at Y
   by_cases ao:x=y
   ·subst ao;simp[bj]at Y
   ·rw[al _ _ ao]at Y;exact⟨Y,fun z hz=>by cases hz;exact ao⟩
 have hne:∀x r g,h1 x=some r->blk x=some g->∀y g0,old=some y->blk y=some g0->g.1≠g0.1:=by
  intro x r g Y U y g0 X ab he;obtain⟨s,hs,_⟩:=hold y X;exact (hf x r Y).2 y X (Z.inj x y r s g g0 (hf x r Y).1 hs U ab he)
 have aw:∀x r g g2,h1 x=some r->blk x=some g->go=some g2->g.1≠g2.1:=by
  intro x r g g2 Y U aC he;subst aC;rcases ae.1 with hn|⟨y,g0,X,ab,ah⟩
  ·have:=Z.lt (hf x r Y).1 U;omega
  ·exact hne x r g Y U y g0 X ab (he.trans ah)
 have aq:∀b,b<w.heap.size->¬Own M h blk b->w'.heap[b]? = w.heap[b]?:=by
  intro b hb hn;refine hblock b hb fun y g X U he =>?_;obtain⟨s,hs,hz⟩:=hold y X;exact hn (.inr ⟨y,s,g,hs,hz,U,he.symm⟩)
 have ax:∀b,b<w.heap.size->¬Own M h blk b->¬Own M (bj h1 d (some r0)) (bj blk d go) b:=by
  intro b hb hn ar;rcases ar with ar|⟨x,r,g,Y,hz,U,he⟩
  ·exact hn (.inl ar)
  ·by_cases O:x=d
   ·subst O;rw[aj]at U;subst U;rcases ae.1 with aI|⟨y,g0,X,ab,ah⟩
    ·omega
    ·obtain⟨s,hs,aD⟩:=hold y X;exact hn (.inr ⟨y,s,g0,hs,aD,ab,by rw[<- ah,he]⟩)
   ·rw[al _ _ O]at Y U;exact hn (.inr ⟨x,r,g,(hf x r Y).1,hz,U,he⟩)
 have hk:∀b,b<w.heap.size->¬Own M h blk b->b<w'.heap.size∧¬Own M (bj h1 d (some r0)) (bj blk d go) b∧w'.heap[b]? = w.heap[b]? :=
  fun b h1 h2=>⟨by omega,ax b h1 h2,aq b h1 h2⟩
 have hrowsame:∀x r g,h1 x=some r->blk x=some g->w'.heap[g.1]? = w.heap[g.1]?:=fun x r g Y U=>hblock _ (Z.lt (hf x r Y).1 U) (fun y g0 X ab=>hne x r g Y U y g0 X ab);exact {
  tab:=Z.tab.keep hk
  below:=Z.below.trans (L':=fun k=>∃y g,old=some y∧blk y=some g∧k=g.1) ⟨aA,ak,au,an,fun k aE hn=>hblock k aE (fun y g X U he=>hn ⟨y,g,X,U,he⟩)⟩ (fun k ⟨y,g,X,U,he⟩ aF=>by
   obtain⟨s,hs,_⟩:=hold y X;rcases Z.base hs U with hb|hb
   ·omega
   ·rw[he];exact hb)
  mlt:=Z.mlt
  lent:=Z.lent
  pin:=fun go' U=>⟨.inl (Z.pin go' U).1,fun r hr hv=>by
   by_cases O:0=d
   ·subst O;rw[aj]at hr;simp only[VP]at hr;subst hr;rw[ai]at hv;subst hv;exact absurd (Z.pin go' U).1 hV.no
   ·rw[al _ _ O]at hr;rw[al _ _ O];obtain⟨k1,k2⟩:=(Z.pin go' U).2 r (hf 0 r hr).1 hv;exact⟨k1,fun g ay=>(bz (hrowsame 0 r g hr (k1.trans ay))).trans (k2 g ay)⟩⟩
  defers:=Z.defers
  tsz:=Z.tsz
  slots:=fun i=>(Z.slots i).mono ⟨hk,fun _ _ h =>.inl h,fun x v hv r' g1 g2=>by
   by_cases O:x=d
   ·subst O;rw[aj]at g1;simp only[VP]at g1;subst g1;rw[ai]at g2;subst g2;exact absurd hv hV.no
   ·rw[al _ _ O]at g1;exact⟨⟨r',(hf x r' g1).1,g2⟩,al _ _ O,fun g U=>bz (hrowsame x r' g g1 U)⟩⟩
  rows:=fun x r Y=>by
   by_cases O:x=d
   ·subst O;rw[aj]at Y;simp only[VP]at Y;subst Y;rw[aj];refine⟨fun _ =>.inr ⟨rfl,ai⟩,?_⟩;cases go with
    | none=>exact ae
    | some g =>
     obtain⟨n1,n2⟩:=ae;refine⟨?_,n2.keep rfl rfl rfl rfl fun b q1 q2=>⟨q1,fun hb=>q2 ?_,rfl⟩⟩;rotate_left
     ·rcases hb with hb|⟨x',r,g',Y,hz,U,he⟩
      ·exact .inl (.inl hb)
      ·by_cases O:x'=x
       ·subst O;rw[aj]at U;cases U;exact .inr he.symm
       ·rw[al _ _ O]at Y U;exact .inl (.inr ⟨x',r,g',Y,hz,U,he⟩)
     rcases n1 with U|⟨y,g0,X,ab,ah⟩
     ·exact .inl (VI Z.below.size U)
     ·obtain⟨s,hs,_⟩:=hold y X;rw[ah];exact Z.base hs ab
   ·rw[al _ _ O]at Y;rw[al _ _ O];exact⟨fun hn =>.inl ((Z.rows x r (hf x r Y).1).1 hn),(Z.rows x r (hf x r Y).1).2.keep (fun g U=>hrowsame x r g Y U) hk⟩
  inj:=fun x y r s g g' Y X U ad he=>by
   by_cases O:x=d
   ·by_cases aa:y=d
    ·rw[O,aa]
    ·subst O;rw[al _ _ aa]at X ad;rw[aj]at U;exact absurd he.symm (aw y s g' g X ad U)
   ·by_cases aa:y=d
    ·subst aa;rw[al _ _ O]at Y U;rw[aj]at ad;exact absurd he (aw x r g g' Y U ad)
    ·rw[al _ _ O]at Y U;rw[al _ _ aa]at X ad;exact Z.inj x y r s g g' (hf x r Y).1 (hf y s X).1 U ad he
  big:=Z.big
  pha:=fun y r g X hm U j x s n hc=>by
   by_cases aa:y=d
   ·subst aa;rw[aj]at X;simp only[VP]at X;subst X;rw[aj]at U;exact aB hm g U j x s n hc
   ·rw[al _ _ aa]at X U;obtain⟨h0,u,k1,k2⟩:=Z.pha y r g (hf y r X).1 hm U j x s n hc;have aF:=hV.lt;have az:=Z.big;have aG:PK=1000000:=rfl;have O:x≠d:=by simp only[HZ,NK]at h0;rw[aG]at h0 az;omega
    exact⟨h0,u,(VB (a:=⟨g.1,g.2+j,none⟩) (hrowsame y r g X U)).trans k1,k2.mono fun r' g1=>by
     rw[al _ _ O]at g1;exact⟨⟨r',(hf x r' g1).1⟩,al _ _ O,fun g' ad=>bz (hrowsame x r' g' g1 ad)⟩⟩
  ali:=fun y r g X hz hl U j c d' hj aH=>by
   by_cases aa:y=d
   ·subst aa;rw[aj]at X;simp only[VP]at X;subst X;rw[hfz]at hz;cases hz
   ·rw[al _ _ aa]at X U;obtain⟨u,h1,h2⟩:=Z.ali y r g (hf y r X).1 hz hl U j c d' hj aH;exact⟨u,(VB (a:=⟨g.1,g.2+j,none⟩) (hrowsame y r g X U)).trans h1,h2.mono ⟨hk,fun _ _ h =>.inl h,fun x v hv r' g1 g2=>by
     by_cases O:x=d
     ·subst O;rw[aj]at g1;simp only[VP]at g1;subst g1;rw[ai]at g2;subst g2;exact absurd hv hV.no
     ·rw[al _ _ O]at g1;exact⟨⟨r',(hf x r' g1).1,g2⟩,al _ _ O,fun g U=>bz (hrowsame x r' g g1 U)⟩⟩⟩ }
theorem Inv.Nh (hI:Inv N M L w0 blk V t h a w) {w':World} {h1:Nat->Option Row} {old:Option Nat} {d:Nat} {r0:Row} {go:Option (Nat×Nat)}
  (ay:w'.os=w.os) (ah:w'.tape=w.tape) (aq:w'.output=w.output) (ai:w.heap.size<=w'.heap.size)
  (hblock:∀k,k<w.heap.size->(∀y g,old=some y->blk y=some g->k≠g.1)->w'.heap[k]? = w.heap[k]?)
  (hold:∀y,old=some y->∃r,h y=some r∧r.fz=false) (ar:h1=forget h old) (aH:N<=d) (az:d≠0) (au:¬V d r0.v) (aA:∀(y:Nat) (r:Row) (j s n:Nat),h1 y=some r->r.mp=true->r.cells[j]? = some (D.ph d s n)->False)
  (ad:match go with
   | some g=>(w.heap.size<=g.1∨∃y g0,old=some y∧blk y=some g0∧g.1=g0.1)∧cr w' (fun b=>Own M h1 blk b∨b=g.1) g r0
   | none=>r0.cells=[]) (hfz:r0.fz=false) (aB:r0.mp=true->∀j x s n:Nat,r0.cells[j]?≠some (D.ph x s n):=by (intro h;cases h)) :
  Inv N M L w0 (bj blk d go) V t (bj h1 d (some r0)) a w':=by
 have aG:=hI.big;have aI:PK=1000000:=rfl;have hf:∀x r,h1 x=some r->h x=some r∧∀y,old=some y->x≠y:=by
  intro x r Y;cases old with
  | none=>subst ar;exact⟨Y,fun y X=>by cases X⟩
  | some y =>
   subst ar;simp only[forget]at Y
   by_cases ak:x=y
   ·subst ak;simp[bj]at Y
   ·rw[al _ _ ak]at Y;exact⟨Y,fun z hz=>by cases hz;exact ak⟩
 have hne:∀x r g,h1 x=some r->blk x=some g->∀y g0,old=some y->blk y=some g0->g.1≠g0.1:=by
  intro x r g Y U y g0 X aa he;obtain⟨s,hs,_⟩:=hold y X;exact (hf x r Y).2 y X (hI.inj x y r s g g0 (hf x r Y).1 hs U aa he)
 have av:∀x r g g2,h1 x=some r->blk x=some g->go=some g2->g.1≠g2.1:=by
  intro x r g g2 Y U aC he;subst aC;rcases ad.1 with hn|⟨y,g0,X,aa,ae⟩
  ·have:=hI.lt (hf x r Y).1 U;omega
  ·exact hne x r g Y U y g0 X aa (he.trans ae)
 have an:∀b,b<w.heap.size->¬Own M h blk b->w'.heap[b]? = w.heap[b]?:=by
  intro b hb hn;refine hblock b hb fun y g X U he =>?_;obtain⟨s,hs,hz⟩:=hold y X;exact hn (.inr ⟨y,s,g,hs,hz,U,he.symm⟩)
 have aw:∀b,b<w.heap.size->¬Own M h blk b->¬Own M (bj h1 d (some r0)) (bj blk d go) b:=by
  intro b hb hn ao;rcases ao with ao|⟨x,r,g,Y,hz,U,he⟩
  ·exact hn (.inl ao)
  ·by_cases O:x=d
   ·subst O;rw[aj]at U;subst U;rcases ad.1 with aJ|⟨y,g0,X,aa,ae⟩
    ·omega
    ·obtain⟨s,hs,aD⟩:=hold y X;exact hn (.inr ⟨y,s,g0,hs,aD,aa,by rw[<- ae,he]⟩)
   ·rw[al _ _ O]at Y U;exact hn (.inr ⟨x,r,g,(hf x r Y).1,hz,U,he⟩)
 have hk:∀b,b<w.heap.size->¬Own M h blk b->b<w'.heap.size∧¬Own M (bj h1 d (some r0)) (bj blk d go) b∧w'.heap[b]? = w.heap[b]? :=
  fun b h1 h2=>⟨by omega,aw b h1 h2,an b h1 h2⟩
 have hrowsame:∀x r g,h1 x=some r->blk x=some g->w'.heap[g.1]? = w.heap[g.1]?:=fun x r g Y U=>hblock _ (hI.lt (hf x r Y).1 U) (fun y g0 X aa=>hne x r g Y U y g0 X aa);exact {
  tab:=hI.tab.keep hk
  below:=hI.below.trans (L':=fun k=>∃y g,old=some y∧blk y=some g∧k=g.1) ⟨ay,ah,aq,ai,fun k aE hn=>hblock k aE (fun y g X U he=>hn ⟨y,g,X,U,he⟩)⟩ (fun k ⟨y,g,X,U,he⟩ aK=>by
   obtain⟨s,hs,_⟩:=hold y X;rcases hI.base hs U with hb|hb
   ·omega
   ·rw[he];exact hb)
  mlt:=hI.mlt
  lent:=hI.lent
  pin:=fun go' U=>⟨(hI.pin go' U).1,fun r hr hv=>by
   by_cases O:0=d
   ·exact absurd O.symm az
   ·rw[al _ _ O]at hr;rw[al _ _ O];obtain⟨k1,k2⟩:=(hI.pin go' U).2 r (hf 0 r hr).1 hv;exact⟨k1,fun g ax=>(bz (hrowsame 0 r g hr (k1.trans ax))).trans (k2 g ax)⟩⟩
  defers:=hI.defers
  tsz:=hI.tsz
  slots:=fun i=>(hI.slots i).mono ⟨hk,fun _ _ h=>h,fun x v hv r' g1 g2=>by
   by_cases O:x=d
   ·subst O;rw[aj]at g1;simp only[VP]at g1;subst g1;subst g2;exact absurd hv au
   ·rw[al _ _ O]at g1;exact⟨⟨r',(hf x r' g1).1,g2⟩,al _ _ O,fun g U=>bz (hrowsame x r' g g1 U)⟩⟩
  rows:=fun x r Y=>by
   by_cases O:x=d
   ·subst O;rw[aj]at Y;simp only[VP]at Y;subst Y;rw[aj];refine⟨fun hn=>by omega,?_⟩;cases go with
    | none=>exact ad
    | some g =>
     obtain⟨n1,n2⟩:=ad;refine⟨?_,n2.keep rfl rfl rfl rfl fun b q1 q2=>⟨q1,fun hb=>q2 ?_,rfl⟩⟩;rotate_left
     ·rcases hb with hb|⟨x',r,g',Y,hz,U,he⟩
      ·exact .inl (.inl hb)
      ·by_cases O:x'=x
       ·subst O;rw[aj]at U;cases U;exact .inr he.symm
       ·rw[al _ _ O]at Y U;exact .inl (.inr ⟨x',r,g',Y,hz,U,he⟩)
     rcases n1 with U|⟨y,g0,X,aa,ae⟩
     ·exact .inl (VI hI.below.size U)
     ·obtain⟨s,hs,_⟩:=hold y X;rw[ae];exact hI.base hs aa
   ·rw[al _ _ O]at Y;rw[al _ _ O];exact⟨fun hn=>(hI.rows x r (hf x r Y).1).1 hn,(hI.rows x r (hf x r Y).1).2.keep (fun g U=>hrowsame x r g Y U) hk⟩
  inj:=fun x y r s g g' Y X U ab he=>by
   by_cases O:x=d
   ·by_cases Z:y=d
    ·rw[O,Z]
    ·subst O;rw[al _ _ Z]at X ab;rw[aj]at U;exact absurd he.symm (av y s g' g X ab U)
   ·by_cases Z:y=d
    ·subst Z;rw[al _ _ O]at Y U;rw[aj]at ab;exact absurd he (av x r g g' Y U ab)
    ·rw[al _ _ O]at Y U;rw[al _ _ Z]at X ab;exact hI.inj x y r s g g' (hf x r Y).1 (hf y s X).1 U ab he
  big:=hI.big
  pha:=fun y r g X hm U j x s n hc=>by
   by_cases Z:y=d
   ·subst Z;rw[aj]at X;simp only[VP]at X;subst X;exact absurd hc (aB hm j x s n)
   ·rw[al _ _ Z]at X U;obtain⟨h0,u,k1,k2⟩:=hI.pha y r g (hf y r X).1 hm U j x s n hc;have O:x≠d:=by
     intro e;subst e;exact aA y r j s n X hm hc
    exact⟨h0,u,(VB (a:=⟨g.1,g.2+j,none⟩) (hrowsame y r g X U)).trans k1,k2.mono fun r' g1=>by
     rw[al _ _ O]at g1;exact⟨⟨r',(hf x r' g1).1⟩,al _ _ O,fun g' ab=>bz (hrowsame x r' g' g1 ab)⟩⟩
  ali:=fun y r g X hz hl U j c d' hj aF=>by
   by_cases Z:y=d
   ·subst Z;rw[aj]at X;simp only[VP]at X;subst X;rw[hfz]at hz;cases hz
   ·rw[al _ _ Z]at X U;obtain⟨u,h1,h2⟩:=hI.ali y r g (hf y r X).1 hz hl U j c d' hj aF;exact⟨u,(VB (a:=⟨g.1,g.2+j,none⟩) (hrowsame y r g X U)).trans h1,h2.mono ⟨hk,fun _ _ h=>h,fun x v hv r' g1 g2=>by
     by_cases O:x=d
     ·subst O;rw[aj]at g1;simp only[VP]at g1;subst g1;subst g2;exact absurd hv au
     ·rw[al _ _ O]at g1;exact⟨⟨r',(hf x r' g1).1,g2⟩,al _ _ O,fun g U=>bz (hrowsame x r' g g1 U)⟩⟩⟩ }
theorem Inv.Ni (hI:Inv N M L w0 blk V t h a w) {w':World} {h1:Nat->Option Row} {old:Option Nat} {d:Nat} {r0:Row} {go:Option (Nat×Nat)}
  (ai:w'.os=w.os) (U:w'.tape=w.tape) (aa:w'.output=w.output) (X:w.heap.size<=w'.heap.size)
  (O:∀k,k<w.heap.size->(∀y g,old=some y->blk y=some g->k≠g.1)->w'.heap[k]? = w.heap[k]?)
  (hold:∀y,old=some y->∃r,h y=some r∧r.fz=false) (Y:h1=forget h old) {y0:Nat} (ak:d=PK+y0) (au:y0<N) (an:∀v,¬V d v) (ao:∀r,h1 y0=some r->r.mp=false)
  (ab:match go with
   | some g=>(w.heap.size<=g.1∨∃y g0,old=some y∧blk y=some g0∧g.1=g0.1)∧cr w' (fun b=>Own M h1 blk b∨b=g.1) g r0
   | none=>r0.cells=[]) (hfz:r0.fz=false) (aq:r0.mp=true->∀j x s n:Nat,r0.cells[j]?≠some (D.ph x s n):=by (intro h;cases h)) :
  Inv N M L w0 (bj blk d go) V t (bj h1 d (some r0)) a w':=by
 have ar:PK=1000000:=rfl;have ad:=hI.big;refine hI.Nh ai U aa X O hold Y (by omega) (by omega) (an _) (fun y r j s n Z hm hc =>?_) ab hfz aq;have ae:h y=some r:=by
  cases old with
  | none=>subst Y;exact Z
  | some z =>
   subst Y;simp only[forget]at Z
   by_cases ah:y=z
   ·subst ah;rw[aj]at Z;cases Z
   ·rwa [al _ _ ah]at Z
 have hrow:=(hI.rows y r ae).2;cases hb:blk y with
 | none =>
  rw[hb]at hrow;rw[show r.cells=[] from hrow]at hc;cases hc
 | some g =>
  have h0:=(hI.pha y r g ae hm hb j _ s n hc).1;have:y=y0:=by simp only[HZ,NK]at h0;rw[ar]at h0 ak ad;omega
  subst this;rw[ao r Z]at hm;cases hm
theorem Inv.H3 (hI:Inv N M L w0 blk V t h a w) {w':World} {h1:Nat->Option Row} {old:Option Nat} {d e ty:Nat} {lst fz:Bool} {go:Option (Nat×Nat)} {cs:List D}
  (aa:w'.os=w.os) (X:w'.tape=w.tape) (Z:w'.output=w.output) (Y:w.heap.size<=w'.heap.size)
  (O:∀k,k<w.heap.size->(∀y g,old=some y->blk y=some g->k≠g.1)->w'.heap[k]? = w.heap[k]?)
  (hold:∀y,old=some y->∃r,h y=some r∧r.fz=false) (ab:h1=forget h old) (hV:fY N V d e)
  (U:match go with
   | some g=>(w.heap.size<=g.1∨∃y g0,old=some y∧blk y=some g0∧g.1=g0.1)∧∃vs:Array Value,w'.heap[g.1]? = some (.cells vs ty (0,0))∧g.2+cs.length<=vs.size∧∀j x,cs[j]? = some x->aF x=true∧RP w' (fun b=>Own M h1 blk b∨b=g.1) x (vs.getD (g.2+j) undef)
   | none=>cs=[]) (hfz:fz=false:=by rfl) :
  Inv N M L w0 (bj blk d go) (fun x v=>V x v∨(x=d∧v=e)) t (bj h1 d (some ⟨e,ty,cs,fz,lst,false⟩)) a w':=by
 refine hI.CA (r0:=⟨e,ty,cs,fz,lst,false⟩) aa X Z Y O hold ab hV ?_ hfz rfl;cases go with
 | none=>exact U
 | some g=>exact U
theorem Inv.Ng (hI:Inv N M L w0 blk V t h a w) {w':World} {h1:Nat->Option Row} {old:Option Nat} {d e ty:Nat} {lst fz:Bool} {go:Option (Nat×Nat)} {cs:List D}
  (ae:w'.os=w.os) (X:w'.tape=w.tape) (aa:w'.output=w.output) (Y:w.heap.size<=w'.heap.size)
  (O:∀k,k<w.heap.size->(∀y g,old=some y->blk y=some g->k≠g.1)->w'.heap[k]? = w.heap[k]?)
  (hold:∀y,old=some y->∃r,h y=some r∧r.fz=false) (ab:h1=forget h old) (hV:fY N V d e)
  (U:match go with
   | some g=>(w.heap.size<=g.1∨∃y g0,old=some y∧blk y=some g0∧g.1=g0.1)∧∃vs:Array Value,w'.heap[g.1]? = some (.cells vs ty (0,0))∧g.2+cs.length<=vs.size∧∀j x,cs[j]? = some x->aF x=true∧RP w (Own M h blk) x (vs.getD (g.2+j) undef)
   | none=>cs=[]) (hfz:fz=false:=by rfl) :
  Inv N M L w0 (bj blk d go) (fun x v=>V x v∨(x=d∧v=e)) t (bj h1 d (some ⟨e,ty,cs,fz,lst,false⟩)) a w':=by
 refine hI.H3 ae X aa Y O hold ab hV ?_ hfz;cases go with
 | none=>exact U
 | some g =>
  obtain⟨n1,vs,n2,n3,n4⟩:=U;refine⟨n1,vs,n2,n3,fun j x hj=>⟨(n4 j x hj).1,(n4 j x hj).2.keep fun b q1 q2=>⟨by omega,?_,?_⟩⟩⟩
  ·rintro (hb|rfl)
   ·apply q2;rcases hb with hb|⟨x,r,g',hx,hz,ah,he⟩
    ·exact .inl hb
    ·refine .inr ⟨x,r,g',?_,hz,ah,he⟩;subst ab;cases old with
     | none=>exact hx
     | some y =>
      simp only[forget]at hx
      by_cases ad:x=y
      ·subst ad;simp[bj]at hx
      ·rwa [al _ _ ad]at hx
   ·rcases n1 with n1|⟨y,g0,hy,Z,he⟩
    ·omega
    ·obtain⟨r,hr,hz⟩:=hold y hy;exact q2 (.inr ⟨y,r,g0,hr,hz,Z,he.symm⟩)
  ·refine O b q1 fun y g0 hy Z he =>?_;obtain⟨r,hr,hz⟩:=hold y hy;exact q2 (.inr ⟨y,r,g0,hr,hz,Z,he.symm⟩)
theorem Inv.alloc (U:Inv N M L w0 blk V t h a w) {d e ty:Nat} {lst:Bool} {cs:List D} {vs:Array Value} (hV:fY N V d e) (X:cs.length<=vs.size)
  (Y:∀j x,cs[j]? = some x->aF x=true∧RP w (Own M h blk) x (vs.getD j undef)) :
  Inv N M L w0 (bj blk d (some (w.heap.size,0))) (fun x v=>V x v∨(x=d∧v=e)) t (bj h d (some ⟨e,ty,cs,false,lst,false⟩)) a (w.alloc (.cells vs ty)):=by
 have hold:∀b,b<w.heap.size->(w.alloc (.cells vs ty)).heap[b]? = w.heap[b]?:=fun b O=>Below.heap_alloc w _ b O;have O:=(Below.refl w.heap.size w).alloc (VG _) (.cells vs ty);refine U.Ng (h1:=h) (old:=none) O.os O.tape O.output O.size (fun k hk _=>hold k hk) (fun y Z=>by cases Z) rfl hV ?_;exact⟨.inl (VG _),vs,heap_alloc_new w _,by simpa using X,fun j x hj=>by simpa using Y j x hj⟩
theorem Inv.drop (hI:Inv N M L w0 blk V t h a w) (y:Nat):Inv N M L w0 blk V t (bj h y none) a w:=by
 have O:∀x r,bj h y none x=some r->h x=some r:=by
  intro x r U
  by_cases Z:x=y
  ·subst Z;rw[aj]at U;cases U
  ·rwa [al _ _ Z]at U
 have ho:∀b,¬Own M h blk b->¬Own M (bj h y none) blk b:=by
  intro b hb Y;rcases Y with Y|⟨x,r,g,U,hz,X,he⟩
  ·exact hb (.inl Y)
  ·exact hb (.inr ⟨x,r,g,O x r U,hz,X,he⟩)
 exact {
  tab:=hI.tab.keep fun b h1 h2=>⟨h1,ho b h2,rfl⟩
  below:=hI.below
  mlt:=hI.mlt
  lent:=hI.lent
  pin:=fun go X=>⟨(hI.pin go X).1,fun r hr hv=>(hI.pin go X).2 r (O 0 r hr) hv⟩
  defers:=hI.defers
  tsz:=hI.tsz
  slots:=fun i=>(hI.slots i).mono ⟨fun b h1 h2=>⟨h1,ho b h2,rfl⟩,fun _ _ h=>h,fun x v _ r' h1 h2=>⟨⟨r',O x r' h1,h2⟩,rfl,fun _ _=>rfl⟩⟩
  rows:=fun x r U=>⟨(hI.rows x r (O x r U)).1,(hI.rows x r (O x r U)).2.keep (fun _ _=>rfl) (fun b k1 k2=>⟨k1,ho b k2,rfl⟩)⟩
  inj:=fun x y r s g g' U hy X aa he=>hI.inj x y r s g g' (O x r U) (O y s hy) X aa he
  big:=hI.big
  pha:=fun z r g hy hm X j x s n hc=>by
   obtain⟨h0,u,k1,k2⟩:=hI.pha z r g (O z r hy) hm X j x s n hc;exact⟨h0,u,k1,k2.mono fun r' g1=>⟨⟨r',O x r' g1⟩,rfl,fun _ _=>rfl⟩⟩
  ali:=fun z r g hy hz hl X j c d' hj ab=>by
   obtain⟨u,h1,h2⟩:=hI.ali z r g (O z r hy) hz hl X j c d' hj ab;exact⟨u,h1,h2.mono ⟨fun b h1 h2=>⟨h1,ho b h2,rfl⟩,fun _ _ h=>h,fun x v _ r' h1 h2=>⟨⟨r',O x r' h1,h2⟩,rfl,fun _ _=>rfl⟩⟩⟩ }
theorem Inv.gY (Y:Inv N M L w0 blk V t h a w) {x:Nat} {r:Row} (hx:h x=some r) (hz:r.fz=false) {r0:Row} {w':World} (ai:r0.v=r.v)
  (ar:w'.os=w.os) (ab:w'.tape=w.tape) (ak:w'.output=w.output) (ad:w.heap.size<=w'.heap.size) (hheap:∀b,b<w.heap.size->(∀g,blk x=some g->b≠g.1)->w'.heap[b]? = w.heap[b]?)
  (Z:match blk x with
   | some g=>w'.shape? g.1=w.shape? g.1∧cr w' (Own M h blk) g r0
   | none=>r0.cells=[])
  (au:r0.fz=true->r0.lst=false->∀g,blk x=some g->∀j c d,r0.cells[j]? = some c->Un c=some d->∃u,w'.cell? ⟨g.1,g.2+j,none⟩=some u∧RT w (Own M h blk) h blk V d u) (hph:r0.mp=true->∀g,blk x=some g->∀j x' s n:Nat,r0.cells[j]? = some (D.ph x' s n)->HZ x j x'∧∃u,w'.cell? ⟨g.1,g.2+j,none⟩=some u∧Ra w h blk x' s n u:=by (intro h;cases h)) :
  Inv N M L w0 blk V t (bj h x (some r0)) a w':=by
 have hf:∀y s,bj h x (some r0) y=some s->∃s',h y=some s'∧s.v=s'.v∧(s.fz=false->s'.fz=false):=by
  intro y s O
  by_cases hyx:y=x
  ·subst hyx;rw[aj]at O;simp only[VP]at O;subst O;exact⟨r,hx,ai,fun _=>hz⟩
  ·rw[al _ _ hyx]at O;exact⟨s,O,rfl,id⟩
 have ho:∀b,¬Own M h blk b->¬Own M (bj h x (some r0)) blk b:=by
  intro b hb ae;rcases ae with ae|⟨y,s,g',O,ah,U,he⟩
  ·exact hb (.inl ae)
  ·obtain⟨s',h1,_,h3⟩:=hf y s O;exact hb (.inr ⟨y,s',g',h1,h3 ah,U,he⟩)
 have aa:∀b,b<w.heap.size->¬Own M h blk b->w'.heap[b]? = w.heap[b]?:=fun b h1 h2=>hheap b h1 (fun g X e=>h2 (.inr ⟨x,r,g,hx,hz,X,e.symm⟩));have hk:∀b,b<w.heap.size->¬Own M h blk b->b<w'.heap.size∧¬Own M (bj h x (some r0)) blk b∧w'.heap[b]? = w.heap[b]? :=
  fun b h1 h2=>⟨by omega,ho b h2,aa b h1 h2⟩
 have hother:∀y s g',y≠x->h y=some s->blk y=some g'->w'.heap[g'.1]? = w.heap[g'.1]?:=fun y s g' hyx O U=>hheap _ (Y.lt O U) (fun g X e=>hyx (Y.inj y x s r g' g O hx U X e));have hsame:∀y s g',h y=some s->blk y=some g'->w'.shape? g'.1=w.shape? g'.1:=by
  intro y s g' O U
  by_cases hyx:y=x
  ·subst hyx;rw[U]at Z;exact Z.1
  ·exact bz (hother y s g' hyx O U)
 exact {
  tab:=Y.tab.keep hk
  below:=Y.below.trans (L':=fun k=>∃g,blk x=some g∧k=g.1) ⟨ar,ab,ak,ad,fun k hk hn=>hheap k hk (fun g X e=>hn ⟨g,X,e⟩)⟩ (fun k ⟨g,X,he⟩ ax=>by
   rcases Y.base hx X with hb|hb
   ·omega
   ·rw[he];exact hb)
  mlt:=Y.mlt
  lent:=Y.lent
  pin:=fun go X=>⟨(Y.pin go X).1,fun s hs hv=>by
   obtain⟨s',g1,g2,_⟩:=hf 0 s hs;obtain⟨k1,k2⟩:=(Y.pin go X).2 s' g1 (by omega);exact⟨k1,fun g an=>(hsame 0 s' g g1 (k1.trans an)).trans (k2 g an)⟩⟩
  defers:=Y.defers
  tsz:=Y.tsz
  slots:=fun i=>(Y.slots i).mono ⟨hk,fun _ _ h=>h,fun y v _ s h1 h2=>by
   obtain⟨s',g1,g2,_⟩:=hf y s h1;exact⟨⟨s',g1,by omega⟩,rfl,fun g' U=>hsame y s' g' g1 U⟩⟩
  rows:=fun y s O=>by
   by_cases hyx:y=x
   ·subst hyx;rw[aj]at O;simp only[VP]at O;subst O;refine⟨fun hn=>by rw[ai];exact (Y.rows y r hx).1 hn,?_⟩;cases X:blk y with
    | none=>rw[X]at Z;exact Z
    | some g =>
     rw[X]at Z;exact⟨Y.base hx X,Z.2.keep rfl rfl rfl rfl fun b q1 q2=>⟨q1,ho b q2,rfl⟩⟩
   ·rw[al _ _ hyx]at O;exact⟨(Y.rows y s O).1,(Y.rows y s O).2.keep (fun g' U=>hother y s g' hyx O U) hk⟩
  inj:=fun y z s s' g1 g2 O ah av aw he=>by
   obtain⟨r1,k1,_⟩:=hf y s O;obtain⟨r2,k2,_⟩:=hf z s' ah;exact Y.inj y z r1 r2 g1 g2 k1 k2 av aw he
  big:=Y.big
  pha:=fun y r1 g O hm X j x' s n hc=>by
   by_cases hyx:y=x
   ·subst hyx;rw[aj]at O;simp only[VP]at O;subst O;obtain⟨h0,u,k1,k2⟩:=hph hm g X j x' s n hc;exact⟨h0,u,k1,k2.mono fun r' g1=>by
     obtain⟨s',q1,_⟩:=hf x' r' g1;exact⟨⟨s',q1⟩,rfl,fun g' U=>hsame x' s' g' q1 U⟩⟩
   ·rw[al _ _ hyx]at O;obtain⟨h0,u,k1,k2⟩:=Y.pha y r1 g O hm X j x' s n hc;exact⟨h0,u,(VB (a:=⟨g.1,g.2+j,none⟩) (hother y r1 g hyx O X)).trans k1,k2.mono fun r' g1=>by
     obtain⟨s',q1,_⟩:=hf x' r' g1;exact⟨⟨s',q1⟩,rfl,fun g' U=>hsame x' s' g' q1 U⟩⟩
  ali:=fun y r1 g O ao hl X j c d' hj aq=>by
   have hm:∀ {u:Value},RT w (Own M h blk) h blk V d' u->RT w' (Own M (bj h x (some r0)) blk) (bj h x (some r0)) blk V d' u:=fun h2=>h2.mono ⟨hk,fun _ _ h=>h,fun y v _ s h1 h2=>by
    obtain⟨s',g1,g2,_⟩:=hf y s h1;exact⟨⟨s',g1,by omega⟩,rfl,fun g' U=>hsame y s' g' g1 U⟩⟩
   by_cases hyx:y=x
   ·subst hyx;rw[aj]at O;simp only[VP]at O;subst O;obtain⟨u,h1,h2⟩:=au ao hl g X j c d' hj aq;exact⟨u,h1,hm h2⟩
   ·rw[al _ _ hyx]at O;obtain⟨u,h1,h2⟩:=Y.ali y r1 g O ao hl X j c d' hj aq;exact⟨u,(VB (a:=⟨g.1,g.2+j,none⟩) (hother y r1 g hyx O X)).trans h1,hm h2⟩ }
theorem Inv.rewrite (hI:Inv N M L w0 blk V t h a w) {x:Nat} {r:Row} (hx:h x=some r) (hz:r.fz=false) {cs:List D} {lst fz:Bool} {w':World}
  (aa:w'.os=w.os) (U:w'.tape=w.tape) (Z:w'.output=w.output) (X:w.heap.size<=w'.heap.size) (Y:∀b,b<w.heap.size->(∀g,blk x=some g->b≠g.1)->w'.heap[b]? = w.heap[b]?)
  (O:match blk x with
   | some g=>w'.shape? g.1=w.shape? g.1∧∃vs:Array Value,w'.heap[g.1]? = some (.cells vs r.ty (0,0))∧g.2+cs.length<=vs.size∧∀j d,cs[j]? = some d->aF d=true∧RP w' (Own M h blk) d (vs.getD (g.2+j) undef)
   | none=>cs=[])
  (ab:fz=true->lst=false->∀g,blk x=some g->∀j c d,cs[j]? = some c->Un c=some d->∃u,w'.cell? ⟨g.1,g.2+j,none⟩=some u∧RT w (Own M h blk) h blk V d u) :
  Inv N M L w0 blk V t (bj h x (some ⟨r.v,r.ty,cs,fz,lst,false⟩)) a w':=by
 refine hI.gY (r0:=⟨r.v,r.ty,cs,fz,lst,false⟩) hx hz rfl aa U Z X Y ?_ ab;cases hg:blk x with
 | none=>rw[hg]at O;exact O
 | some g=>rw[hg]at O;exact O
theorem Inv.write (hI:Inv N M L w0 blk V t h a w) {x:Nat} {r:Row} {g:Nat×Nat} (hx:h x=some r) (Y:r.fz=false) (Z:blk x=some g) (aa:r.mp=false) {cs:List D} {vs X:Array Value} (h0:w.heap[g.1]? = some (.cells X r.ty (0,0))) (ab:vs.size=X.size)
  (hl:g.2+cs.length<=vs.size) (hc:∀j d,cs[j]? = some d->aF d=true∧RP w (Own M h blk) d (vs.getD (g.2+j) undef)) :
  Inv N M L w0 blk V t (bj h x (some { r with cells:=cs })) a (w.setRow g.1 vs):=by
 have hheap:∀b,b≠g.1->(w.setRow g.1 vs).heap[b]? = w.heap[b]?:=by
  intro b hb;simp only[World.setRow,VQ];rw[if_neg (Ne.symm hb)]
 have O:(w.setRow g.1 vs).heap.size=w.heap.size:=by simp[World.setRow]
 have U:(w.setRow g.1 vs).heap[g.1]? = some (.cells vs r.ty (0,0)):=setRow_heap w g.1 X vs r.ty (0,0) h0;have e0:({ r with cells:=cs } : Row)=⟨r.v,r.ty,cs,r.fz,r.lst,false⟩:=by rw[<- aa]
 rw[e0];refine hI.rewrite (fz:=r.fz) (lst:=r.lst) hx Y rfl rfl rfl (by rw[O];exact VG _) (fun b _ hb=>hheap b (hb g Z)) ?_ (fun h=>by rw[Y]at h;cases h);rw[Z];exact⟨by simp[World.shape?,U,h0,ab],vs,U,hl,fun j d hj=>⟨(hc j d hj).1,(hc j d hj).2.keep fun b q1 q2=>⟨by rw[O];exact q1,q2,hheap b (fun e=>q2 (.inr ⟨x,r,g,hx,Y,Z,e.symm⟩))⟩⟩⟩
end
structure rN (w:World) (M:Nat->Prop) (args:List D) (vs:Array Value):Prop where
 size:vs.size=args.length
 at_:∀j d,args[j]? = some d->RP w M d (vs.getD j undef)
 tab:LP w M
def qV (w w':World) (M:Nat->Prop) (old:Nat->Prop) (v:Value):RK->Prop
 | .clean d=>RP w' M d v
 | .fresh ty s n cells =>
  (∃(g:Nat×Nat) (c:Nat) (cs:Array Value),v=.slice (some ⟨g.1,g.2,none⟩) n c∧(w.heap.size<=g.1∨old g.1)∧w'.heap[g.1]? = some (.cells cs ty (0,0))∧n<=c∧c<=maxLen∧c*s+g.2=cs.size∧g.2+cells.length<=cs.size ∧
   ∀(j:Nat) d,cells[j]? = some d->aF d=true∧RP w' (fun b=>M b∨b=g.1) d (cs.getD (g.2+j) undef))∨(n=0∧cells=[]∧∃A,v=.slice A 0 0)
 | .same _ _ _=>False
def ou (go:Option (Nat×Nat)) (b:Nat):Prop:=∃g,go=some g∧b=g.1
def Jv (w:World) (M:Nat->Prop) (go:Option (Nat×Nat)) (r:Row):Prop :=
 match go with
 | some g=>cr w M g r
 | none=>r.cells=[]
def tX (w:World) (go:Option (Nat×Nat)) (d:D) (u:Value):Prop:=RT w (fun _=>False) (fun x=>if x=0 then some ⟨0,0,[],false,false,false⟩ else none) (fun _=>go) (fun _ _=>True) d u
def Q9 (w w':World) (M:Nat->Prop) (go:Option (Nat×Nat)) (r:Row):Option Row->Prop
 | some r1=>r1.ty=r.ty∧r1.fz=false∧(r1.mp=r.mp∧mL r1=true)∧(∀g,go=some g->w'.shape? g.1=w.shape? g.1)∧Jv w' (fun b=>M b∨ou go b) go r1
 | none=>True
def Rb (w w':World) (M:Nat->Prop) (go:Option (Nat×Nat)) (v:Value):RK->Prop
 | .same s o n=>tX w' go (.buf 0 0 s o n) v
 | .clean d=>RP w' (fun b=>M b∨ou go b) d v
 | .fresh ty s n cells=>qV w w' M (ou go) v (.fresh ty s n cells)
def mc (P:Program) (f:FuncId) (lent:Option (D×Row)) (args:List D) (rk:RK) (out:Option Row):Prop :=
 match lent with
 | none=>∀(w:World) (M:Nat->Prop) (vs:Array Value),(∀b,M b->b<w.heap.size)->rN w M args vs->Calls P f vs w fun e w'=>∃v,e=.returned v∧Below w.heap.size w w'∧qV w w' M (fun _=>False) v rk
 | some (d0,r)=>∀(w:World) (M:Nat->Prop) (go:Option (Nat×Nat)) (O:Value) (vs:Array Value),(∀b,M b->b<w.heap.size)->(∀b,ou go b->¬M b)->r.fz=false->mL r=true->Jv w (fun b=>M b∨ou go b) go r->tX w go d0 O->rN w (fun b=>M b∨ou go b) args vs ->
  Calls P f (#[O]++vs) w fun e w'=>∃v,e=.returned v∧cC (ou go) w w'∧Q9 w w' M go r out∧Rb w w' M go v rk
def HX (P:Program) (f:FuncId) (args:List D) (r:D):Prop:=mc P f none args (.clean r) none
def cu (P:Program) (f:FuncId):Prop:=∃fn,P.funcs[f]? = some fn∧(fn.name == "runtime.NumGoroutine")=false∧fn.body.isNone=false
def M8 (w:World) (ty k:Nat) (go:Option (Nat×Nat)) (u:Value) (n:Nat) (cs:List Value):Prop :=
 (∃g c arr,go=some g∧u=.slice (some ⟨g.1,g.2,none⟩) n c∧w.heap[g.1]? = some (.cells arr ty (0,0))∧c*k+g.2=arr.size∧n<=c∧c<=maxLen∧∀(j:Nat) x,cs[j]? = some x->arr[g.2+j]? = some x)∨(go=none∧n=0∧cs=[]∧∃A,u=.slice A 0 0)
structure R4 (P:Program) (f:FuncId) (p:Nat×Nat×Nat):Prop where
 callable:cu P f
 pos:0<p.2.1
 calls:∀(w:World) (go go':Option (Nat×Nat)) (u u':Value) (i n m:Nat) (cs cs':List Value),M8 w p.1 p.2.1 go u n cs->M8 w p.1 p.2.1 go' u' m cs'->(∀g g',go=some g->go'=some g'->g.1≠g'.1) ->
  cs.length=n*p.2.1->cs'.length=m*p.2.1->(∀x∈cs,x.oneCell'=true)->(∀x∈cs',x.oneCell'=true)->i<=n->0<m->(n+m)*p.2.2<=140737488355328 ->
  Calls P f #[u,.int .i64 i,u'] w fun e w'=>∃v,e=.returned v∧cC (ou go) w w' ∧
   ∃(g:Nat×Nat) (c:Nat) (arr:Array Value),v=.slice (some ⟨g.1,g.2,none⟩) (n+m) c∧(w.heap.size<=g.1∨ou go g.1)∧w'.heap[g.1]? = some (.cells arr p.1 (0,0))∧n+m<=c∧c<=maxLen∧c*p.2.1+g.2=arr.size ∧
    ∀(j:Nat) x,(cs.take (i*p.2.1)++(cs'++cs.drop (i*p.2.1)))[j]? = some x->arr[g.2+j]? = some x
def DB:D->Value
 | .int k n =>.int k n
 | .bool b =>.bool b
 | .str s =>.string s
 | _=>undef
def uI:D->Bool
 | .int _ _ | .bool _ | .str _=>true
 | _=>false
def Q1:D->Value
 | .agg xs =>.agg (xs.map DB).toArray
 | d=>DB d
def Rp:D->Bool
 | .agg xs=>xs.all uI
 | d=>uI d
theorem A0 {w:World} {M:Nat->Prop} {d:D} {u:Value} (O:uI d=true) (h:RP w M d u):u=DB d:=by
 cases h<;>first|rfl|cases O
theorem Ot {w:World} {M:Nat->Prop} {d:D} (O:uI d=true):aF d=true∧RP w M d (DB d):=by
 cases d with
 | int k n=>exact⟨rfl,.int k n⟩
 | bool b=>exact⟨rfl,.bool b⟩
 | str s=>exact⟨rfl,.str s⟩
 | _=>cases O
theorem Ma {w:World} {M:Nat->Prop} {d:D} {u:Value} (U:Rp d=true) (h:RP w M d u):u=Q1 d:=by
 cases h with
 | agg xs us h1 h2 h3 =>
  simp only[Q1];congr 2;apply List.ext_getElem
  ·simpa using h1
  ·intro i Y Z;have X:i<xs.length:=by omega
   have O:uI xs[i]=true:=VR.1 U _ (VS X);have:=A0 O (h2 i _ (VT X));rw[List.getElem_map,<- this];simp[List.getD,Y]
 | _=>first|rfl|cases U
structure MZ (P:Program) (f:FuncId) (p:Grow):Prop where
 callable:cu P f
 pos:0<p.k
 flat:∀ds VA cs,p.sem ds VA=some cs->(∀d∈ds,uI d=true)∧(∀d∈VA,Rp d=true)∧(∀d∈cs,uI d=true)∧cs.length=p.k
 calls:∀(w:World) (gy:Nat×Nat) (ya:Array Value) (ty:Nat) (go:Option (Nat×Nat)) (u:Value) (n:Nat) (ds VA cs:List D),w.heap[gy.1]? = some (.cells ya ty (0,0))->ya[gy.2]? = some u->M8 w p.ty p.k go u n (ds.map DB) ->
  (∀g,go=some g->g.1≠gy.1)->ds.length=n*p.k->p.sem ds VA=some cs->(n+1)*p.bytes<=140737488355328 ->
  Calls P f (#[.pointer (some ⟨gy.1,gy.2,none⟩)]++(VA.map Q1).toArray) w fun e w'=>e=.returned (.int .i64 (n:Int))∧cC (fun b=>b=gy.1∨ou go b) w w' ∧
   ∃(g:Nat×Nat) (c:Nat) (arr:Array Value),(w.heap.size<=g.1∨ou go g.1)∧w'.heap[gy.1]? = some (.cells (ya.setIfInBounds gy.2 (.slice (some ⟨g.1,g.2,none⟩) (n+1) c)) ty (0,0))∧w'.heap[g.1]? = some (.cells arr p.ty (0,0)) ∧
    n+1<=c∧c<=maxLen∧c*p.k+g.2=arr.size∧∀(j:Nat) x,((ds++cs).map DB)[j]? = some x->arr[g.2+j]? = some x
structure zH (w:World) (Q:Nat->Prop) (blk:Nat->Option (Nat×Nat)) (h:Nat->Option Row):Prop where
 rows:∀x r,h x=some r->match blk x with|some g=>cr w Q g r|none=>r.cells=[]
 inj:∀x y r s g g',h x=some r->h y=some s->blk x=some g->blk y=some g'->g.1=g'.1->x=y
 pha:∀y r g,h y=some r->r.mp=true->blk y=some g->∀j x s n:Nat,r.cells[j]? = some (D.ph x s n)->HZ y j x∧∃u,w.cell? ⟨g.1,g.2+j,none⟩=some u∧Ra w h blk x s n u
def fF (ty t s nv:Nat) (cs:List D):Row:=⟨0,ty,[.nr t s nv cs],false,true,true⟩
def j3 (r:Row) (x:Nat):Option Row:=if x=0 then some r else none
def pQ (blk:Nat->Option (Nat×Nat)) (h:Nat->Option Row) (b:Nat):Prop:=∃x r g,h x=some r∧blk x=some g∧g.1=b
def Cv (P:Program) (f:FuncId) (ty t s o:Nat) (cs args:List D) (d:D) (cs':List D):Prop :=
 ∀(w:World) (M:Nat->Prop) (blk:Nat->Option (Nat×Nat)) (h h':Nat->Option Row) (g0:Nat×Nat) (vs:Array Value),h=EH (j3 (fF ty t s 0 cs))->h'=EH (j3 (fF ty t s 0 cs')) ->
  (∀b,M b->b<w.heap.size)->(∀b,pQ blk h b->¬M b)->blk 0=some g0->zH w (fun b=>M b∨pQ blk h b) blk h->rN w (fun b=>M b∨pQ blk h b) args vs ->
  Calls P f (#[.pointer (some ⟨g0.1,g0.2+o,none⟩)]++vs) w fun e w'=>∃v blk',e=.returned v∧cC (pQ blk h) w w'∧blk' 0=some g0∧w'.shape? g0.1=w.shape? g0.1∧(∀b,pQ blk' h' b->w.heap.size<=b∨pQ blk h b)∧zH w' (fun b=>M b∨pQ blk' h' b) blk' h'∧RP w' (fun b=>M b∨pQ blk' h' b) d v
def Cu (P:Program) (f:FuncId) (args:List D) (ty t s S n:Nat) (cs:List D):Prop :=
 ∀(w:World) (M:Nat->Prop) (h:Nat->Option Row) (vs:Array Value),h=EH (j3 (fF ty t s 0 cs))->(∀b,M b->b<w.heap.size)->rN w M args vs ->
  Calls P f vs w fun e w'=>∃v blk,e=.returned v∧Below w.heap.size w w'∧(∀b,pQ blk h b->w.heap.size<=b)∧zH w' (fun b=>M b∨pQ blk h b) blk h∧tX w' (blk 0) (.buf 0 0 S 0 n) v
structure bt (P:Program) (Γ:Env):Prop where
 calls:∀f lent args rk out,Γ.sem f lent args=some (rk,out)->mc P f lent args rk out∧cu P f
 ins:∀f p,Γ.ins f=some p->R4 P f p
 grw:∀f p,Γ.grw f=some p->MZ P f p
 lnd:∀f p,Γ.nx.lnd f=some p->cu P f∧∀ty t s o cs args d cs',p.2 ty t s o cs args=some (d,cs')->Cv P f ty t s o cs args d cs'
 res:∀f p,Γ.nx.res f=some p->cu P f∧∀args ty t s S n cs,p args=some (ty,t,s,S,n,cs)->Cu P f args ty t s S n cs
theorem fW.get {P:Program} {t:Nat} {τ:Ty} (h:fW P t τ):∃d i z,P.underlying t=some d∧conv d=τ.ds∧P.info? t=some i∧i.size=τ.size∧i.bytes=τ.bytes∧i.zero=some z∧z.cells=τ.zero.toArray:=by
 have h1:=h.desc;have h2:=h.info;cases U:P.underlying t with
 | none=>simp[U]at h1
 | some d =>
  cases X:P.info? t with
  | none=>simp[X]at h2
  | some i =>
   simp only[U,Option.map_some,VP]at h1;simp only[X,Option.map_some,VP,Prod.mk.injEq]at h2;cases O:i.zero with
   | none=>simp[O]at h2
   | some z =>
    simp only[O,Option.map_some,VP]at h2;exact⟨d,i,z,rfl,h1,rfl,h2.1,h2.2.1,O,by rw[<- h2.2.2]⟩
def db (P:Program) (o:Oper) (a:Act) (w:World) (Φ:Value->World->Prop):Prop :=
 (∃v w',(execOp a.eval o).run P w=.ok (.value v) w'∧Φ v w')∨(∃w',(execOp a.eval o).run P w=.ok .skip w'∧Φ undef w') ∨
 (∃f args,(execOp a.eval o).run P w=.ok (.enter f args) w∧Calls P f args w (fun e w'=>∃v,e=.returned v∧Φ v w'))
theorem db.mono {P:Program} {o:Oper} {a:Act} {w:World} {Φ Ψ:Value->World->Prop} (h:db P o a w Φ) (hm:∀v w',Φ v w'->Ψ v w'):db P o a w Ψ:=by
 rcases h with⟨v,w',h1,h2⟩|⟨w',h1,h2⟩|⟨f,args,h1,h2⟩
 ·exact .inl ⟨v,w',h1,hm _ _ h2⟩
 ·exact .inr (.inl ⟨w',h1,hm _ _ h2⟩)
 ·exact .inr (.inr ⟨f,args,h1,h2.mono fun e w' ⟨v,h3,h4⟩=>⟨v,h3,hm _ _ h4⟩⟩)
theorem db.wp {P:Program} {o:Oper} {a:Act} {w:World} {Φ:Value->World->Prop} {K:Act->World->Prop} {Q:Exit->Act->World->Prop} (h:db P o a w Φ) (X:∀v w',Φ v w'->K (a.put o.dst v) w'):o.wp P a w K Q:=by
 unfold Oper.wp;rcases h with⟨v,w',O,U⟩|⟨w',O,U⟩|⟨f,args,O,U⟩
 ·rw[O];exact X v w' U
 ·rw[O];exact X undef w' U
 ·rw[O];refine U.mono fun e w' ⟨v,he,Y⟩ =>?_;subst he;exact X v w' Y
section
variable {N:Nat} {M:Nat->Prop} {L:fV} {w0:World} {blk:Nat->Option (Nat×Nat)} {V:Nat->Nat->Prop} {t:Nat->D} {h:Nat->Option Row} {a:Act} {w:World}
structure ki (M:Nat->Prop) (h:Nat->Option Row) (blk:Nat->Option (Nat×Nat)) (fr:List Nat) (M':Nat->Prop):Prop where
 le:∀b,M' b->Own M h blk b
 no:∀x,x∈fr->∀r g,h x=some r->blk x=some g->¬M' g.1
theorem ki.left {fr O:List Nat} {M':Nat->Prop} (hl:ki M h blk (fr++O) M'):ki M h blk fr M':=⟨hl.le,fun x U=>hl.no x (VU _ U)⟩
theorem ki.right {fr O:List Nat} {M':Nat->Prop} (hl:ki M h blk (fr++O) M'):ki M h blk O M':=⟨hl.le,fun x U=>hl.no x (VV _ U)⟩
theorem Inv.dB (hI:Inv N M L w0 blk V t h a w) (fr:List Nat):ki M h blk fr (Own M (ay h (fB h fr)) blk) where
 le b U:=by
  rcases U with U|⟨x,r',g,O,X,hg,rfl⟩
  ·exact .inl U
  ·rw[xr]at O;split at O
   ·cases Z:h x with
    | none=>simp[Z]at O
    | some r=>simp only[Z,Option.map_some,VP]at O;subst O;rw[CZ]at X;cases X
   ·exact .inr ⟨x,r',g,O,X,hg,rfl⟩
 no x O r g Z hg U:=by
  rcases U with U|⟨y,r',g',Y,X,ab,he⟩
  ·exact hI.notM Z hg U
  ·rw[xr]at Y;split at Y
   ·cases aa:h y with
    | none=>simp[aa]at Y
    | some ae=>simp only[aa,Option.map_some,VP]at Y;subst Y;rw[CZ]at X;cases X
   ·rename_i ad;have:y=x:=hI.inj y x r' r g' g Y Z ab hg he;subst this;exact ad O
theorem Inv.Bh (Z:Inv N M L w0 blk V t h a w) (fr:List Nat):ki M h blk fr (fun b=>Own M h blk b∧∀x,x∈fr->∀r g,h x=some r->blk x=some g->g.1≠b) where
 le b O:=O.1
 no x U r g X Y O:=O.2 x U r g X Y rfl
theorem lu {x v:Nat} {r:Row} (O:jX h x v=some r):h x=some r∧r.v=v:=by
 unfold jX at O;split at O
 ·split at O
  ·simp only[VP]at O;subst O;exact⟨by assumption,by assumption⟩
  ·cases O
 ·cases O
theorem bg {x v:Nat} {r:Row} (O:live h x v=some r):h x=some r∧r.v=v:=by
 unfold live at O;split at O
 ·split at O
  ·rename_i U;simp only[VP]at O;subst O;exact⟨by assumption,U.1⟩
  ·cases O
 ·cases O
theorem eG {x v:Nat} {r:Row} (O:live h x v=some r):r.mp=false:=by
 unfold live at O;split at O
 ·split at O
  ·rename_i U;simp only[VP]at O;subst O;exact U.2
  ·cases O
 ·cases O
theorem uQ {x v:Nat} {r:Row} (O:rv h x v=some r):h x=some r∧r.v=v∧r.mp=true∧mL r=true:=by
 unfold rv at O;split at O
 ·rename_i r' U;split at O
  ·rename_i X;simp only[VP]at O;subst O;exact⟨U,X⟩
  ·cases O
 ·cases O
theorem nB {r:Row} (h:r.mp=false):mL r=true:=by unfold mL;rw[h]
theorem sD {r:Row} (h:mL r=true) (hm:r.mp=true):∃ks vs,r.cells=[.mpc ks vs]:=by
 unfold mL at h;split at h
 ·rename_i ks vs _ U;exact⟨ks,vs,U⟩
 ·cases h
 ·rename_i O;rw[hm]at O;cases O
theorem xR {x v:Nat} {ks:List bC} {vs:List D} (O:fi h x v=some (ks,vs)):∃r,h x=some r∧r.v=v∧r.mp=true∧r.cells=[.mpc ks vs]∧r.ty<900000:=by
 unfold fi at O;split at O
 ·rename_i r Y;split at O
  ·rename_i U;split at O
   ·rename_i X;simp only[VP,Prod.mk.injEq]at O;obtain⟨rfl,rfl⟩:=O;exact⟨r,Y,U.1,U.2.1,X,U.2.2⟩
   ·cases O
  ·cases O
 ·cases O
theorem bx {α:Type} (l:List α) (o n j:Nat):((l.drop o).take n)[j]? = if j<n then l[o+j]? else none:=by
 rw[VW];split
 ·rw[VX]
 ·rfl
theorem Inv.rS (U:Inv N M L w0 blk V t h a w) {x v s o n:Nat} {r:Row} {u:Value} (X:live h x v=some r) (Y:RT w (Own M h blk) h blk V (.buf x v s o n) u) :
  (∃(g:Nat×Nat) (o' c:Nat) (cs:Array Value),blk x=some g∧u=.slice (some ⟨g.1,o',none⟩) n c∧n<=c∧c<=maxLen∧w.heap[g.1]? = some (.cells cs r.ty (0,0))∧(0<c∨o=0->o'=g.2+o∧c*s+o'=cs.size) ∧
   g.2+r.cells.length<=cs.size∧∀j d,r.cells[j]? = some d->aF d=true∧RP w (Own M h blk) d (cs.getD (g.2+j) undef))∨(blk x=none∧n=0∧r.cells=[]∧∃A,u=.slice A 0 0):=by
 obtain⟨O,Z⟩:=bg X;rcases Y.2 r O Z with⟨g,o',c,N',t',g0,g1,g2,g3,g4,g5⟩|⟨g0,g1,A,g2⟩
 ·obtain⟨cs,h3,h4,h5⟩:=U.xQ O g0 (eG X);have:(r.ty,cs.size)=(t',N'):=by simpa [World.shape?,h3] using g5
  simp only[Prod.mk.injEq]at this;exact .inl ⟨g,o',c,cs,g0,g1,g3,g4,h3,fun h0=>by obtain⟨k1,k2⟩:=g2 h0;exact⟨k1,by rw[k2,this.2]⟩,h4,h5⟩
 ·have:=(U.rows x r O).2;rw[g0]at this;exact .inr ⟨g0,g1,this,A,g2⟩
theorem aL {w:World} {g:Nat} {cs:Array Value} {ty:Nat} (O:w.heap[g]? = some (.cells cs ty (0,0))) {j:Nat} (U:j<cs.size):w.cell? ⟨g,j,none⟩=some (cs.getD j undef):=by
 simp[World.cell?,O,U]
theorem Inv.b9 (hI:Inv N M L w0 blk V t h a w) {d d':D} {fr:List Nat} {u:Value} {M':Nat->Prop} (O:b9 h d=some (d',fr)) (hl:ki M h blk fr M') (Y:RT w (Own M h blk) h blk V d u):RP w M' d' u∧aF d'=true:=by
 have hk:∀b,b<w.heap.size->¬Own M h blk b->b<w.heap.size∧¬M' b∧w.heap[b]? = w.heap[b]?:=fun b h1 h2=>⟨h1,fun hb=>h2 (hl.le b hb),rfl⟩;cases d with
 | int k n=>simp only[Am.b9,VP,Prod.mk.injEq]at O;obtain⟨rfl,rfl⟩:=O;exact⟨RP.keep hk Y,rfl⟩
 | bool b=>simp only[Am.b9,VP,Prod.mk.injEq]at O;obtain⟨rfl,rfl⟩:=O;exact⟨RP.keep hk Y,rfl⟩
 | str s=>simp only[Am.b9,VP,Prod.mk.injEq]at O;obtain⟨rfl,rfl⟩:=O;exact⟨RP.keep hk Y,rfl⟩
 | sl x y n xs=>simp only[Am.b9,VP,Prod.mk.injEq]at O;obtain⟨rfl,rfl⟩:=O;exact⟨RP.keep hk Y,rfl⟩
 | buf x v s o n =>
  simp only[Am.b9]at O;split at O
  ·rename_i r X;split at O
   ·rename_i hle;simp only[VP,Prod.mk.injEq]at O;obtain⟨rfl,rfl⟩:=O;rcases hI.rS X Y with⟨g,o',c,cs,g0,g1,g2,g3,g4,g5,g7,g8⟩|⟨g0,g1,g2,A,g3⟩
    ·subst g1;refine⟨.sl (some ⟨g.1,o',none⟩) c false false n _ (fun j=>cs.getD (g.2+(o+j)) undef) g2 g3 (fun h=>by cases h) (fun h=>by cases h) (fun h=>by cases h) (fun aa =>?_) (fun j y U =>?_) (fun y hy =>?_),rfl⟩
     ·have hn:0<n:=by
       rcases VY n with h0|h0
       ·subst h0;simp at aa
       ·exact h0
      have ho:=(g5 (.inl (by omega))).1;subst ho;refine⟨g.1,g.2+o,rfl,hI.lt (bg X).1 g0,hl.no x (by simp) r g (bg X).1 g0,fun j U =>?_⟩;simp only[VZ,V0]at U;rw[V1];exact aL g4 (by omega)
     ·rw[bx]at U;split at U
      ·exact (g8 _ _ U).2.keep hk
      ·cases U
     ·obtain⟨j,U⟩:=V2 hy;rw[bx]at U;split at U
      ·exact (g8 _ _ U).1
      ·cases U
    ·subst g1 g3;have Z:List.take (0*s) (List.drop o r.cells)=[]:=by simp
     rw[Z];exact⟨.sl A 0 false false 0 [] (fun _=>undef) (VG _) (VH _) (fun h=>by cases h) (fun _=>⟨rfl,rfl⟩) (fun h=>by cases h) (fun h=>absurd rfl h) (fun j y U=>by simp at U) (fun y hy=>by simp at hy),rfl⟩
   ·cases O
  ·cases O
 | _=>simp[Am.b9]at O
theorem pW {h:Nat->Option Row} {d:D} (O:∀xs,d ≠ .agg xs):Am.kS h d=Am.b9 h d:=by
 cases d<;>first|rfl|exact absurd rfl (O _)
theorem Inv.kS (hI:Inv N M L w0 blk V t h a w) {d X:D} {fr:List Nat} {u:Value} {M':Nat->Prop} (O:kS h d=some (X,fr)) (Y:ki M h blk fr M') (Z:RT w (Own M h blk) h blk V d u):RP w M' X u:=by
 by_cases U:∀xs,d ≠ .agg xs
 ·rw[pW U]at O;exact (hI.b9 O Y Z).1
 ·have hk:∀b,b<w.heap.size->¬Own M h blk b->b<w.heap.size∧¬M' b∧w.heap[b]? = w.heap[b]?:=fun b h1 h2=>⟨h1,fun hb=>h2 (Y.le b hb),rfl⟩;simp only[ne_eq,Classical.not_forall,Classical.not_not]at U;obtain⟨xs,rfl⟩:=U;simp only[Am.kS,VP,Prod.mk.injEq]at O;obtain⟨rfl,rfl⟩:=O;exact RP.keep hk (show RP w (Own M h blk) (.agg xs) u from Z)
theorem Inv.KM (Z:Inv N M L w0 blk V t h a w) {x v:Nat} {ks:List bC} {vs:List D} {u:Value} (hl:fi h x v=some (ks,vs)) (hr:RT w (Own M h blk) h blk V (.mp x v) u) :
  ∃(g:Nat×Nat) (r:Row),h x=some r∧r.v=v∧r.mp=true∧r.cells=[.mpc ks vs]∧blk x=some g∧u=.map (some g.1)∧vs.length=ks.length∧∃(ents:Array MapEntry) (clock:Nat),w.heap[g.1]? = some (.map ents clock)∧ents.size=ks.length∧MapKept.Stamped ents clock∧∃us:Nat->Value,(∀j k,ks[j]? = some k->∃e:MapEntry,ents[j]? = some e∧e.key=iR k∧e.val=us j)∧∀j x,vs[j]? = some x->RP w (Own M h blk) x (us j):=by
 obtain⟨r,h1,h2,h3,h4,U⟩:=xR hl;obtain⟨g,Y,k2⟩:=hr.2 r h1 h2;have O:=Z.rowIs h1 Y;unfold cr at O;rw[h3]at O;rcases O with O|⟨O,_⟩;rotate_left
 ·rw[h4]at O;have:=O _ (V3.2 rfl);cases this
 obtain⟨aa,ab,i1,i2,hA,_⟩:=O;obtain⟨ents,clock,i3,i4,X,us,i5,i6⟩:=hA U;rw[h4]at i1;simp only[V4,D.mpc.injEq,and_true]at i1;obtain⟨rfl,rfl⟩:=i1;exact⟨g,r,h1,h2,h3,h4,Y,k2,i2,ents,clock,i3,i4,X,us,i5,i6⟩
theorem Inv.KP (X:Inv N M L w0 blk V t h a w) {x v:Nat} {ks:List bC} {vs:List D} {u:Value} {M':Nat->Prop} (Z:fi h x v=some (ks,vs)) (O:∀r g,h x=some r->blk x=some g->¬M' g.1)
  (hk:∀b,b<w.heap.size->¬Own M h blk b->b<w.heap.size∧¬M' b∧w.heap[b]? = w.heap[b]?) (hr:RT w (Own M h blk) h blk V (.mp x v) u):RP w M' (.mpc ks vs) u:=by
 obtain⟨g,r,h1,h2,h3,h4,h5,rfl,h6,ents,clock,h7,h8,_,us,h9,U⟩:=X.KM Z hr;refine .mpc ks vs (some g.1) us h6 (fun h=>by cases h) (fun b Y =>?_) (fun j y hj=>(U j y hj).keep hk);simp only[VP]at Y;subst Y;exact⟨X.lt h1 h5,O r g h1 h5,ents,clock,h7,h8,h9⟩
theorem Inv.aD (hI:Inv N M L w0 blk V t h a w) {d d':D} {fr:List Nat} {u:Value} {M':Nat->Prop} (O:aD h d=some (d',fr)) (hl:ki M h blk fr M') (X:RT w (Own M h blk) h blk V d u):RP w M' d' u:=by
 have hk:∀b,b<w.heap.size->¬Own M h blk b->b<w.heap.size∧¬M' b∧w.heap[b]? = w.heap[b]?:=fun b h1 h2=>⟨h1,fun hb=>h2 (hl.le b hb),rfl⟩;have one:∀d,Am.aD h d=(match Am.b9 h d with|some (d',fr)=>some (canon d',fr)|none=>none)->Am.aD h d=some (d',fr)->RT w (Own M h blk) h blk V d u->RP w M' d' u:=by
  intro d he O X;rw[he]at O;split at O
  ·rename_i d1 ab h1;simp only[VP,Prod.mk.injEq]at O;obtain⟨rfl,rfl⟩:=O;exact (hI.b9 h1 hl X).1.canon
  ·cases O
 cases d with
 | ptr x v o =>
  simp only[Am.aD]at O;split at O
  ·rename_i r Z;split at O
   ·rename_i hle;simp only[VP,Prod.mk.injEq]at O;obtain⟨rfl,rfl⟩:=O;obtain⟨Y,hv⟩:=bg Z;obtain⟨g,g0,g1⟩:=X.2 r Y hv;obtain⟨cs,g2,g3,g4⟩:=hI.xQ Y g0 (eG Z);subst g1;refine .ip _ _ (fun j=>cs.getD (g.2+(o+j)) undef) (fun ae=>⟨g.1,g.2+o,rfl,hI.lt Y g0,hl.no x (by simp) r g Y g0,fun j U =>?_⟩) (fun j y U =>?_) (fun y hy =>?_)
    ·simp only[V0]at U;rw[V1];exact aL g2 (by omega)
    ·rw[VX]at U;exact (g4 _ _ U).2.keep hk
    ·obtain⟨j,U⟩:=V2 hy;rw[VX]at U;exact (g4 _ _ U).1
   ·cases O
  ·cases O
 | agg xs=>simp only[Am.aD,VP,Prod.mk.injEq]at O;obtain⟨rfl,rfl⟩:=O;exact (RP.keep hk X).dT
 | ip xs=>simp only[Am.aD,VP,Prod.mk.injEq]at O;obtain⟨rfl,rfl⟩:=O;exact RP.keep hk X
 | fn f=>simp only[Am.aD,VP,Prod.mk.injEq]at O;obtain⟨rfl,rfl⟩:=O;exact RP.keep hk X
 | box1 x v s o n =>
  simp only[Am.aD]at O;split at O
  ·rename_i d1 ab h1;simp only[VP,Prod.mk.injEq]at O;obtain⟨rfl,rfl⟩:=O;obtain⟨u',rfl,_,X⟩:=X;obtain⟨k1,k2⟩:=hI.b9 h1 hl (show RT w (Own M h blk) h blk V (.buf x v s o n) u' from X);refine .agg _ [u'] rfl (fun j x U =>?_) (fun x Y =>?_)
   ·cases j with
    | zero=>simp only[List.getElem?_cons_zero,VP]at U;subst U;exact k1.canon
    | succ j=>simp at U
   ·simp only[V3]at Y;rw[Y,jj];exact k2
  ·cases O
 | mpc ks vs=>simp only[Am.aD,VP,Prod.mk.injEq]at O;obtain⟨rfl,rfl⟩:=O;exact RP.keep hk X
 | mp x v =>
  simp only[Am.aD]at O;split at O
  ·rename_i ks vs h1;simp only[VP,Prod.mk.injEq]at O;obtain⟨rfl,rfl⟩:=O;exact hI.KP h1 (hl.no x (by simp)) hk X
  ·cases O
 | pm x v y =>
  simp only[Am.aD]at O;split at O
  ·rename_i r Z;split at O
   ·rename_i y' v' ad;split at O
    ·rename_i aa;obtain⟨c1,c2,rfl⟩:=aa;split at O
     ·rename_i ks vs h1;simp only[VP,Prod.mk.injEq]at O;obtain⟨rfl,rfl⟩:=O;obtain⟨Y,hv⟩:=bg Z;obtain⟨g,g0,g1⟩:=X.2 r Y hv;obtain⟨u',k1,k2⟩:=hI.ali x r g Y c1 c2 g0 0 (.alm y' v') (.mp y' v') (by rw[ad];rfl) rfl;have k3:=hI.KP h1 (hl.no y' (by simp)) hk k2;subst g1;refine .ip _ _ (fun _=>u') (fun _=>⟨g.1,g.2+0,rfl,hI.lt Y g0,hl.no x (by simp) r g Y g0,fun j U =>?_⟩) (fun j z U =>?_) (fun z hz =>?_)
      ·simp only[List.length_cons,List.length_nil]at U;have:j=0:=by omega
       subst this;exact k1
      ·cases j with
       | zero=>simp only[List.getElem?_cons_zero,VP]at U;subst U;exact k3
       | succ j=>simp at U
      ·simp only[V3]at hz;subst hz;rfl
     ·cases O
    ·cases O
   ·cases O
  ·cases O
 | _=>exact one _ rfl O X
theorem vX {w:World} {M:Nat->Prop} {h:Nat->Option Row} {blk:Nat->Option (Nat×Nat)} {V:Nat->Nat->Prop} {d:D} {u:Value} (O:RC w M h blk V d u):RT w M h blk V d u:=by
 cases d with
 | ptr x v o=>exact O
 | mp x v=>exact O
 | pm x v y=>exact O
 | _=>exact aS O
theorem Inv.bU (hI:Inv N M L w0 blk V t h a w) {M':Nat->Prop} : ∀ {ds O:List D} {fr:List Nat} {us:List Value},bU h ds=some (O,fr)->ki M h blk fr M'->us.length=ds.length ->
  (∀j d,ds[j]? = some d->RT w (Own M h blk) h blk V d (us.getD j undef))->us.length=O.length∧∀j d,O[j]? = some d->RP w M' d (us.getD j undef)
 | [],O,fr,us,U,Y,hlen,Z=>by
  simp only[Am.bU,VP,Prod.mk.injEq]at U;obtain⟨rfl,rfl⟩:=U;exact⟨hlen,fun j d X=>by simp at X⟩
 | d::ds,O,fr,us,U,Y,hlen,Z=>by
  simp only[Am.bU]at U;split at U
  ·rename_i d1 aa h1;split at U
   ·rename_i ab ad h2;simp only[VP,Prod.mk.injEq]at U;obtain⟨rfl,rfl⟩:=U;cases us with
    | nil=>simp at hlen
    | cons u us =>
     have i1:=hI.aD h1 Y.left (Z 0 d rfl);obtain⟨i2,i3⟩:=hI.bU h2 Y.right (by simpa using hlen) (fun j d X=>by simpa using Z (j+1) d (by simpa using X));refine⟨by simp[i2],fun j x X =>?_⟩;cases j with
     | zero=>simp only[List.getElem?_cons_zero,VP]at X;subst X;simpa using i1
     | succ j=>simpa using i3 j x (by simpa using X)
   ·cases U
  ·cases U
theorem Inv.aV (U:Inv N M L w0 blk V t h a w) {d X:D} {fr:List Nat} {u:Value} {M':Nat->Prop} (O:aV h d=some (X,fr)) (Y:ki M h blk fr M') (Z:RT w (Own M h blk) h blk V d u):RP w M' X u:=by
 cases d with
 | clo f kk xs =>
  simp only[Am.aV]at O;split at O
  ·rename_i ys aa h1;simp only[VP,Prod.mk.injEq]at O;obtain⟨rfl,rfl⟩:=O;obtain⟨us,k1,k2,k3⟩:=Z;subst k1;obtain⟨i1,i2⟩:=U.bU h1 Y k2 (fun j d hj=>vX (k3 j d hj));exact .clo f kk ys us i1 i2
  ·cases O
 | _=>exact U.aD (by rw[<- O];rfl) Y Z
theorem Inv.aO (hI:Inv N M L w0 blk V t h a w) {M':Nat->Prop} : ∀ {ds O:List D} {fr:List Nat} {us:List Value},aO h ds=some (O,fr)->ki M h blk fr M'->us.length=ds.length ->
  (∀j d,ds[j]? = some d->RT w (Own M h blk) h blk V d (us.getD j undef))->us.length=O.length∧∀j d,O[j]? = some d->RP w M' d (us.getD j undef)
 | [],O,fr,us,U,Y,hlen,Z=>by
  simp only[Am.aO,VP,Prod.mk.injEq]at U;obtain⟨rfl,rfl⟩:=U;exact⟨hlen,fun j d X=>by simp at X⟩
 | d::ds,O,fr,us,U,Y,hlen,Z=>by
  simp only[Am.aO]at U;split at U
  ·rename_i d1 aa h1;split at U
   ·rename_i ab ad h2;simp only[VP,Prod.mk.injEq]at U;obtain⟨rfl,rfl⟩:=U;cases us with
    | nil=>simp at hlen
    | cons u us =>
     have i1:=hI.aV h1 Y.left (Z 0 d rfl);obtain⟨i2,i3⟩:=hI.aO h2 Y.right (by simpa using hlen) (fun j d X=>by simpa using Z (j+1) d (by simpa using X));refine⟨by simp[i2],fun j x X =>?_⟩;cases j with
     | zero=>simp only[List.getElem?_cons_zero,VP]at X;subst X;simpa using i1
     | succ j=>simpa using i3 j x (by simpa using X)
   ·cases U
  ·cases U
theorem Inv.cT (hI:Inv N M L w0 blk V t h a w) {d:D} {cs:List D} {fr:List Nat} {u:Value} {M':Nat->Prop} (O:cT h d=some (cs,fr)) (hl:ki M h blk fr M') (Y:RT w (Own M h blk) h blk V d u) :
  u.cells.size=cs.length∧∀j x,cs[j]? = some x->aF x=true∧RP w M' x (u.cells.getD j undef):=by
 have hk:∀b,b<w.heap.size->¬Own M h blk b->b<w.heap.size∧¬M' b∧w.heap[b]? = w.heap[b]?:=fun b h1 h2=>⟨h1,fun hb=>h2 (hl.le b hb),rfl⟩;have one:∀d,(∀xs,d ≠ .agg xs)->Am.cT h d=some (cs,fr)->RT w (Own M h blk) h blk V d u->u.cells.size=cs.length∧∀j x,cs[j]? = some x->aF x=true∧RP w M' x (u.cells.getD j undef):=by
  intro d Z O Y;have:∃U,Am.b9 h d=some (U,fr)∧cs=[U]:=by
   have e:Am.cT h d=match Am.b9 h d with|some (U,fr)=>some ([U],fr)|none=>none:=by
    cases d<;>first|rfl|exact absurd rfl (Z _)
   rw[e]at O;split at O
   ·rename_i U ab h1;simp only[VP,Prod.mk.injEq]at O;obtain⟨rfl,rfl⟩:=O;exact⟨U,h1,rfl⟩
   ·cases O
  obtain⟨U,h1,rfl⟩:=this;obtain⟨h2,h3⟩:=hI.b9 h1 hl Y;rw[h2.cells h3];refine⟨rfl,fun j x X =>?_⟩;cases j with
  | zero=>simp only[List.getElem?_cons_zero,VP]at X;subst X;exact⟨h3,by simpa using h2⟩
  | succ j=>simp at X
 cases d with
 | agg xs =>
  simp only[Am.cT,VP,Prod.mk.injEq]at O;obtain⟨rfl,rfl⟩:=O;have aa:RP w (Own M h blk) (.agg xs) u:=Y;cases aa with
  | agg xs us h1 h2 h3 =>
   refine⟨by simp[Value.cells,h1],fun j x X=>⟨h3 x (V8 X),?_⟩⟩;have:=(h2 j x X).keep hk;simpa [Value.cells] using this
 | _=>exact one _ (fun _ h=>by cases h) O Y
end
theorem kO (g o j:Nat):(⟨g,o,none⟩:Addr).add j=⟨g,o+j,none⟩:=by unfold Addr.add;split<;>simp_all
def At (w:World) (M:Nat->Prop) (g o:Nat) (xs:List D):Prop:=∀j x,xs[j]? = some x->aF x=true∧∃v,w.cell? ⟨g,o+j,none⟩=some v∧RP w M x v
theorem At.drop {w:World} {M:Nat->Prop} {g o:Nat} {xs:List D} (h:At w M g o xs) (k:Nat):At w M g (o+k) (xs.drop k):=by
 intro j x O;rw[VX]at O;obtain⟨h1,v,h2,h3⟩:=h _ _ O;exact⟨h1,v,by rw[V1];exact h2,h3⟩
theorem At.take {w:World} {M:Nat->Prop} {g o:Nat} {xs:List D} (h:At w M g o xs) (k:Nat):At w M g o (xs.take k):=by
 intro j x O;rw[VW]at O;split at O
 ·exact h _ _ O
 ·cases O
theorem At.T9 {w:World} {M:Nat->Prop} {g o:Nat} {xs:List D} (h:At w M g o xs) :
  ∃us:List Value,us.length=xs.length∧(∀j u,us[j]? = some u->w.cell? ⟨g,o+j,none⟩=some u)∧(∀j x,xs[j]? = some x->RP w M x (us.getD j undef))∧(∀x∈xs,aF x=true):=by
 refine⟨(List.range xs.length).map fun j=>(w.cell? ⟨g,o+j,none⟩).getD undef,by simp,fun j u U =>?_,fun j x U =>?_,fun x X =>?_⟩
 ·obtain⟨O,he⟩:=V9.1 U;simp only[Wa,Wb]at O;simp only[List.getElem_map,Wc]at he;obtain⟨_,v,h2,_⟩:=h j _ (VT O);rw[h2]at he ⊢;simpa using he
 ·have O:j<xs.length:=(V9.1 U).1;obtain⟨_,v,h2,h3⟩:=h j x U;have:((List.range xs.length).map fun j=>(w.cell? ⟨g,o+j,none⟩).getD undef).getD j undef=v:=by
   simp[List.getD,VC,O,h2]
  rw[this];exact h3
 ·obtain⟨j,U⟩:=V2 X;exact (h j x U).1
section
variable {P:Program} {T:Nat->Option Ty}
theorem iO {ty:Nat} {τ:Ty} (O:fW P ty τ) (w:World):(isAgg ty).run P w=.ok τ.ds.ko w:=by
 obtain⟨d,i,z,h1,h2,h3,h4,h5,h6,h7⟩:=O.get;rw[<- h2];simp only[isAgg,Wd,run_underlying h1,Result.andThen_ok]<;>cases d<;>rfl
theorem run_sizeOf {ty:Nat} {τ:Ty} (O:fW P ty τ) (w:World):(sizeOf ty).run P w=.ok τ.size w:=by
 obtain⟨d,i,z,h1,h2,h3,h4,h5,h6,h7⟩:=O.get;simp[Go.sizeOf,typeInfo,h3,h4]
theorem fO {ty:Nat} {τ:Ty} (O:fW P ty τ) (w:World):∃z,(zeroValue ty).run P w=.ok z w∧z.cells=τ.zero.toArray:=by
 obtain⟨d,i,z,h1,h2,h3,h4,h5,h6,h7⟩:=O.get;exact⟨z,by simp[zeroValue,typeInfo,h3,h6],h7⟩
theorem gL {ty:Nat} {τ:Ty} (U:fW P ty τ) (w:World) (g o:Nat) (us:List Value) (Y:us.length=τ.size) (X:∀j u,us[j]? = some u->w.cell? ⟨g,o+j,none⟩=some u)
  (h1:τ.ds.ko=false->us.length=1):(loadVar ty ⟨g,o,none⟩).run P w=.ok (if τ.ds.ko then .agg us.toArray else us.getD 0 undef) w:=by
 simp only[loadVar,Wd,iO U,Result.andThen_ok];cases Z:τ.ds.ko with
 | true =>
  have:=run_loadCells_list (P:=P) w ⟨g,o,none⟩ us (fun j v hj=>by rw[kO];exact X j v hj);rw[Y]at this;simp[run_sizeOf U,this]
 | false =>
  have O:=h1 Z
  match us,O with
  | [u],_ =>
   have:=X 0 u rfl;simp only[Nat.add_zero]at this;simp[run_load,this]
variable {N:Nat} {M:Nat->Prop} {L:fV} {w0:World} {blk:Nat->Option (Nat×Nat)} {V:Nat->Nat->Prop} {t:Nat->D} {h:Nat->Option Row} {a:Act} {w:World} {e:Nat} {o:Oper} {Γ:Env}
def aJ (N:Nat) (M:Nat->Prop) (L:fV) (w0:World) (V:Nat->Nat->Prop) (t:Nat->D) (h:Nat->Option Row) (a:Act) (e:Nat) (dst:Option Nat) (E:aR) (v:Value) (w':World):Prop :=
 ∃blk',Inv N M L w0 blk' (fun x n=>V x n∨(dst=some x∧n=e)) t (ay h E.hw) a w' ∧
  RT w' (Own M (ay h E.hw) blk') (ay h E.hw) blk' (fun x n=>V x n∨(dst=some x∧n=e)) E.val v
theorem aJ.ct (O:Inv N M L w0 blk V t h a w) {d:D} {v:Value} {dst:Option Nat} (U:RT w (Own M h blk) h blk V d v):aJ N M L w0 V t h a e dst ⟨d,[]⟩ v w :=
 ⟨blk,O.weaken fun _ _ h =>.inl h,U.mono ⟨fun _ h1 h2=>⟨h1,h2,rfl⟩,fun _ _ h =>.inl h,fun _ _ _ r' h1 h2=>⟨⟨r',h1,h2⟩,rfl,fun _ _=>rfl⟩⟩⟩
theorem aJ.CY (O:Inv N M L w0 blk V t h a w) {d:D} {v:Value} {dst:Option Nat} (fr:List Nat) (U:RP w (Own M (ay h (fB h fr)) blk) d v):aJ N M L w0 V t h a e dst ⟨d,fB h fr⟩ v w :=
 ⟨blk,(O.freeze fr).weaken fun _ _ h =>.inl h,aS U⟩
theorem av {v:Value} {w':World} {Φ:Value->World->Prop} (O:(execOp a.eval o).run P w=.ok (.value v) w') (U:Φ v w'):db P o a w Φ := .inl ⟨v,w',O,U⟩
theorem AH (U:Inv N M L w0 blk V t h a w) {x:Operand} (O:o.op=.move x∨o.op=.assign x):db P o a w (aJ N M L w0 V t h a e o.dst ⟨ev t x,[]⟩):=by
 refine av (v:=a.eval x) (w':=w) ?_ (aJ.ct U (U.ev x));rcases O with O|O<;>simp[execOp,O]
theorem uw (hI:Inv N M L w0 blk V t h a w) {ty:Nat} {x:Operand} {E:aR} (ho:o.op=.assign x) (hV:∀d,o.dst=some d->fY N V d e) (O:aW T ty e o.dst h (ev t x)=some E):db P o a w (aJ N M L w0 V t h a e o.dst E):=by
 have hp:=hI.ev x;have U:E=⟨ev t x,[]⟩->db P o a w (aJ N M L w0 V t h a e o.dst E):=fun h=>by subst h;exact AH hI (.inr ho)
 generalize ev t x=q at *;have X:(execOp a.eval o).run P w=.ok (.value (a.eval x)) w:=by simp[execOp,ho]
 cases q with
 | buf y v s c n =>
  simp only[aW]at O;split at O
  ·rename_i d r Y hl;split at O
   ·simp only[VP]at O;exact U O.symm
   ·rename_i hz;simp only[Bool.not_eq_true]at hz;simp only[VP]at O;subst O;obtain⟨hy,hv⟩:=bg hl;have Z:=hI.Ng (w':=w) (h1:=forget h (some y)) (old:=some y) (d:=d) (e:=e) (ty:=r.ty) (lst:=r.lst) (fz:=r.fz) (hfz:=hz) (go:=blk y) (cs:=r.cells) rfl rfl rfl (VG _) (fun _ _ _=>rfl)
     (fun y' aa=>by cases aa;exact⟨r,hy,hz⟩) rfl (hV d Y) (by
      have:=(hI.rows y r hy).2;cases hg:blk y with
      | none=>rw[hg]at this;exact this
      | some g =>
       rw[hg]at this;have k0:=this.2;unfold cr at k0;rw[eG hl]at k0;obtain⟨cs,k1,k2,k3⟩:=k0;exact⟨.inr ⟨y,g,rfl,hg,rfl⟩,cs,k1,k2,k3⟩)
    have e1:({ r with v:=e } : Row)=⟨e,r.ty,r.cells,r.fz,r.lst,false⟩:=by rw[<- eG hl]
    rw[e1];refine av X ⟨bj blk d (blk y),?_,?_⟩
    ·show Inv _ _ _ _ _ _ _ (bj (bj h y none) d (some _)) _ _;refine Z.weaken fun x v hx =>?_;rcases hx with hx|⟨rfl,rfl⟩
     ·exact .inl hx
     ·exact .inr ⟨Y,rfl⟩
    ·refine⟨.inr ⟨Y,rfl⟩,fun r' _ _ =>?_⟩;rw[aj];exact hp.2 r hy hv
  ·split at O
   ·simp only[VP]at O;exact U O.symm
   ·simp only[VP]at O;subst O;exact av X ⟨blk,hI.weaken fun _ _ h =>.inl h,trivial⟩
 | sl nl tight n xs =>
  unfold aW at O;split at O
  ·rename_i hq;cases hq
  ·rename_i hq;cases hq;split at O
   ·rename_i d τ Y hτ;split at O
    ·rename_i el ad;split at O
     ·rename_i φ hφ;simp only[VP]at O;subst O;have hu:a.eval x=.slice none 0 0:=by
       have ab:RP w (Own M h blk) (.sl true true 0 []) (a.eval x):=hp;generalize a.eval x=u at *;cases ab with
       | sl A c nl tight n xs us h1 h2 h3 h4 h5 h6 h7 h8=>obtain⟨rfl,rfl⟩:=(h3 rfl).1 rfl;rfl
      have Z:=hI.Ng (w':=w) (h1:=forget h none) (old:=none) (d:=d) (e:=e) (ty:=el) (lst:=true) (fz:=false) (go:=none) (cs:=[]) rfl rfl rfl (VG _) (fun _ _ _=>rfl)
       (fun y' aa=>by cases aa) rfl (hV d Y) rfl
      refine av X ⟨bj blk d none,?_,?_⟩
      ·refine Z.weaken fun x v hx =>?_;rcases hx with hx|⟨rfl,rfl⟩
       ·exact .inl hx
       ·exact .inr ⟨Y,rfl⟩
      ·refine⟨.inr ⟨Y,rfl⟩,fun r' _ _ =>.inr ⟨aj _ _ _,rfl,none,hu⟩⟩
     ·cases O
    ·cases O
   ·cases O
  ·simp only[VP]at O;exact U O.symm
 | _=>exact U (by simp only[aW,VP]at O;exact O.symm)
theorem N0 (U:Inv N M L w0 blk V t h a w) {ty:Nat} {q:Nat->Bool} {x:Operand} {E:aR} (X:o.op=.assign x) (hV:∀d,o.dst=some d->fY N V d e) (O:me T q ty e o.dst h (ev t x)=some E):db P o a w (aJ N M L w0 V t h a e o.dst E):=by
 have Z:=U.ev x;unfold me at O;split at O
 ·rename_i d Y;split at O
  ·rw[<- Y]at O;exact uw U X hV O
  ·unfold eX at O;split at O
   ·rename_i d' fr hc;simp only[VP]at O;subst O;exact av (v:=a.eval x) (w':=w) (by simp[execOp,X]) (aJ.CY U fr (U.kS hc (U.dB fr) Z).dT)
   ·cases O
 ·rename_i Y;rw[<- Y]at O;exact uw U X hV O
theorem pR {b:Bool} {u:Value} {h:Nat->Option Row} (O:RT w M h blk V (.bool b) u):u=.bool b:=by
 have h':RP w M (.bool b) u:=O;cases h';rfl
theorem iW {k:IntKind} {n:Int} {u:Value} {h:Nat->Option Row} (O:RT w M h blk V (.int k n) u):u=.int k n:=by
 have h':RP w M (.int k n) u:=O;cases h';rfl
theorem vZ {s:ByteArray} {u:Value} {h:Nat->Option Row} (O:RT w M h blk V (.str s) u):u=.string s:=by
 have h':RP w M (.str s) u:=O;cases h';rfl
theorem AI (O:Inv N M L w0 blk V t h a w) {c x y:Operand} {b:Bool} (U:o.op=.pick c x y) (X:ev t c=.bool b):db P o a w (aJ N M L w0 V t h a e o.dst ⟨ev t (if b then x else y),[]⟩):=by
 refine av (v:=a.eval (if b then x else y)) (w':=w) ?_ (aJ.ct O (O.ev _));have h1:=O.ev c;rw[X]at h1;have h2:=pR h1;cases b<;>simp[execOp,U,h2,asBool]
theorem lJ (O:List Value) (Z:(O.map jR).all aF=true) {w:World} {M:Nat->Prop} (j:Nat) (x:D) (U:(O.map jR)[j]? = some x):aF x=true∧RP w M x (O.toArray.getD j undef):=by
 have hp:aF x=true:=by
  rw[VR]at Z;exact Z x (V8 U)
 refine⟨hp,?_⟩;rw[VC]at U;cases X:O[j]? with
 | none=>simp[X]at U
 | some v =>
  simp only[X,Option.map_some,VP]at U;subst U;have Y:O.toArray.getD j undef=v:=by simp[X]
  rw[Y];have:=M7 w M (fun _=>none) (fun _=>none) (fun _ _=>True) v;generalize jR v=d at *;cases d<;>first|exact this|simp[aF]at hp
theorem vY {d e:Nat} {g:Nat×Nat} {o:Nat} {V':Nat->Nat->Prop} {h':Nat->Option Row} {blk':Nat->Option (Nat×Nat)} (hV:V' d e) (O:blk' d=some g):RT w M h' blk' V' (.ptr d e o) (.pointer (some ⟨g.1,g.2+o,none⟩)) :=
 ⟨hV,fun _ _ _=>⟨g,O,rfl⟩⟩
theorem Ib {hint:Nat->Option Nat} (hT:fb P T) (hI:Inv N M L w0 blk V t h a w) {ty d:Nat} {τ:Ty} (ho:o.op=.alloc ty) (O:o.dst=some d) (hτ:T ty=some τ) (hV:fY N V d e) (hz:(τ.zero.map jR).all aF=true) :
  db P o a w (aJ N M L w0 V t h a e o.dst ⟨match hint d with|some y =>.pm d e y|none =>.ptr d e 0,[(d,some ⟨e,ty,τ.zero.map jR,false,false,false⟩)]⟩):=by
 obtain⟨z,U,X⟩:=fO (hT ty τ hτ) w;have Y:=hI.alloc (d:=d) (e:=e) (ty:=ty) (lst:=false) (cs:=τ.zero.map jR) (vs:=τ.zero.toArray) hV (by simp) (fun j x hj=>lJ τ.zero hz j x hj);refine av (v := .pointer (some ⟨w.heap.size,0,none⟩)) (w':=w.alloc (.cells τ.zero.toArray ty)) ?_ ⟨bj blk d (some (w.heap.size,0)),?_,?_⟩
 ·simp[execOp,ho,Instr.alloc,U,newVar,newRow,X]
 ·refine Y.weaken fun x v Z =>?_;rcases Z with Z|⟨rfl,rfl⟩
  ·exact .inl Z
  ·exact .inr ⟨O,rfl⟩
 ·cases hint d with
  | none=>exact vY (g:=(w.heap.size,0)) (o:=0) (.inr ⟨O,rfl⟩) (aj _ _ _)
  | some y=>exact⟨.inr ⟨O,rfl⟩,fun _ _ _=>⟨(w.heap.size,0),aj _ _ _,rfl⟩⟩
theorem tq {fr:List Nat} {x:Nat} (O:fr.contains x=false):ay h (fB h fr) x=h x:=by
 rw[xr,if_neg (by simpa using O)]
theorem N2 (O:Inv N M L w0 blk V t h a w) {ty d:Nat} {x:Operand} {cs:List D} {fr:List Nat} (Z:o.op=.box ty x) (Y:o.dst=some d) (hV:fY N V d e) (hc:cT h (ev t x)=some (cs,fr)) :
  db P o a w (aJ N M L w0 V t h a e o.dst ⟨.ptr d e 0,fB h fr++[(d,some ⟨e,ty,cs,false,false,false⟩)]⟩):=by
 obtain⟨h1,h2⟩:=O.cT hc (O.dB fr) (O.ev x);have U:=(O.freeze fr).alloc (d:=d) (e:=e) (ty:=ty) (lst:=false) (cs:=cs) (vs:=(a.eval x).cells) hV (by omega) h2;refine av (v := .pointer (some ⟨w.heap.size,0,none⟩)) (w':=w.alloc (.cells (a.eval x).cells ty)) ?_ ⟨bj blk d (some (w.heap.size,0)),?_,?_⟩
 ·simp[execOp,Z,Instr.box,newVar,newRow]
 ·show Inv _ _ _ _ _ _ _ (ay h (fB h fr++[(d,some ⟨e,ty,cs,false,false,false⟩)])) _ _;rw[ef];refine U.weaken fun x v X =>?_;rcases X with X|⟨rfl,rfl⟩
  ·exact .inl X
  ·exact .inr ⟨Y,rfl⟩
 ·exact vY (g:=(w.heap.size,0)) (o:=0) (.inr ⟨Y,rfl⟩) (aj _ _ _)
theorem Inv.rowAt (X:Inv N M L w0 blk V t h a w) {x:Nat} {r:Row} {g:Nat×Nat} (Y:h x=some r) (Z:blk x=some g) (O:r.mp=false):At w (Own M h blk) g.1 g.2 r.cells:=by
 obtain⟨cs,h3,h4,h5⟩:=X.xQ Y Z O;intro j d U;have aa:=(V9.1 U).1;exact⟨(h5 j d U).1,cs.getD (g.2+j) undef,aL h3 (by omega),(h5 j d U).2⟩
theorem RP.Tf {M':Nat->Prop} {xs:List D} {u:Value} (X:RP w M' (.ip xs) u):∃ad,u=.pointer (some ad)∧(xs≠[]->∃b o,ad=⟨b,o,none⟩∧At w M' b o xs):=by
 cases X with
 | ip xs ad us h6 h7 h8 =>
  refine⟨ad,rfl,fun O =>?_⟩;obtain⟨b,o,rfl,_,_,g3⟩:=h6 O;exact⟨b,o,rfl,fun j x U=>⟨h8 x (V8 U),us j,g3 j (V9.1 U).1,h7 j x U⟩⟩
theorem lU (hT:fb P T) (hI:Inv N M L w0 blk V t h a w) {ty:Nat} {p:Operand} {τ:Ty} {g c:Nat} {xs:List D} {d:D} (ho:o.op=.load ty p) (hτ:T ty=some τ) (hp:a.eval p=.pointer (some ⟨g,c,none⟩))
  (Y:At w (Own M h blk) g c xs) (hl:xs.length=τ.size) (U:gP τ xs=some d):db P o a w (aJ N M L w0 V t h a e o.dst ⟨d,[]⟩):=by
 obtain⟨us,h1,h2,h3,h4⟩:=Y.T9;have O:τ.ds.ko=false->xs.length=1∧xs=[d]:=by
  intro Z;simp only[gP,Z,Wg,if_false]at U;split at U
  ·simp only[VP]at U;subst U;exact⟨rfl,rfl⟩
  ·cases U
 have X:=gL (hT ty τ hτ) w g c us (by rw[h1,hl]) h2 (fun Z=>by rw[h1];exact (O Z).1);refine av (v:=if τ.ds.ko then .agg us.toArray else us.getD 0 undef) (w':=w) ?_ (aJ.ct hI ?_)
 ·simp[execOp,ho,Instr.loadAt,Instr.sureAddr,hp,X]
 ·apply aS;cases ha:τ.ds.ko with
  | true =>
   simp only[gP,ha,if_true,VP]at U;subst U;exact .agg xs us h1 h3 h4
  | false =>
   obtain⟨_,rfl⟩:=O ha;exact h3 0 d rfl
theorem CM (hT:fb P T) (Y:Inv N M L w0 blk V t h a w) {ty:Nat} {p:Operand} {τ:Ty} {x c:Nat} {r:Row} {g:Nat×Nat} {d:D} (ho:o.op=.load ty p) (hτ:T ty=some τ) (hp:a.eval p=.pointer (some ⟨g.1,g.2+c,none⟩))
  (hx:h x=some r) (Z:r.mp=false) (hz:r.fz=true) (hl:r.lst=false) (hg:blk x=some g) (hle:c+τ.size<=r.cells.length) (O:H4 τ.ds.ko ((r.cells.drop c).take τ.size)=some d):db P o a w (aJ N M L w0 V t h a e o.dst ⟨d,[]⟩):=by
 have hlen:((r.cells.drop c).take τ.size).length=τ.size:=by simp;omega
 generalize aa:(r.cells.drop c).take τ.size=cs at O hlen;unfold H4 at O;split at O
 ·rename_i y v s o' n;simp only[VP]at O;have ab:τ.size=1:=by simpa using hlen.symm
  have U:r.cells[c]? = some (.ali y v s o' n):=by
   have:((r.cells.drop c).take τ.size)[0]? = some (.ali y v s o' n):=by rw[aa];rfl
   rw[bx,if_pos (by omega)]at this;simpa using this
  obtain⟨u,h1,h2⟩:=Y.ali x r g hx hz hl hg c _ (.buf y v s o' n) U rfl;have X:=gL (hT ty τ hτ) w g.1 (g.2+c) [u] (by simpa using ab.symm) (fun j v U=>by
   cases j with
   | zero=>simp only[List.getElem?_cons_zero,VP]at U;subst U;simpa using h1
   | succ j=>simp at U) (fun _=>rfl)
  refine av (v:=if τ.ds.ko then .agg [u].toArray else [u].getD 0 undef) (w':=w) ?_ (aJ.ct Y ?_)
  ·simp[execOp,ho,Instr.loadAt,Instr.sureAddr,hp,X]
  ·cases hA:τ.ds.ko with
   | false =>
    rw[hA]at O;simp only[Wg,if_false]at O;subst O;exact h2
   | true =>
    rw[hA]at O;simp only[if_true]at O;subst O;obtain⟨_,u2,c2,r2⟩:=Y.rowAt hx hg Z c _ U;rw[h1]at c2;cases c2;exact⟨u,rfl,r2.nH rfl,h2⟩
 ·cases O
theorem LZ (Z:fb P T) (X:Inv N M L w0 blk V t h a w) {ty:Nat} {p:Operand} {τ:Ty} {E:aR} (ho:o.op=.load ty p) (hτ:T ty=some τ) (O:ch τ h (ev t p)=some E):db P o a w (aJ N M L w0 V t h a e o.dst E):=by
 have hp:=X.ev p;generalize ev t p=q at *;cases q with
 | ptr x v c =>
  simp only[ch]at O;split at O
  ·rename_i r hl;split at O
   ·rename_i hle;split at O
    ·rename_i d U;simp only[VP]at O;subst O;obtain⟨hx,hv⟩:=bg hl;obtain⟨g,hg,aa⟩:=hp.2 r hx hv;have:=((X.rowAt hx hg (eG hl)).drop c).take τ.size;exact lU Z X ho hτ aa this (by simp;omega) U
    ·cases O
   ·cases O
  ·cases O
 | ip xs =>
  simp only[ch]at O;split at O
  ·rename_i hle;split at O
   ·rename_i d U;simp only[VP]at O;subst O;obtain⟨ad,h1,h2⟩:=RP.Tf (M':=Own M h blk) hp
    by_cases Y:xs=[]
    ·subst Y;have hz:τ.size=0:=by simpa using hle
     have hA:τ.ds.ko=true:=by
      cases hA:τ.ds.ko with
      | true=>rfl
      | false=>simp[gP,hA]at U
     have ab:=run_sizeOf (Z ty τ hτ) w;refine av (v := .agg #[]) (w':=w) ?_ (aJ.ct X ?_)
     ·simp[execOp,ho,Instr.loadAt,Instr.sureAddr,h1,loadVar,iO (Z ty τ hτ),hA,ab,hz,loadCells,loadCellsFrom]
     ·simp only[gP,hA,if_true,List.take_nil,VP]at U;subst U;exact aS (.agg [] [] rfl (fun j x hj=>by simp at hj) (fun x hx=>by simp at hx))
    ·obtain⟨b,c,rfl,g3⟩:=h2 Y;exact lU Z X ho hτ h1 (At.take g3 _) (by simp;omega) U
   ·cases O
  ·cases O
 | _=>simp[ch]at O
theorem rz {h:Nat->Option Row} {x v:Nat} {r:Row} {y s n:Nat} (O:iL h x v=some (r,y,s,n)):h x=some r∧r.v=v∧r.mp=true∧r.cells=[.ph y s n]:=by
 unfold iL at O;split at O
 ·rename_i r' Y;split at O
  ·rename_i X;split at O
   ·rename_i y' Z n' U;simp only[VP,Prod.mk.injEq]at O;obtain⟨rfl,rfl,rfl,rfl⟩:=O;exact⟨Y,X.1,X.2,U⟩
   ·cases O
  ·cases O
 ·cases O
theorem N5 (hT:fb P T) (hI:Inv N M L w0 blk V t h a w) {ty:Nat} {p:Operand} {τ:Ty} {x v y:Nat} {E:aR} (ho:o.op=.load ty p) (hτ:T ty=some τ) (hp:RT w (Own M h blk) h blk V (.pm x v y) (a.eval p)) (X:kY τ h x v y (iL h x v)=some E):db P o a w (aJ N M L w0 V t h a e o.dst E):=by
 cases hl:iL h x v with
 | none=>rw[hl]at X;cases X
 | some q =>
  obtain⟨ry,y',s,n⟩:=q;rw[hl]at X;simp only[kY]at X;obtain⟨hx,hv,ad,ae⟩:=rz hl;split at X
  ·rename_i r hy;split at X
   ·rename_i Z;obtain⟨rfl,c2,c3,c4,c5,c6⟩:=Z;simp only[VP]at X;subst X;obtain⟨g,hg,aa⟩:=hp.2 ry hx hv;obtain⟨_,u,h1,h2⟩:=hI.pha x ry g hx ad hg 0 _ _ _ (by rw[ae];rfl);have Y:=gL (hT ty τ hτ) w g.1 (g.2+0) [u] (by simpa using c6.symm) (fun j v O=>by
     cases j with
     | zero=>simp only[List.getElem?_cons_zero,VP]at O;subst O;simpa using h1
     | succ j=>simp at O) (fun _=>rfl)
    have U:=hI.dB [y'];have hk:∀b,b<w.heap.size->¬Own M h blk b->b<w.heap.size∧¬Own M (ay h (fB h [y'])) blk b∧w.heap[b]? = w.heap[b]?:=fun b h1 h2=>⟨h1,fun hb=>h2 (U.le b hb),rfl⟩;have ab:RP w (Own M (ay h (fB h [y'])) blk) (.sl false false n r.cells) u:=by
     rcases h2 r hy with⟨g',c,N',ah,g0,rfl,g2,g3,g4,g5⟩|⟨g0,rfl,A,rfl⟩
     ·obtain⟨arr,k1,k2,k3⟩:=hI.xQ hy g0 c3;refine .sl (some ⟨g'.1,g'.2,none⟩) c false false n _ (fun j=>arr.getD (g'.2+j) undef) g3 g4 (fun h=>by cases h) (fun h=>by cases h) (fun h=>by cases h) (fun _=>⟨g'.1,g'.2,rfl,hI.lt hy g0,U.no y' (by simp) r g' hy g0,fun j O=>aL k1 (by omega)⟩) (fun j d O=>(k3 j d O).2.keep hk) (fun d hd =>?_);obtain⟨j,O⟩:=V2 hd;exact (k3 j d O).1
     ·have:=(hI.rows y' r hy).2;rw[g0]at this;have hc:r.cells=[]:=this;rw[hc];exact .sl A 0 false false 0 [] (fun _=>undef) (VG _) (VH _) (fun h=>by cases h) (fun _=>⟨rfl,rfl⟩) (fun h=>by cases h) (fun h=>absurd rfl h) (fun j d O=>by simp at O) (fun d hd=>by simp at hd)
    simp only[Nat.add_zero]at Y aa;refine av (v:=if τ.ds.ko then .agg [u].toArray else [u].getD 0 undef) (w':=w) ?_ (aJ.CY hI [y'] ?_)
    ·simp[execOp,ho,Instr.loadAt,Instr.sureAddr,aa,Y]
    ·cases hA:τ.ds.ko with
     | false=>exact ab
     | true =>
      refine .agg [_] [u] rfl (fun j d O =>?_) (fun d hd =>?_)
      ·cases j with
       | zero=>simp only[List.getElem?_cons_zero,VP]at O;subst O;exact ab
       | succ j=>simp at O
      ·simp only[V3]at hd;subst hd;rfl
   ·cases X
  ·cases X
theorem Qu (hT:fb P T) (hI:Inv N M L w0 blk V t h a w) {ty:Nat} {p:Operand} {τ:Ty} {E:aR} (ho:o.op=.load ty p) (hτ:T ty=some τ) (O:jV τ h (ev t p)=some E):db P o a w (aJ N M L w0 V t h a e o.dst E):=by
 have hp:=hI.ev p;have hold:=LZ (P:=P) (o:=o) (e:=e) (E:=E) hT hI ho hτ;generalize ev t p=q at *;cases q with
 | ptr x v c =>
  simp only[jV]at O;cases hl:live h x v with
  | none=>rw[hl]at O;cases O
  | some r =>
   rw[hl]at O;simp only[kZ]at O;split at O
   ·rename_i Y;simp only[Wh,Wi]at Y;split at O
    ·rename_i hle;split at O
     ·rename_i d aa;simp only[VP]at O;subst O;obtain⟨hx,hv⟩:=bg hl;obtain⟨g,hg,X⟩:=hp.2 r hx hv;exact CM hT hI ho hτ X hx (eG hl) Y.1 Y.2 hg hle aa
     ·exact hold O
    ·cases O
   ·exact hold O
 | pm x v y =>
  simp only[jV]at O;split at O
  ·rename_i r hl;split at O
   ·rename_i y' v' ab;split at O
    ·rename_i Z;obtain⟨c1,c2,c3,c4⟩:=Z;simp only[VP]at O;subst O;obtain⟨hx,hv⟩:=bg hl;obtain⟨g,hg,X⟩:=hp.2 r hx hv;obtain⟨u,h1,h2⟩:=hI.ali x r g hx c1 c2 hg 0 (.alm y' v') (.mp y' v') (by rw[ab];rfl) rfl;have U:=gL (hT ty τ hτ) w g.1 (g.2+0) [u] (by simpa using c3.symm) (fun j v hj=>by
      cases j with
      | zero=>simp only[List.getElem?_cons_zero,VP]at hj;subst hj;simpa using h1
      | succ j=>simp at hj) (fun _=>rfl)
     refine av (v:=u) (w':=w) ?_ (aJ.ct hI h2);rw[c4]at U;simp only[Nat.add_zero]at U X;simp[execOp,ho,Instr.loadAt,Instr.sureAddr,X,U]
    ·cases O
   ·cases O
  ·exact N5 hT hI ho hτ hp O
 | _=>exact hold O
theorem ma (cur:Array Value) (us:List Value) (c j:Nat) (hle:c+us.length<=cur.size) :
  (cur.toList.take c++us++cur.toList.drop (c+us.length)).toArray.getD j undef=if j<c then cur.getD j undef else if j<c+us.length then us.getD (j-c) undef else cur.getD j undef:=by
 have O:min c cur.size=c:=by omega
 simp only[VL,List.getElem?_toArray,Wj]
 by_cases h1:j<c
 ·rw[if_pos h1,Wk (by simp;omega),Wk (by simp;omega),VW,if_pos h1];simp
 ·rw[if_neg h1]
  by_cases h2:j<c+us.length
  ·rw[if_pos h2,Wk (by simp;omega),Wl (by simp;omega)];simp[O]
  ·rw[if_neg h2,Wl (by simp;omega),VX];have:c+us.length+(j-(List.take c cur.toList++us).length)=j:=by simp;omega
   rw[this];simp
theorem iM {cells cs:List D} {c j:Nat} (hle:c+cs.length<=cells.length):(putCells cells c cs)[j]? = if j<c then cells[j]? else if j<c+cs.length then cs[j-c]? else cells[j]?:=by
 have O:min c cells.length=c:=by omega
 unfold putCells
 by_cases h1:j<c
 ·rw[if_pos h1,Wk (by simp;omega),Wk (by simp;omega),VW,if_pos h1]
 ·rw[if_neg h1]
  by_cases h2:j<c+cs.length
  ·rw[if_pos h2,Wk (by simp;omega),Wl (by simp;omega)];simp[O]
  ·rw[if_neg h2,Wl (by simp;omega),VX];congr 1;simp;omega
theorem fE {cells cs:List D} {c:Nat} (hle:c+cs.length<=cells.length):(putCells cells c cs).length=cells.length:=by
 simp[putCells];omega
theorem spliced {w:World} {M:Nat->Prop} {cells cs:List D} {cur:Array Value} {us:List Value} {b c:Nat} (hle:c+cs.length<=cells.length) (U:us.length=cs.length) (X:b+cells.length<=cur.size)
  (h5:∀j d,cells[j]? = some d->aF d=true∧RP w M d (cur.getD (b+j) undef)) (Y:∀j d,cs[j]? = some d->aF d=true∧RP w M d (us.getD j undef)) (j:Nat) (d:D) (O:(putCells cells c cs)[j]? = some d) :
  aF d=true∧RP w M d ((cur.toList.take (b+c)++us++cur.toList.drop (b+c+us.length)).toArray.getD (b+j) undef):=by
 rw[iM hle]at O;rw[ma _ _ _ _ (by omega),U];split
 ·rename_i h1;rw[if_pos (by omega)]at O;exact h5 j d O
 ·rename_i h1;rw[if_neg (by omega)]at O;split
  ·rename_i h2;rw[if_pos (by omega)]at O;have:b+j-(b+c)=j-c:=by omega
   rw[this];exact Y _ d O
  ·rename_i h2;rw[if_neg (by omega)]at O;exact h5 j d O
theorem xO (b:Bool) (cs:List D):(l3 b cs).length=cs.length:=by cases b<;>simp[l3]
theorem IW {w:World} {M:Nat->Prop} {cs:List D} {us:List Value} {b:Bool} (U:∀j d,cs[j]? = some d->aF d=true∧RP w M d (us.getD j undef)) (j:Nat) (d:D) (O:(l3 b cs)[j]? = some d):aF d=true∧RP w M d (us.getD j undef):=by
 cases b with
 | false=>exact U j d O
 | true =>
  simp only[l3,if_true,VC,VD]at O;obtain⟨x,X,rfl⟩:=O;obtain⟨Y,Z⟩:=U j x X;exact⟨by rw[jj];exact Y,Z.canon⟩
theorem Ii (hT:fb P T) (Z:Inv N M L w0 blk V t h a w) {ty:Nat} {p x:Operand} {τ:Ty} {E:aR} (ho:o.op=.store ty p x) (hτ:T ty=some τ) (O:bQ τ h (ev t p) (ev t x)=some E):db P o a w (aJ N M L w0 V t h a e o.dst E):=by
 have hp:=Z.ev p;have hq:=Z.ev x;generalize ev t p=q at *;generalize ev t x=z at *;cases q with
 | ptr y v c =>
  simp only[bQ]at O;split at O
  ·rename_i r hl;split at O
   ·rename_i cs fr hc;split at O
    ·rename_i X;obtain⟨c1,c2,c3,c4⟩:=X;simp only[VP]at O;subst O;obtain⟨hx,hv⟩:=bg hl;obtain⟨g,hg,ad⟩:=hp.2 r hx hv;have aa:ay h (fB h fr) y=some r:=by rw[tq c4];exact hx
     have ab:=Z.freeze fr;obtain⟨u1,u2⟩:=Z.cT hc (Z.dB fr) hq;obtain⟨cur,h3,h4,h5⟩:=ab.xQ aa hg (eG hl);have U:=run_storeCells_at P g.1 (g.2+c) r.ty (a.eval x).cells.toList 0 cur w h3 (by simp only[Array.length_toList];omega) (fun v hv=>by
      obtain⟨j,Y⟩:=V2 hv;have ae:=(V9.1 Y).1;simp only[Array.length_toList]at ae;obtain⟨q1,q2⟩:=u2 j _ (VT (by omega));have:(a.eval x).cells.getD j undef=v:=by simp at Y;simp[Y]
      rw[this]at q2;exact q2.nH q1)
     rw[Wf]at U;have ai:(a.eval x).cells.toList.length=cs.length:=by simp only[Array.length_toList];exact u1
     have hlen:(cur.toList.take (g.2+c)++(a.eval x).cells.toList++cur.toList.drop (g.2+c+(a.eval x).cells.toList.length)).toArray.size=cur.size:=by
      simp;omega
     have aj:=xO r.lst cs;have hw:=ab.write aa c3 hg (eG hl) (cs:=putCells r.cells c (l3 r.lst cs)) h3 hlen (by rw[hlen,fE (by omega)];exact h4)
      (fun j d Y=>spliced (by omega) (by omega) h4 h5 (IW (fun j d Y=>by simpa [List.getD] using u2 j d Y)) j d Y)
     refine .inr (.inl ⟨w.setRow g.1 (cur.toList.take (g.2+c)++(a.eval x).cells.toList++cur.toList.drop (g.2+c+(a.eval x).cells.toList.length)).toArray,?_,blk,?_,trivial⟩)
     ·have ah:(a.eval x).cells.size=τ.size:=by omega
      simp[execOp,ho,Instr.storeAt,Instr.sureAddr,ad,storeVar,run_sizeOf (hT ty τ hτ),ah,U]
     ·rw[ef];exact hw.weaken fun _ _ h =>.inl h
    ·cases O
   ·cases O
  ·cases O
 | _=>simp[bQ]at O
theorem AJ (hT:fb P T) (hI:Inv N M L w0 blk V t h a w) {ty:Nat} {p x:Operand} {τ:Ty} {y:Nat} {r:Row} {g:Nat×Nat} {c d:D} {u':Value} (ho:o.op=.store ty p x) (hτ:T ty=some τ) (c1:τ.size=1) (c3:r.cells.length=1) (c4:r.fz=false) (ae:r.mp=false)
  (hx:h y=some r) (hg:blk y=some g) (ah:a.eval p=.pointer (some ⟨g.1,g.2+0,none⟩)) (hu:(a.eval x).cells = #[u']) (aa:u'.oneCell'=true) (hc:Un c=some d) (ai:aF c=true) (aj:∀w' M',RP w' M' c u') (ak:RT w (Own M h blk) h blk V d u') :
  db P o a w (aJ N M L w0 V t h a e o.dst ⟨.und,[(y,some ⟨r.v,r.ty,[c],true,false,false⟩)]⟩):=by
 obtain⟨cur,h3,h4,h5⟩:=hI.xQ hx hg ae;have O:=run_storeCells_at P g.1 (g.2+0) r.ty [u'] 0 cur w h3 (by simp;omega) (fun v hv=>by
  simp only[V3]at hv;subst hv;exact aa)
 rw[Wf]at O;have U:cur.size=(cur.toList.take (g.2+0)++[u']++cur.toList.drop (g.2+0+[u'].length)).toArray.size:=by simp;omega
 have Y:(cur.toList.take (g.2+0)++[u']++cur.toList.drop (g.2+0+[u'].length)).toArray.getD g.2 undef=u':=by
  simp only[VL];have:(cur.toList.take g.2).length=g.2:=by simp;omega
  simp[Wn,this]
 generalize an:(cur.toList.take (g.2+0)++[u']++cur.toList.drop (g.2+0+[u'].length)).toArray=nv at O U Y;have X:(w.setRow g.1 nv).heap[g.1]? = some (.cells nv r.ty (0,0)):=setRow_heap w g.1 cur nv r.ty (0,0) h3;have al:(w.setRow g.1 nv).heap.size=w.heap.size:=by simp[World.setRow]
 have hheap:∀b,b≠g.1->(w.setRow g.1 nv).heap[b]? = w.heap[b]?:=by
  intro b hb;simp only[World.setRow,VQ];rw[if_neg (Ne.symm hb)]
 have hw:=hI.rewrite (fz:=true) (lst:=false) (cs:=[c]) (w':=w.setRow g.1 nv) hx c4 rfl rfl rfl (by rw[al];exact VG _) (fun b _ hb=>hheap b (hb g hg)) (by
  rw[hg];refine⟨by simp[World.shape?,X,h3,U],nv,X,by simp;omega,fun j d Z =>?_⟩;cases j with
  | zero =>
   simp only[List.getElem?_cons_zero,VP]at Z;subst Z;rw[Wf,Y];exact⟨ai,aj _ _⟩
  | succ j=>simp at Z) (fun _ _ g' ab j c' d' Z ad=>by
  rw[hg]at ab;cases ab;cases j with
  | zero =>
   simp only[List.getElem?_cons_zero,VP]at Z;subst Z;rw[hc]at ad;cases ad;refine⟨u',?_,ak⟩;rw[Wf,aL X (by omega),Y]
  | succ j=>simp at Z)
 refine .inr (.inl ⟨w.setRow g.1 nv,?_,blk,?_,trivial⟩)
 ·simp[execOp,ho,Instr.storeAt,Instr.sureAddr,ah,storeVar,run_sizeOf (hT ty τ hτ),c1,hu,O]
 ·exact hw.weaken fun _ _ h =>.inl h
theorem L1 (hT:fb P T) (hI:Inv N M L w0 blk V t h a w) (hP:∀x v,V x v->x<N∨2*PK<=x) {ty:Nat} {p x:Operand} {τ:Ty} {y O s1 n1:Nat} {r q:Row} {g:Nat×Nat} {u':Value} (ho:o.op=.store ty p x) (hτ:T ty=some τ) (c1:τ.size=1) (c3:r.cells.length=1) (c4:r.fz=false) (ak:r.mp=false)
  (hx:h y=some r) (ax:y<N) (hg:blk y=some g) (ay:a.eval p=.pointer (some ⟨g.1,g.2+0,none⟩)) (hu:(a.eval x).cells = #[u']) (an:u'.oneCell'=true) (ad:h O=some q) (ao:q.fz=false) (aI:q.lst=true) (az:q.mp=false) (aq:y≠O)
  (X:(∃g' o' c N' t,blk O=some g'∧u'=.slice (some ⟨g'.1,o',none⟩) n1 c∧(0<c∨0=0->o'=g'.2+0∧c*s1+o'=N')∧n1<=c∧c<=maxLen∧w.shape? g'.1=some (t,N'))∨(blk O=none∧n1=0∧∃A,u'=.slice A 0 0)) :
  db P o a w (aJ N M L w0 V t h a e o.dst ⟨.und,[(O,none),(PK+y,some ⟨0,q.ty,q.cells,false,true,false⟩),(y,some ⟨r.v,r.ty,[.ph (PK+y) s1 n1],false,false,true⟩)]⟩):=by
 obtain⟨cur,h3,h4,h5⟩:=hI.xQ hx hg ak;have Y:=run_storeCells_at P g.1 (g.2+0) r.ty [u'] 0 cur w h3 (by simp;omega) (fun v hv=>by
  simp only[V3]at hv;subst hv;exact an)
 rw[Wf]at Y;have Z:cur.size=(cur.toList.take (g.2+0)++[u']++cur.toList.drop (g.2+0+[u'].length)).toArray.size:=by simp;omega
 have ar:(cur.toList.take (g.2+0)++[u']++cur.toList.drop (g.2+0+[u'].length)).toArray.getD g.2 undef=u':=by
  simp only[VL];have:(cur.toList.take g.2).length=g.2:=by simp;omega
  simp[Wn,this]
 generalize aK:(cur.toList.take (g.2+0)++[u']++cur.toList.drop (g.2+0+[u'].length)).toArray=nv at Y Z ar;have aa:(w.setRow g.1 nv).heap[g.1]? = some (.cells nv r.ty (0,0)):=setRow_heap w g.1 cur nv r.ty (0,0) h3;have aA:(w.setRow g.1 nv).heap.size=w.heap.size:=by simp[World.setRow]
 have hheap:∀b,b≠g.1->(w.setRow g.1 nv).heap[b]? = w.heap[b]?:=by
  intro b U;simp only[World.setRow,VQ];rw[if_neg (Ne.symm U)]
 have aH:=hI.big;have aM:PK=1000000:=rfl;have au:y≠PK+y:=by omega
 have aB:∀v,¬V (PK+y) v:=fun v hv=>by have:=hP _ _ hv;omega
 have ab:=(hI.rows O q ad).2;have ae:∀b,Own M (forget h (some O)) blk b->Own M h blk b:=fun b U=>by
  rcases U with U|⟨z,r',g',hz,aC,aD,aE⟩
  ·exact .inl U
  ·simp only[forget]at hz
   by_cases av:z=O
   ·subst av;rw[aj]at hz;cases hz
   ·rw[al _ _ av]at hz;exact .inr ⟨z,r',g',hz,aC,aD,aE⟩
 have hA:=hI.Ni (w':=w) (h1:=forget h (some O)) (old:=some O) (d:=PK+y) (r0:=⟨0,q.ty,q.cells,false,true,false⟩) (go:=blk O) (y0:=y) rfl rfl rfl (VG _) (fun _ _ _=>rfl) (fun y' aF=>by cases aF;exact⟨q,ad,ao⟩) rfl rfl ax aB
  (fun r' ah=>by
   simp only[forget]at ah;rw[al _ _ aq,hx]at ah;cases ah;exact ak) (by
  cases U:blk O with
  | none=>rw[U]at ab;exact ab
  | some g' =>
   obtain⟨arr,k1,k2,k3⟩:=hI.xQ ad U az;refine⟨.inr ⟨O,g',rfl,U,rfl⟩,arr,k1,k2,fun j d hj=>⟨(k3 j d hj).1,(k3 j d hj).2.keep fun b q1 q2=>⟨q1,?_,rfl⟩⟩⟩;rintro (hn|rfl)
   ·exact q2 (ae b hn)
   ·exact q2 (.inr ⟨O,q,g',ad,ao,U,rfl⟩)) rfl
 have aG:bj (forget h (some O)) (PK+y) (some (⟨0,q.ty,q.cells,false,true,false⟩:Row)) y=some r:=by
  rw[al _ _ au];simp only[forget];rw[al _ _ aq,hx]
 have ai:bj blk (PK+y) (blk O) y=some g:=by rw[al _ _ au,hg]
 have hB:=hA.gY (r0:=⟨r.v,r.ty,[.ph (PK+y) s1 n1],false,false,true⟩) (w':=w.setRow g.1 nv) aG c4 rfl rfl rfl rfl (by rw[aA];exact VG _) (fun b _ U=>hheap b (U g ai)) (by
  rw[ai];refine⟨by simp[World.shape?,aa,h3,Z],.inr ⟨fun d hd=>by simp only[V3]at hd;subst hd;rfl,nv,aa,by simp;omega,fun j d hj =>?_⟩⟩;cases j with
  | zero=>simp only[List.getElem?_cons_zero,VP]at hj;subst hj;trivial
  | succ j=>simp at hj) (fun h=>by cases h) (fun _ g' aw j x' s n hc=>by
  rw[ai]at aw;cases aw;cases j with
  | succ j=>simp at hc
  | zero =>
  simp only[List.getElem?_cons_zero,VP,D.ph.injEq]at hc;obtain⟨rfl,rfl,rfl⟩:=hc;refine⟨⟨by omega,.inl rfl⟩,u',by rw[Wf,aL aa (by omega),ar],fun r' _ =>?_⟩;rw[aj];rcases X with⟨g',o',c,N',t,k0,k1,k2,k3,k4,k5⟩|X
  ·obtain⟨k6,k7⟩:=k2 (.inr rfl);rw[Wf]at k6;subst k6;exact .inl ⟨g',c,N',t,k0,k1,k7,k3,k4,k5⟩
  ·exact .inr X)
 refine .inr (.inl ⟨w.setRow g.1 nv,?_,bj blk (PK+y) (blk O),?_,trivial⟩)
 ·simp[execOp,ho,Instr.storeAt,Instr.sureAddr,ay,storeVar,run_sizeOf (hT ty τ hτ),c1,hu,Y]
 ·exact hB.weaken fun _ _ h =>.inl h
theorem Ob (hT:fb P T) (hI:Inv N M L w0 blk V t h a w) (hP:∀x v,V x v->x<N∨2*PK<=x) {ty:Nat} {p x:Operand} {τ:Ty} {E:aR} (ho:o.op=.store ty p x) (hτ:T ty=some τ) (O:bW τ h (ev t p) (ev t x)=some E):db P o a w (aJ N M L w0 V t h a e o.dst E):=by
 have hp:=hI.ev p;have hq:=hI.ev x;have hold:=Ii (P:=P) (o:=o) (e:=e) (E:=E) hT hI ho hτ;generalize ev t p=q at *;generalize ev t x=z at *;cases z with
 | box1 x1 v1 s1 o1 n1 =>
  cases q with
  | ptr y v c =>
   simp only[bW]at O;split at O
   ·rename_i r Z;split at O
    ·rename_i U;obtain⟨c1,rfl,c3,c4,c5⟩:=U;simp only[VP]at O;subst O;obtain⟨hx,hv⟩:=bg Z;obtain⟨g,hg,Y⟩:=hp.2 r hx hv;obtain⟨u',hu,X,aa⟩:=hq;exact AJ hT hI ho hτ c1 c3 c4 (eG Z) hx hg Y (by rw[hu];rfl) X rfl rfl (fun _ _ =>.ali _ _ _ _ _ _ X) (show RT w (Own M h blk) h blk V (.buf x1 v1 s1 o1 n1) u' from aa)
    ·cases O
   ·cases O
  | pm y v k =>
   simp only[bW]at O;split at O
   ·rename_i r q Z ab;split at O
    ·rename_i U;obtain⟨c1,rfl,c3,c4,c5,c6,c7,c8,c9,rfl,ah⟩:=U;simp only[VP]at O;subst O;obtain⟨hx,hv⟩:=bg Z;obtain⟨ad,ae⟩:=bg ab;obtain⟨g,hg,Y⟩:=hp.2 r hx hv;obtain⟨u',hu,X,aa⟩:=hq;exact L1 hT hI hP ho hτ c1 c3 c4 (eG Z) hx (by have:=hP _ _ hp.1;omega) hg Y (by rw[hu];rfl) X ad c6 c7 (eG ab) c9 (aa.2 q ad ae)
    ·cases O
   ·cases O
  | _=>simp[bW]at O
 | mp y1 v1 =>
  cases q with
  | pm y v c =>
   simp only[bW]at O;split at O
   ·rename_i r Z;split at O
    ·rename_i U;obtain⟨c1,c2,c3,c4,c5,c6⟩:=U;subst c2;simp only[VP]at O;subst O;obtain⟨hx,hv⟩:=bg Z;obtain⟨g,hg,Y⟩:=hp.2 r hx hv;obtain⟨⟨ks,vs⟩,hm⟩:=Option.isSome_iff_exists.1 c6;obtain⟨g2,_,_,_,_,_,_,hu,_⟩:=hI.KM hm hq;exact AJ hT hI ho hτ c1 c3 c4 (eG Z) hx hg Y (by rw[hu];rfl) rfl rfl rfl (fun _ _ =>.alm _ _ _ rfl) (by rw[<- hu];exact hq)
    ·cases O
   ·cases O
  | _=>simp[bW]at O
 | _=>exact hold O
end
section
variable {P:Program} {T:Nat->Option Ty} {N:Nat} {M:Nat->Prop} {L:fV} {w0:World} {blk:Nat->Option (Nat×Nat)} {V:Nat->Nat->Prop} {t:Nat->D} {h:Nat->Option Row} {a:Act} {w:World} {e:Nat} {o:Oper} {Γ:Env}
theorem eD {d:TypeDesc} {fs:List (Nat×Nat)} (h:conv d=.struct fs):∃F,d=.struct F∧(F.toList.map fun f=>(f.type,f.offset))=fs:=by
 cases d<;>simp[conv]at h;exact⟨_,rfl,h⟩
theorem dJ {d:TypeDesc} {e:Nat} (h:conv d=.slice e):d=.slice e:=by
 cases d<;>simp[conv]at h;rw[h]
theorem rX {d:TypeDesc} {n e:Nat} (h:conv d=.arr n e):d=.array n e:=by
 cases d<;>simp[conv]at h;rw[h.1,h.2]
theorem mE {d:TypeDesc} (h:conv d=.str):d=.string:=by
 cases d<;>simp[conv]at h;rfl
theorem pY {d:TypeDesc} (h:conv d=.bool):d=.bool:=by
 cases d<;>simp[conv]at h;rfl
theorem rY {d:TypeDesc} {k:IntKind} (h:conv d=.int k):d=.int k:=by
 cases d<;>simp[conv]at h;rw[h]
theorem under (O:fb P T) {ty:Nat} {τ:Ty} (U:T ty=some τ):∃d,P.underlying ty=some d∧conv d=τ.ds:=by
 obtain⟨d,i,z,h1,h2,_⟩:=(O ty τ U).get;exact⟨d,h1,h2⟩
theorem E8 {F:Array Field} {fs:List (Nat×Nat)} (Y:(F.toList.map fun f=>(f.type,f.offset))=fs) {i U off:Nat} (O:fs[i]? = some (U,off)):∃f,F[i]? = some f∧f.type=U∧f.offset=off:=by
 rw[<- Y,VC]at O;cases X:F[i]? with
 | none=>simp[X]at O
 | some f=>simp[X]at O;exact⟨f,rfl,O.1,O.2⟩
theorem RP.KA {M':Nat->Prop} {xs:List D} {ad:Addr} {us:Nat->Value} (k:Nat) (h6:xs≠[]->∃b o,ad=⟨b,o,none⟩∧b<w.heap.size∧¬M' b∧∀j,j<xs.length->w.cell? ⟨b,o+j,none⟩=some (us j))
  (h7:∀j x,xs[j]? = some x->RP w M' x (us j)) (h8:∀x∈xs,aF x=true):RP w M' (.ip (xs.drop k)) (.pointer (some (ad.add k))):=by
 refine .ip _ _ (fun j=>us (k+j)) (fun X =>?_) (fun j x U =>?_) (fun x Y=>h8 x (Wo Y))
 ·have O:xs≠[]:=by rintro rfl;simp at X
  obtain⟨b,o,rfl,g1,g2,g3⟩:=h6 O;refine⟨b,o+k,kO _ _ _,g1,g2,fun j U =>?_⟩;rw[V0]at U;rw[V1];exact g3 (k+j) (by omega)
 ·rw[VX]at U;exact h7 _ _ U
theorem N8 (Y:Inv N M L w0 blk V t h a w) {x:Operand} {E:aR} (ho:o.op=.nilCheck x) (O:gh h (ev t x)=some E):db P o a w (aJ N M L w0 V t h a e o.dst E):=by
 have X:=Y.ev x;generalize hq:ev t x=q at *;cases q with
 | ptr y v c =>
  simp only[gh]at O;split at O
  ·rename_i r hl;simp only[VP]at O;subst O;obtain⟨hx,hv⟩:=lu hl;obtain⟨g,hg,U⟩:=X.2 r hx hv;refine av (v := .pointer (some ⟨g.1,g.2+c,none⟩)) (w':=w) ?_ (aJ.ct Y ?_)
   ·simp[execOp,ho,U]
   ·rw[<- U];exact X
  ·cases O
 | ip xs =>
  simp only[gh,VP]at O;subst O;have Z:=X;obtain⟨ad,h1,_⟩:=RP.Tf (M':=Own M h blk) X;refine av (v := .pointer (some ad)) (w':=w) ?_ (aJ.ct Y ?_)
  ·simp[execOp,ho,h1]
  ·rw[<- h1];exact Z
 | _=>simp[gh]at O
theorem wZ (hT:fb P T) (hI:Inv N M L w0 blk V t h a w) {x:Operand} {ty i:Nat} {τ:Ty} {E:aR} (ho:o.op=.fieldAddr ty x i) (hτ:T ty=some τ) (O:cw T τ h i (ev t x)=some E) :
  db P o a w (aJ N M L w0 V t h a e o.dst E):=by
 have hp:=hI.ev x;have run:∀(ad:Addr) (fs:List (Nat×Nat)) (Y off:Nat) (φ:Ty),τ.ds=.struct fs->fs[i]? = some (Y,off)->T Y=some φ->φ.size≠0->a.eval x=.pointer (some ad) ->
   (execOp a.eval o).run P w=.ok (.value (.pointer (some (ad.add off)))) w:=by
  intro ad fs Y off φ U Z hφ hz hv;obtain⟨d,hd,hc⟩:=under hT hτ;rw[U]at hc;obtain⟨F,rfl,hF⟩:=eD hc;obtain⟨f,hf,rfl,rfl⟩:=E8 hF Z;have aa:=run_sizeOf (P:=P) (hT _ _ hφ) w;simp[execOp,ho,Instr.fieldAt,run_underlying hd,hf,hv,Instr.sureAddr,fieldPlace,aa,hz]
 generalize hq:ev t x=q at *;cases q with
 | ptr y v c =>
  simp only[cw]at O;split at O
  ·rename_i r fs hl U;split at O
   ·rename_i Y off Z;split at O
    ·rename_i φ hφ;split at O
     ·cases O
     ·rename_i hz;simp only[VP]at O;subst O;obtain⟨hx,hv⟩:=lu hl;obtain⟨g,hg,X⟩:=hp.2 r hx hv;refine av (run _ fs Y off φ U Z hφ hz X) (aJ.ct hI ⟨hp.1,fun r' h1 h2=>⟨g,hg,by rw[kO,V1]⟩⟩)
    ·cases O
   ·cases O
  ·cases O
 | pm y v k =>
  simp only[cw]at O;split at O
  ·rename_i q fs hl U;split at O
   ·rename_i Y Z;split at O
    ·rename_i φ hφ;split at O
     ·cases O
     ·rename_i hz;simp only[VP]at O;subst O;obtain⟨ry,y',s,n⟩:=q;obtain⟨hx,hv,_,_⟩:=rz hl;obtain⟨g,hg,X⟩:=hp.2 ry hx hv;refine av (run _ fs Y 0 φ U Z hφ hz X) (aJ.ct hI ⟨hp.1,fun r' h1 h2=>⟨g,hg,by rw[kO,Wf]⟩⟩)
    ·cases O
   ·cases O
  ·cases O
 | ip xs =>
  simp only[cw]at O;split at O
  ·rename_i fs U;split at O
   ·rename_i Y off Z;split at O
    ·rename_i φ hφ;split at O
     ·cases O
     ·rename_i hz;simp only[VP]at O;subst O;have X:RP w (Own M h blk) (.ip xs) (a.eval x):=hp;generalize hu:a.eval x=u at *;cases X with
      | ip xs ad us h6 h7 h8=>exact av (run _ fs Y off φ U Z hφ hz rfl) (aJ.ct hI (aS (RP.KA off h6 h7 h8)))
    ·cases O
   ·cases O
  ·cases O
 | _=>simp[cw]at O
theorem oe (Y:fb P T) {x Z:Operand} {ty el n c:Nat} {τ φ:Ty} {k:IntKind} {i:Int} {ad:Addr} (ho:o.op=.indexAddr ty x Z) (hτ:T ty=some τ) (O:τ.ds=.slice el) (hφ:T el=some φ)
  (hi:0<=i∧i<n) (hx:a.eval x=.slice (some ad) n c) (U:a.eval Z=.int k i):(execOp a.eval o).run P w=.ok (.value (.pointer (some (ad.add (i.toNat*φ.size))))) w:=by
 obtain⟨d,hd,hc⟩:=under Y hτ;rw[O]at hc;have:=dJ hc;subst this;have X:=run_sizeOf (P:=P) (Y _ _ hφ) w;simp only[execOp,ho,Instr.indexAt,hx,U,asIntOf,Wd,Sem.run_pure,Result.andThen_ok,run_underlying hd];rw[if_pos hi];simp[X]
theorem vE (Y:fb P T) {x Z:Operand} {ty el n:Nat} {τ φ:Ty} {k:IntKind} {i:Int} {ad:Addr} (ho:o.op=.indexAddr ty x Z) (hτ:T ty=some τ) (O:τ.ds=.arr n el) (hφ:T el=some φ)
  (hi:0<=i∧i<n) (hx:a.eval x=.pointer (some ad)) (U:a.eval Z=.int k i):(execOp a.eval o).run P w=.ok (.value (.pointer (some (ad.add (i.toNat*φ.size))))) w:=by
 obtain⟨d,hd,hc⟩:=under Y hτ;rw[O]at hc;have:=rX hc;subst this;have X:=run_sizeOf (P:=P) (Y _ _ hφ) w;simp only[execOp,ho,Instr.indexAt,hx,U,asIntOf,Wd,Sem.run_pure,Result.andThen_ok,run_underlying hd,Instr.sureAddr];rw[if_pos hi];simp[X]
theorem w1 (hT:fb P T) (hI:Inv N M L w0 blk V t h a w) {x ix:Operand} {ty:Nat} {τ:Ty} {E:aR} (ho:o.op=.indexAddr ty x ix) (hτ:T ty=some τ) (O:aU T τ h (ev t x) (ev t ix)=some E) :
  db P o a w (aJ N M L w0 V t h a e o.dst E):=by
 have hp:=hI.ev x;have aa:=hI.ev ix;generalize ev t x=q at *;generalize ev t ix=z at *;cases z with
 | int k i =>
  have X:=iW aa;cases q with
  | sl nl tight n xs =>
   simp only[aU]at O;split at O
   ·rename_i el U;split at O
    ·rename_i φ hφ;split at O
     ·rename_i Y;simp only[VP]at O;subst O;have Z:RP w (Own M h blk) (.sl nl tight n xs) (a.eval x):=hp;generalize hu:a.eval x=u at *;cases Z with
      | sl A c nl tight n xs us h1 h2 h3 h4 h5 h6 h7 h8 =>
       cases A with
       | none=>have:=(h4 rfl).1;omega
       | some ad=>exact av (oe hT ho hτ U hφ Y hu X) (aJ.ct hI (aS (RP.KA _ (fun ab=>by
         obtain⟨b,o,hA,rest⟩:=h6 ab;cases hA;exact⟨b,o,rfl,rest⟩) h7 h8)))
     ·cases O
    ·cases O
   ·cases O
  | buf y v s c n =>
   simp only[aU]at O;split at O
   ·rename_i r el hl U;split at O
    ·rename_i φ hφ;split at O
     ·rename_i Y;obtain⟨hs,Y⟩:=Y;simp only[VP]at O;subst O;obtain⟨hx,hv⟩:=lu hl;rcases hp.2 r hx hv with⟨g,o',c',N',t',g0,g1,g2,g3,_⟩|⟨_,h0,_⟩
      ·have ae:=(g2 (.inl (by omega))).1;subst ae;exact av (oe hT ho hτ U hφ Y g1 X) (aJ.ct hI ⟨hp.1,fun r' h1 h2=>⟨g,g0,by rw[kO,hs,V1]⟩⟩)
      ·omega
     ·cases O
    ·cases O
   ·cases O
  | ptr y v c =>
   simp only[aU]at O;split at O
   ·rename_i r n el hl U;split at O
    ·rename_i φ hφ;split at O
     ·rename_i Y;simp only[VP]at O;subst O;obtain⟨hx,hv⟩:=bg hl;obtain⟨g,hg,Z⟩:=hp.2 r hx hv;exact av (vE hT ho hτ U hφ Y Z X) (aJ.ct hI ⟨hp.1,fun r' h1 h2=>⟨g,hg,by rw[kO,V1]⟩⟩)
     ·cases O
    ·cases O
   ·cases O
  | _=>simp[aU]at O
 | _=>cases q<;>simp[aU]at O
end
section
variable {P:Program} {T:Nat->Option Ty} {N:Nat} {M:Nat->Prop} {L:fV} {w0:World} {blk:Nat->Option (Nat×Nat)} {V:Nat->Nat->Prop} {t:Nat->D} {h:Nat->Option Row} {a:Act} {w:World} {e:Nat} {o:Oper} {Γ:Env}
theorem Hg (X:fb P T) {ft off:Nat} {φ:Ty} (Y:T ft=some φ) {xs:List D} {us:List Value} {d:D} {M':Nat->Prop} (hl:us.length=xs.length) (h2:∀j x,xs[j]? = some x->RP w M' x (us.getD j undef)) (h3:∀x∈xs,aF x=true)
  (O:BE φ xs off=some d):∃v,(part ft us.toArray off).run P w=.ok v w∧RP w M' d v:=by
 unfold BE at O;split at O
 ·rename_i Z;split at O
  ·rename_i hle;simp only[VP]at O;subst O;refine⟨.agg (us.toArray.extract off (off+φ.size)),by simp[part,iO (X _ _ Y),Z,run_sizeOf (X _ _ Y)],?_⟩;have he:us.toArray.extract off (off+φ.size)=((us.drop off).take φ.size).toArray:=by
    apply Array.ext';simp[Array.toList_extract,List.extract]
   rw[he];refine .agg _ _ (by simp[hl]) (fun j x U =>?_) (fun x hx=>h3 x (Wo (Wq hx)));rw[bx]at U;split at U
   ·rename_i aa;have:=h2 _ x U;have hg:((us.drop off).take φ.size).getD j undef=us.getD (off+j) undef:=by
     simp only[Wj,bx,if_pos aa]
    rw[hg];exact this
   ·cases U
  ·cases O
 ·rename_i Z;have ab:φ.ds.ko=false:=by simpa using Z
  have ad:=(V9.1 O).1;have h4:=h2 off d O;refine⟨us.getD off undef,?_,h4⟩;have:us.toArray[off]? = some (us.getD off undef):=by
   simp[List.getD,VT (show off<us.length by omega)]
  simp[part,iO (X _ _ Y),ab,this]
theorem Ie (hT:fb P T) (hI:Inv N M L w0 blk V t h a w) {x:Operand} {ty i:Nat} {τ:Ty} {E:aR} (ho:o.op=.field ty x i) (hτ:T ty=some τ) (O:ja T τ i (ev t x)=some E):db P o a w (aJ N M L w0 V t h a e o.dst E):=by
 have hp:=hI.ev x;generalize ev t x=q at *;cases q with
 | agg xs =>
  simp only[ja]at O;split at O
  ·rename_i fs U;split at O
   ·rename_i ft off hi;split at O
    ·rename_i φ hφ;split at O
     ·rename_i d hd;simp only[VP]at O;subst O;have X:RP w (Own M h blk) (.agg xs) (a.eval x):=hp;generalize hu:a.eval x=u at *;cases X with
      | agg xs us h1 h2 h3 =>
       obtain⟨v,Y,Z⟩:=Hg hT hφ h1 h2 h3 hd;obtain⟨dd,aa,hc⟩:=under hT hτ;rw[U]at hc;obtain⟨F,rfl,hF⟩:=eD hc;obtain⟨f,hf,rfl,rfl⟩:=E8 hF hi;refine av (v:=v) (w':=w) ?_ (aJ.ct hI (aS Z));simp[execOp,ho,Instr.field,run_underlying aa,hf,hu,asAgg,Y]
     ·cases O
    ·cases O
   ·cases O
  ·cases O
 | _=>simp[ja]at O
theorem Ig (hT:fb P T) (Z:Inv N M L w0 blk V t h a w) {x ix:Operand} {ty:Nat} {τ:Ty} {E:aR} (ho:o.op=.index ty x ix) (hτ:T ty=some τ) (O:eh T τ (ev t x) (ev t ix)=some E) :
  db P o a w (aJ N M L w0 V t h a e o.dst E):=by
 have hp:=Z.ev x;have aa:=Z.ev ix;generalize ev t x=q at *;generalize ev t ix=z at *;obtain⟨dd,X,hc⟩:=under hT hτ;cases z with
 | int k i =>
  have Y:=iW aa;cases q with
  | str s =>
   have hs:=vZ hp;simp only[eh]at O;split at O
   ·rename_i U;rw[U]at hc;have:=mE hc;subst this;split at O
    ·rename_i h0;split at O
     ·rename_i b hb;simp only[VP]at O;subst O;refine av (v := .int .u8 b.toNat) (w':=w) ?_ (aJ.ct Z (aS (.int _ _)));simp only[execOp,ho,Instr.index,Y,hs,asIntOf,Wd,Sem.run_pure,Result.andThen_ok,run_underlying X];rw[if_pos h0,hb];rfl
     ·cases O
    ·cases O
   ·cases O
  | agg xs =>
   simp only[eh]at O;split at O
   ·rename_i n el U;rw[U]at hc;have:=rX hc;subst this;split at O
    ·rename_i φ hφ;split at O
     ·rename_i hi;split at O
      ·rename_i d hd;simp only[VP]at O;subst O;have ab:RP w (Own M h blk) (.agg xs) (a.eval x):=hp;generalize hu:a.eval x=u at *;cases ab with
       | agg xs us h1 h2 h3 =>
        obtain⟨v,ad,ae⟩:=Hg hT hφ h1 h2 h3 hd;refine av (v:=v) (w':=w) ?_ (aJ.ct Z (aS ae));simp only[execOp,ho,Instr.index,Y,hu,asIntOf,Wd,Sem.run_pure,Result.andThen_ok,run_underlying X];rw[if_pos hi];simp[run_sizeOf (hT _ _ hφ),ad]
      ·cases O
     ·cases O
    ·cases O
   ·cases O
  | _=>simp[eh]at O
 | _=>cases q<;>simp[eh]at O
theorem jH {d:D} {n:Nat} (h:lv d=some n):∃k,d=.int k n:=by
 cases d with
 | int k i =>
  simp only[lv]at h;split at h
  ·simp only[VP]at h;exact⟨k,by rw[<- h];congr 1;omega⟩
  ·cases h
 | _=>simp[lv]at h
theorem run_sliceBound (k:IntKind) (n y:Nat) (c:BoundsCode) (hle:n<=y):(Instr.sliceBound (.int k n) y c).run P w=.ok n w:=by
 have h2:(n:Int)<=(y:Int):=by omega
 simp[Instr.sliceBound,asIntOf,h2]
theorem nR (b:Bool) {n cap l k:Nat} {X Y:Option D} {vlo vhi:Option Value} (hn:n<=cap) (O:oB n X Y=some (l,k))
  (ab:∀d,X=some d->∃v,vlo=some v∧∀k n,d=.int k n->v=.int k n) (Z:X=none->vlo=none)
  (ad:∀d,Y=some d->∃v,vhi=some v∧∀k n,d=.int k n->v=.int k n) (aa:Y=none->vhi=none) :
  (Instr.sliceBounds b n cap vlo vhi none).run P w=.ok (l,k,cap) w∧l<=k∧k<=n:=by
 unfold oB at O;split at O
 ·rename_i k' l' h1 h2;split at O
  ·rename_i hle;simp only[VP,Prod.mk.injEq]at O;obtain⟨rfl,rfl⟩:=O;refine⟨?_,hle.1,hle.2⟩;have ae:(Y=none∧vhi=none∧k'=n)∨∃q,vhi=some (.int q (k':Nat)):=by
    cases Y with
    | none=>simp at h1;exact .inl ⟨rfl,aa rfl,h1.symm⟩
    | some d =>
     obtain⟨q,rfl⟩:=jH h1;obtain⟨v,hv,U⟩:=ad _ rfl;exact .inr ⟨q,by rw[hv,U _ _ rfl]⟩
   have ah:(X=none∧vlo=none∧l'=0)∨∃q,vlo=some (.int q (l':Nat)):=by
    cases X with
    | none=>simp at h2;exact .inl ⟨rfl,Z rfl,h2.symm⟩
    | some d =>
     obtain⟨q,rfl⟩:=jH h2;obtain⟨v,hv,U⟩:=ab _ rfl;exact .inr ⟨q,by rw[hv,U _ _ rfl]⟩
   rcases ae with⟨_,rfl,rfl⟩|⟨q1,rfl⟩<;>rcases ah with⟨_,rfl,rfl⟩|⟨q2,rfl⟩
   ·simp[Instr.sliceBounds]
   ·simp[Instr.sliceBounds,run_sliceBound q2 l' _ _ hle.1]
   ·simp[Instr.sliceBounds,run_sliceBound q1 k' cap _ (by omega)]
   ·simp[Instr.sliceBounds,run_sliceBound q1 k' cap _ (by omega),run_sliceBound q2 l' _ _ hle.1]
  ·cases O
 ·cases O
theorem Hc (b:Bool) {n cap l k m:Nat} {U:Option D} {hi:D} {vlo:Option Value} {vhi vm:Value} {q:IntKind} (O:oB n U (some hi)=some (l,k)) (hm:vm=.int q m) (X:m<=cap) (Y:k<=m)
  (aa:∀d,U=some d->∃v,vlo=some v∧∀k n,d=.int k n->v=.int k n) (Z:U=none->vlo=none)
  (ab:∀k n,hi=.int k n->vhi=.int k n):(Instr.sliceBounds b n cap vlo (some vhi) (some vm)).run P w=.ok (l,k,m) w∧l<=k∧k<=n:=by
 unfold oB at O;split at O
 ·rename_i k' l' h1 h2;split at O
  ·rename_i hle;simp only[VP,Prod.mk.injEq]at O;obtain⟨rfl,rfl⟩:=O;refine⟨?_,hle.1,hle.2⟩;obtain⟨q1,rfl⟩:=jH h1;have ad:=ab _ _ rfl;subst ad hm;have ae:(U=none∧vlo=none∧l'=0)∨∃q,vlo=some (.int q (l':Nat)):=by
    cases U with
    | none=>simp at h2;exact .inl ⟨rfl,Z rfl,h2.symm⟩
    | some d =>
     obtain⟨q,rfl⟩:=jH h2;obtain⟨v,hv,ah⟩:=aa _ rfl;exact .inr ⟨q,by rw[hv,ah _ _ rfl]⟩
   rcases ae with⟨_,rfl,rfl⟩|⟨q2,rfl⟩
   ·simp[Instr.sliceBounds,run_sliceBound q m cap _ X,run_sliceBound q1 k' m _ Y]
   ·simp[Instr.sliceBounds,run_sliceBound q m cap _ X,run_sliceBound q1 k' m _ Y,run_sliceBound q2 l' _ _ hle.1]
  ·cases O
 ·cases O
theorem Inv.UL (U:Inv N M L w0 blk V t h a w) (x:Option Operand):(∀d,x.map (Am.ev t)=some d->∃v,x.map a.eval=some v∧∀k n,d=.int k n->v=.int k n)∧(x.map (Am.ev t)=none->x.map a.eval=none):=by
 cases x with
 | none=>exact⟨fun d O=>by simp at O,fun _=>rfl⟩
 | some x =>
  refine⟨fun d O=>⟨a.eval x,rfl,fun k n hk =>?_⟩,fun O=>by simp at O⟩;simp only[Option.map_some,VP]at O;have:=U.ev x;rw[O,hk]at this;exact iW this
theorem RP.cut {M':Nat->Prop} {A:Option Addr} {c n l k m s:Nat} {nl tight U O:Bool} {xs:List D} (hr:RP w M' (.sl nl tight n xs) (.slice A n c)) (ah:l<=k) (ai:k<=n) (aj:k<=m) (ak:m<=c) (ht:O=true->m=k) (aa:U=true->nl=true∧tight=true∧O=true) :
  RP w M' (.sl U O (k-l) ((xs.drop (l*s)).take ((k-l)*s))) (.slice (if m=l then A else A.map (·.add (l*s))) (k-l) (m-l)):=by
 cases hr with
 | sl A c nl tight n xs us h1 h2 h3 h4 h5 h6 h7 h8 =>
  refine .sl _ _ U O _ _ (fun j=>us (l*s+j)) (by omega) (by omega) (fun Z =>?_) (fun Z =>?_) (fun ab=>by rw[ht ab]) (fun Y =>?_) (fun j x X =>?_) (fun x hx=>h8 x (Wo (Wq hx)))
  ·obtain⟨q1,q2,q3⟩:=aa Z;obtain⟨rfl,rfl⟩:=(h3 q1).1 q2;refine⟨fun _=>⟨by simp,by omega⟩,fun q=>by rw[q3]at q;cases q⟩
  ·have hA:A=none:=by
    cases A with
    | none=>rfl
    | some ad=>split at Z<;>simp at Z
   have:=h4 hA;omega
  ·have ae:xs≠[]:=by rintro rfl;simp at Y
   have al:l<k:=by
    rcases Wr l k with h'|h'
    ·exact h'
    ·have:k-l=0:=by omega
     simp[this]at Y
   obtain⟨b,c',rfl,g1,g2,g3⟩:=h6 ae;rw[if_neg (by omega)];refine⟨b,c'+l*s,by simp[kO],g1,g2,fun j X =>?_⟩;simp only[VZ,V0]at X;have:=g3 (l*s+j) (by omega);rw[<- V1]at this;exact this
  ·rw[bx]at X;split at X
   ·exact h7 _ x X
   ·cases X
theorem Ih (hT:fb P T) (hI:Inv N M L w0 blk V t h a w) {x:Operand} {lo hi mx:Option Operand} {ty:Nat} {τ:Ty} {E:aR} (ho:o.op=.slice ty x lo hi mx) (hτ:T ty=some τ)
  (O:bJ T τ h (ev t x) (lo.map (ev t)) (hi.map (ev t)) (mx.map (ev t))=some E):db P o a w (aJ N M L w0 V t h a e o.dst E):=by
 have hp:=hI.ev x;obtain⟨Z,aa⟩:=hI.UL lo;obtain⟨ab,al⟩:=hI.UL hi;obtain⟨ay,aq⟩:=hI.UL mx;generalize ev t x=q at *;obtain⟨dd,ad,hc⟩:=under hT hτ;have aD:lo.map a.eval=lo.map a.eval:=rfl;cases q with
 | str s =>
  have hs:=vZ hp;simp only[bJ]at O;split at O
  ·rename_i l k ae X hb;rw[ae]at hc;have:=mE hc;subst this;simp only[VP]at O;subst O;obtain⟨U,_,_⟩:=nR (P:=P) (w:=w) false (VG _) hb Z aa ab al;have Y:=aq X;refine av (v := .string (s.extract l k)) (w':=w) ?_ (aJ.ct hI (aS (.str _)));simp only[execOp,ho,Instr.sliceAt,Wd,run_underlying ad,Result.andThen_ok,Instr.slice,hs,Y];simp[U]
  ·cases O
 | sl nl tight n xs =>
  have ah:RP w (Own M h blk) (.sl nl tight n xs) (a.eval x):=hp;have hex:∃A c,a.eval x=.slice A n c∧n<=c∧(tight=true->c=n):=by
   generalize a.eval x=u at *;cases ah with
   | sl A c nl tight n xs us h1 h2 h3 h4 h5 h6 h7 h8=>exact⟨A,c,rfl,h1,h5⟩
  obtain⟨A,c,hu,az,an⟩:=hex;rw[hu]at ah;simp only[bJ]at O;split at O
  ·rename_i el ae;rw[ae]at hc;have:=dJ hc;subst this;split at O
   ·rename_i φ l k hφ hb;split at O
    ·rename_i X;simp only[VP]at O;subst O;obtain⟨U,ai,aj⟩:=nR (P:=P) (w:=w) true az hb Z aa ab al;have Y:=aq X;refine av (v := .slice (if c=l then A else A.map (·.add (l*φ.size))) (k-l) (c-l)) (w':=w) ?_ (aJ.ct hI (aS (ah.cut ai aj (by omega) (VG _) (fun ht =>?_) (fun hq =>?_))))
     ·simp only[execOp,ho,Instr.sliceAt,Wd,run_underlying ad,Result.andThen_ok,Instr.slice,hu,Y];simp[U,run_sizeOf (hT _ _ hφ)]
     ·simp only[Wh,beq_iff_eq]at ht;rw[an ht.1,ht.2]
     ·simp only[Wh]at hq;refine⟨hq.1,hq.2,?_⟩;have aE:c=0∧n=0:=by
       cases ah with
       | sl A c nl tight n xs us h1 h2 h3 h4 h5 h6 h7 h8=>have:=((h3 hq.1).1 hq.2).2;omega
      simp only[Wh,beq_iff_eq];exact⟨hq.2,by omega⟩
    ·rename_i md X;split at O
     ·rename_i m hd hm ar;split at O
      ·rename_i ak;simp only[VP]at O;subst O;obtain⟨q,rfl⟩:=jH hm;obtain⟨vm,aA,au⟩:=ay _ X;obtain⟨vh,aB,aw⟩:=ab _ ar;rw[ar]at hb;obtain⟨U,ai,aj⟩:=Hc (P:=P) (w:=w) true (cap:=c) hb (au _ _ rfl) (by omega) ak.1 Z aa aw;refine av (v := .slice (if m=l then A else A.map (·.add (l*φ.size))) (k-l) (m-l)) (w':=w) ?_ (aJ.ct hI (aS (ah.cut ai aj ak.1 (by omega) (fun ht=>by simpa using ht) (fun hq=>by cases hq))));simp only[execOp,ho,Instr.sliceAt,Wd,run_underlying ad,Result.andThen_ok,Instr.slice,hu,aA,aB];simp[U,run_sizeOf (hT _ _ hφ)]
      ·cases O
     ·cases O
   ·cases O
  ·cases O
 | buf y v s c0 n =>
  simp only[bJ]at O;split at O
  ·rename_i r el hl ae X;rw[ae]at hc;have:=dJ hc;subst this;split at O
   ·rename_i φ l k hφ hb;split at O
    ·rename_i hs;obtain⟨hs,aF⟩:=hs;simp only[VP]at O;subst O;obtain⟨hx,hv⟩:=bg hl;have Y:=aq X;rcases hp.2 r hx hv with⟨g,o',c,N',t',g0,g1,g2,g3,g4,g5⟩|⟨g0,g1,A,g2⟩
     ·obtain⟨U,ai,aj⟩:=nR (P:=P) (w:=w) true g3 hb Z aa ab al;refine av (v := .slice (if c=l then (some ⟨g.1,o',none⟩) else (some ⟨g.1,o'+l*φ.size,none⟩)) (k-l) (c-l)) (w':=w) ?_ (aJ.ct hI ⟨hp.1,fun r' h1 h2 =>.inl ?_⟩)
      ·simp only[execOp,ho,Instr.sliceAt,Wd,run_underlying ad,Result.andThen_ok,Instr.slice,g1,Y];simp[U,run_sizeOf (hT _ _ hφ),kO]
      ·by_cases ax:c=l
       ·rw[if_pos ax];refine⟨g,o',c-l,N',t',g0,rfl,fun hh =>?_,by omega,by omega,g5⟩;rcases hh with hh|hh
        ·omega
        ·have ao:l*s=0:=by omega
         have:l=0:=by
          rcases Nat.mul_eq_zero.1 ao with h'|h'
          ·exact h'
          ·omega
         subst this;obtain⟨q1,q2⟩:=g2 (.inr (by omega));rw[Nat.sub_zero,ao];exact⟨by omega,q2⟩
       ·rw[if_neg ax];refine⟨g,o'+l*φ.size,c-l,N',t',g0,rfl,fun hh =>?_,by omega,by omega,g5⟩;obtain⟨q1,q2⟩:=g2 (.inl (by omega));have hle:l*s<=c*s:=Ws _ (by omega);rw[hs,Nat.sub_mul];exact⟨by omega,by omega⟩
     ·subst g1;obtain⟨U,ai,aj⟩:=nR (P:=P) (w:=w) (cap:=0) true (VG _) hb Z aa ab al;have aC:k=0:=by omega
      have ao:l=0:=by omega
      subst aC ao;refine av (v := .slice A 0 0) (w':=w) ?_ (aJ.ct hI ⟨hp.1,fun r' h1 h2 =>.inr ⟨g0,rfl,A,rfl⟩⟩);simp only[execOp,ho,Instr.sliceAt,Wd,run_underlying ad,Result.andThen_ok,Instr.slice,g2,Y];simp[U,run_sizeOf (hT _ _ hφ)]
    ·cases O
   ·cases O
  ·cases O
 | _=>simp[bJ]at O
end
section
variable {P:Program} {T:Nat->Option Ty} {N:Nat} {M:Nat->Prop} {L:fV} {w0:World} {blk:Nat->Option (Nat×Nat)} {V:Nat->Nat->Prop} {t:Nat->D} {h:Nat->Option Row} {a:Act} {w:World} {e:Nat} {o:Oper} {Γ:Env}
theorem Hk (cur us:Array Value) (off:Nat) (hle:off+us.size<=cur.size) :
  us.zipIdx.foldl (fun cs (p:Value×Nat)=>cs.setIfInBounds (off+p.2) p.1) cur=(cur.toList.take off++us.toList++cur.toList.drop (off+us.toList.length)).toArray:=by
 have key:∀(l:List Value) (k:Nat) (c:Array Value),off+k+l.length<=c.size ->
   (l.zipIdx k).foldl (fun cs (p:Value×Nat)=>cs.setIfInBounds (off+p.2) p.1) c=(c.toList.take (off+k)++l++c.toList.drop (off+k+l.length)).toArray:=by
  intro l
  induction l with
  | nil=>intro k c _;simp
  | cons v l O =>
   intro k c U;simp only[List.zipIdx_cons,List.foldl_cons];simp only[List.length_cons]at U;rw[O (k+1) _ (by simp;omega)];have:=list_seg_step c.toList (off+k) v l (by simp;omega);simp only[Array.toList_setIfInBounds];congr 1
 have:=key us.toList 0 cur (by simp;omega);rw[Wf]at this;rw[<- this,<- Array.foldl_toList,Array.toList_zipIdx]
theorem Pu {w:World} {M:Nat->Prop} {cells cs:List D} {cur:Array Value} {us:List Value} {c:Nat} (hle:c+cs.length<=cells.length) (O:us.length=cs.length) (X:cells.length<=cur.size)
  (h5:∀j d,cells[j]? = some d->aF d=true∧RP w M d (cur.getD j undef)) (Y:∀j d,cs[j]? = some d->aF d=true∧RP w M d (us.getD j undef)) (j:Nat) (d:D) (U:(putCells cells c cs)[j]? = some d) :
  aF d=true∧RP w M d ((cur.toList.take c++us++cur.toList.drop (c+us.length)).toArray.getD j undef):=by
 have:=spliced (cur:=cur) (b:=0) hle O (by omega) (fun j d U=>by rw[Wt];exact h5 j d U) Y j d U;simp only[Wt]at this;exact this
theorem D8 {w:World} {M:Nat->Prop} {cs:List D} {f:Nat->Value} (U:∀(j:Nat) d,cs[j]? = some d->aF d=true∧RP w M d (f j)) (j:Nat) (d:D) (O:(cs.map canon)[j]? = some d):aF d=true∧RP w M d (f j):=by
 rw[VC,VD]at O;obtain⟨x,X,rfl⟩:=O;obtain⟨Y,Z⟩:=U j x X;exact⟨by rw[jj];exact Y,Z.canon⟩
theorem Inv.fh (hI:Inv N M L w0 blk V t h a w) {place:Nat->Option (Nat×Nat)} {M':Nat->Prop} : ∀ {parts:List (Nat×Operand)} {cells out:List D} {fr:List Nat} {cur:Array Value},
  fh h place cells (parts.map fun p=>(p.1,Am.ev t p.2))=some (out,fr)->ki M h blk fr M'->cells.length=cur.size->(∀j d,cells[j]? = some d->aF d=true∧RP w M' d (cur.getD j undef)) ->
  ∃O,Instr.fill place cur (parts.map fun p=>(p.1,a.eval p.2))=some O∧out.length=O.size∧out.length=cells.length∧∀j d,out[j]? = some d->aF d=true∧RP w M' d (O.getD j undef)
 | [],cells,out,fr,cur,U,hl,Z,hc=>by
  simp only[Wu,Am.fh,VP,Prod.mk.injEq]at U;obtain⟨rfl,rfl⟩:=U;exact⟨cur,rfl,Z,rfl,hc⟩
 | (i,x)::parts,cells,out,fr,cur,U,hl,Z,hc=>by
  simp only[VM,Am.fh]at U;split at U
  ·rename_i off size cs ad h1 h2;split at U
   ·rename_i hle;split at U
    ·rename_i ab ae h3;simp only[VP,Prod.mk.injEq]at U;obtain⟨rfl,rfl⟩:=U;obtain⟨u1,u2⟩:=hI.cT h2 hl.left (hI.ev x);have aa:(a.eval x).cells.toList.length=cs.length:=by simp only[Array.length_toList];exact u1
     have X:off+cs.length<=cells.length:=by omega
     obtain⟨O,i1,i2,i3,i4⟩:=hI.fh (cur:=(cur.toList.take off++(a.eval x).cells.toList++cur.toList.drop (off+(a.eval x).cells.toList.length)).toArray) h3 hl.right
      (by rw[fE X];simp;omega)
      (fun j d hj=>Pu X aa (by omega) hc (fun j d hj=>by simpa [List.getD] using u2 j d hj) j d hj)
     refine⟨O,?_,i2,by rw[i3,fE X],i4⟩;rw[<- i1];simp only[VM,Instr.fill,h1];have Y:(decide ((a.eval x).cells.size≠size)||decide (off+(a.eval x).cells.size>cur.size))=false:=by simp;omega
     rw[if_neg (by simpa using Y)];congr 1;exact Hk cur (a.eval x).cells off (by omega)
    ·cases U
   ·cases U
  ·cases U
theorem jm (U:fb P T):∀(F:List Field),(∀f∈F,(T f.type).isSome=true)->(F.mapM fun f=>(do pure (f.offset,<- Go.sizeOf f.type):Sem (Nat×Nat))).run P w=.ok (F.map fun f=>(f.offset,((T f.type).map (·.size)).getD 0)) w
 | [],_=>by simp
 | f::F,hF=>by
  have h1:=hF f (by simp);cases O:T f.type with
  | none=>simp[O]at h1
  | some φ =>
   have X:=jm U F (fun g Y=>hF g (by simp[Y]));simp only[List.mapM_cons,Wd,run_sizeOf (U _ _ O),Result.andThen_ok,Sem.run_pure,VM,O,Option.map_some,Option.getD_some];rw[X];rfl
theorem qX (hT:fb P T) (hI:Inv N M L w0 blk V t h a w) {ty:Nat} {parts:Array (Nat×Operand)} {τ:Ty} {E:aR} (ho:o.op=.build ty parts) (hτ:T ty=some τ) (Y:dj T τ h (parts.toList.map fun p=>(p.1,ev t p.2))=some E) :
  db P o a w (aJ N M L w0 V t h a e o.dst E):=by
 obtain⟨dd,aa,hc⟩:=under hT hτ;unfold dj at Y;split at Y
 ·rename_i fs ab;rw[ab]at hc;obtain⟨F,rfl,hF⟩:=eD hc;split at Y
  ·rename_i O;simp only[Wh]at O;split at Y
   ·rename_i cs fr hf;simp only[VP]at Y;subst Y;obtain⟨z,ad,ae⟩:=fO (hT ty τ hτ) w;obtain⟨U,i1,i2,i3,i4⟩:=hI.fh hf (hI.dB fr) (cur:=τ.zero.toArray) (by simp) (fun j d Z=>lJ τ.zero O.2 j d Z);have X:∀f∈F.toList,(T f.type).isSome=true:=by
     intro f ah;have:=O.1;rw[VR]at this;exact this (f.type,f.offset) (by rw[<- hF];exact VF.2 ⟨f,ah,rfl⟩)
    have ai:(fun i=>(F.map fun f=>(f.offset,((T f.type).map (·.size)).getD 0))[i]?)=fieldAt T fs:=by
     funext i;simp only[fieldAt,<- hF,VC,Array.getElem?_map];rw[Ww];cases aj:F[i]? with
     | none=>rfl
     | some f =>
      have:=X f (by simpa using Array.mem_of_getElem? aj);cases hφ:T f.type with
      | none=>simp[hφ]at this
      | some φ=>simp[hφ]
    refine av (v := .agg U) (w':=w) ?_ ?_
    ·have hm:=jm (P:=P) (w:=w) hT F.toList X;have ak:(F.mapM fun f=>(do pure (f.offset,<- Go.sizeOf f.type):Sem (Nat×Nat))).run P w=.ok (F.map fun f=>(f.offset,((T f.type).map (·.size)).getD 0)) w:=by
      rw[Wx,Sem.run_map,hm];simp only[Result.andThen_ok];congr 1;apply Array.ext';simp
     rw[<- ai]at i1;simp only[execOp,ho,Instr.build,Wd,ad,Result.andThen_ok,run_underlying aa,ak,ae,Wy];rw[i1];rfl
    ·have:(⟨.agg cs,fB h fr⟩:aR)=⟨.agg cs,fB h fr⟩:=rfl;have al:U=U.toList.toArray:=by simp
     rw[al];refine aJ.CY hI fr (.agg cs _ (by simp;omega) (fun j d Z =>?_) (fun d hd =>?_))
     ·have:=(i4 j d Z).2;simpa [List.getD] using this
     ·obtain⟨j,Z⟩:=V2 hd;exact (i4 j d Z).1
   ·cases Y
  ·cases Y
 ·cases Y
theorem N1 (hT:fb P T) (hI:Inv N M L w0 blk V t h a w) {q:Nat->Bool} {ty:Nat} {parts:Array (Nat×Operand)} {τ:Ty} {E:aR} (ho:o.op=.build ty parts) (hτ:T ty=some τ) (X:kU q T τ h o.dst (parts.toList.map fun p=>(p.1,ev t p.2))=some E) :
  db P o a w (aJ N M L w0 V t h a e o.dst E):=by
 unfold kU at X;split at X
 ·split at X
  ·exact qX hT hI ho hτ X
  ·split at X
   ·rename_i fs x v s o' n ad O;split at X
    ·rename_i aa;obtain⟨k1,k2,k3,k4⟩:=aa;simp only[VP]at X;subst X;obtain⟨dd,ae,hc⟩:=under hT hτ;rw[ad]at hc;obtain⟨F,rfl,hF⟩:=eD hc;obtain⟨Z,ah,ab⟩:∃Z,parts.toList=[Z]∧(Z.1,ev t Z.2)=(0,D.buf x v s o' n):=by
      cases Y:parts.toList with
      | nil=>rw[Y]at O;cases O
      | cons Z l =>
       rw[Y]at O;simp only[VM,V4,List.map_eq_nil_iff]at O;exact⟨Z,by rw[O.2],O.1⟩
     simp only[Prod.mk.injEq]at ab;have hr:=hI.ev Z.2;rw[ab.2]at hr;have ai:∃r,jX h x v=some r:=by
      simp only[alive]at k1;exact Option.isSome_iff_exists.1 k1
     obtain⟨r,ai⟩:=ai;obtain⟨hx,hv⟩:=lu ai;obtain⟨A,c,hu⟩:∃A c,a.eval Z.2=.slice A n c:=by
      rcases hr.2 r hx hv with⟨g,ax,c,N',t',g0,g1,_⟩|⟨_,g1,A,g2⟩
      ·exact⟨_,_,g1⟩
      ·subst g1;exact⟨_,_,g2⟩
     obtain⟨z,aj,ak⟩:=fO (hT ty τ hτ) w;have U:∀f∈F.toList,(T f.type).isSome=true:=by
      intro f al;rw[VR]at k2;exact k2 (f.type,f.offset) (by rw[<- hF];exact VF.2 ⟨f,al,rfl⟩)
     have Y:(fun i=>(F.map fun f=>(f.offset,((T f.type).map (·.size)).getD 0))[i]?)=fieldAt T fs:=by
      funext i;simp only[fieldAt,<- hF,VC,Array.getElem?_map];rw[Ww];cases an:F[i]? with
      | none=>rfl
      | some f =>
       have:=U f (by simpa using Array.mem_of_getElem? an);cases hφ:T f.type with
       | none=>simp[hφ]at this
       | some φ=>simp[hφ]
     have i1:Instr.fill (fieldAt T fs) τ.zero.toArray (parts.toList.map fun p=>(p.1,a.eval p.2))=some #[a.eval Z.2]:=by
      rw[ah];simp only[VM,Wu,Instr.fill,ab.1,k3,hu];obtain⟨z0,ao⟩:∃z0,τ.zero=[z0]:=by
       match au:τ.zero,k4 with
       | [z0],_=>exact⟨z0,rfl⟩
      rw[ao];rfl
     refine av (v := .agg #[a.eval Z.2]) (w':=w) ?_ (aJ.ct hI ⟨_,rfl,by rw[hu];rfl,hr⟩);have hm:=jm (P:=P) (w:=w) hT F.toList U;have aq:(F.mapM fun f=>(do pure (f.offset,<- Go.sizeOf f.type):Sem (Nat×Nat))).run P w=.ok (F.map fun f=>(f.offset,((T f.type).map (·.size)).getD 0)) w:=by
      rw[Wx,Sem.run_map,hm];simp only[Result.andThen_ok];congr 1;apply Array.ext';simp
     rw[<- Y]at i1;simp only[execOp,ho,Instr.build,Wd,aj,Result.andThen_ok,run_underlying ae,aq,ak,Wy];rw[i1];rfl
    ·cases X
   ·rename_i fs x v s o' n ad O;split at X
    ·rename_i aa;obtain⟨k1,k2,k3,k4⟩:=aa;simp only[VP]at X;subst X;obtain⟨dd,ae,hc⟩:=under hT hτ;rw[ad]at hc;obtain⟨F,rfl,hF⟩:=eD hc;obtain⟨Z,ah,ab⟩:∃Z,parts.toList=[Z]∧(Z.1,ev t Z.2)=(0,D.box1 x v s o' n):=by
      cases Y:parts.toList with
      | nil=>rw[Y]at O;cases O
      | cons Z l =>
       rw[Y]at O;simp only[VM,V4,List.map_eq_nil_iff]at O;exact⟨Z,by rw[O.2],O.1⟩
     simp only[Prod.mk.injEq]at ab;have hr:=hI.ev Z.2;rw[ab.2]at hr;obtain⟨u',hu,ar,aw⟩:=hr;obtain⟨z,aj,ak⟩:=fO (hT ty τ hτ) w;have U:∀f∈F.toList,(T f.type).isSome=true:=by
      intro f al;rw[VR]at k2;exact k2 (f.type,f.offset) (by rw[<- hF];exact VF.2 ⟨f,al,rfl⟩)
     have Y:(fun i=>(F.map fun f=>(f.offset,((T f.type).map (·.size)).getD 0))[i]?)=fieldAt T fs:=by
      funext i;simp only[fieldAt,<- hF,VC,Array.getElem?_map];rw[Ww];cases an:F[i]? with
      | none=>rfl
      | some f =>
       have:=U f (by simpa using Array.mem_of_getElem? an);cases hφ:T f.type with
       | none=>simp[hφ]at this
       | some φ=>simp[hφ]
     have i1:Instr.fill (fieldAt T fs) τ.zero.toArray (parts.toList.map fun p=>(p.1,a.eval p.2))=some #[u']:=by
      rw[ah];simp only[VM,Wu,Instr.fill,ab.1,k3,hu];obtain⟨z0,ao⟩:∃z0,τ.zero=[z0]:=by
       match au:τ.zero,k4 with
       | [z0],_=>exact⟨z0,rfl⟩
      rw[ao];rfl
     refine av (v := .agg #[u']) (w':=w) ?_ (aJ.ct hI ⟨u',rfl,ar,aw⟩);have hm:=jm (P:=P) (w:=w) hT F.toList U;have aq:(F.mapM fun f=>(do pure (f.offset,<- Go.sizeOf f.type):Sem (Nat×Nat))).run P w=.ok (F.map fun f=>(f.offset,((T f.type).map (·.size)).getD 0)) w:=by
      rw[Wx,Sem.run_map,hm];simp only[Result.andThen_ok];congr 1;apply Array.ext';simp
     rw[<- Y]at i1;simp only[execOp,ho,Instr.build,Wd,aj,Result.andThen_ok,run_underlying ae,aq,ak,Wy];rw[i1];rfl
    ·cases X
   ·unfold cE at X;split at X
    ·rename_i cs hw hb;simp only[VP]at X;subst X;refine (qX (e:=e) hT hI ho hτ hb).mono fun v w' hA =>?_;obtain⟨blk',h1,h2⟩:=hA;exact⟨blk',h1,aS (RP.dT (d := .agg cs) h2)⟩
    ·cases X
 ·exact qX hT hI ho hτ X
theorem pH (zs:List Value) (n:Nat) (j:Nat) (U:j<n*zs.length):(((Array.range (n*zs.length)).map fun i=>zs.toArray[i % zs.toArray.size]!).getD j undef)=zs.getD (j % zs.length) undef:=by
 have X:0<zs.length:=by
  rcases VY zs.length with O|O
  ·rw[O]at U;omega
  ·exact O
 have hm:j % zs.length<zs.length:=Wz _ X;simp[U,hm,List.getD]
theorem vP (O:List D):∀(n j:Nat) (d:D),(jK n O)[j]? = some d->j<n*O.length∧O[j % O.length]? = some d
 | 0,j,d,h=>by simp[jK]at h
 | n+1,j,d,h=>by
  have e:jK (n+1) O=O++jK n O:=by simp[jK,List.replicate_succ]
  rw[e]at h
  by_cases U:j<O.length
  ·rw[Wk U]at h;refine⟨?_,by rw[WB U];exact h⟩;rw[WC];omega
  ·rw[Wl (by omega)]at h;obtain⟨h1,h2⟩:=vP O n (j-O.length) d h;refine⟨by rw[WC];omega,?_⟩;rw[Nat.mod_eq_sub_mod (by omega)];exact h2
theorem lX (n:Nat) (O:List D):(jK n O).length=n*O.length:=by
 simp[jK]
theorem mX {d e s n c:Nat} {g:Nat×Nat} {ty:Nat} {cs:Array Value} {V':Nat->Nat->Prop} {h':Nat->Option Row} {blk':Nat->Option (Nat×Nat)} (hV:V' d e) (O:blk' d=some g) (U:w.heap[g.1]? = some (.cells cs ty (0,0))) (X:n<=c) (Y:c<=maxLen) (hs:c*s+g.2=cs.size) :
  RT w M h' blk' V' (.buf d e s 0 n) (.slice (some ⟨g.1,g.2,none⟩) n c) :=
 ⟨hV,fun _ _ _ =>.inl ⟨g,g.2,c,cs.size,ty,O,rfl,fun _=>⟨rfl,hs⟩,X,Y,by simp[World.shape?,U]⟩⟩
theorem IY (n:Nat) (O:List D):jK n (O.map canon)=(jK n O).map canon:=by simp[jK,List.map_flatten]
theorem vg (hT:fb P T) (hI:Inv N M L w0 blk V t h a w) {ty len d:Nat} {parts:Array (Nat×Operand)} {τ:Ty} {E:aR} (ho:o.op=.buildSlice ty len parts) (hd:o.dst=some d) (hV:fY N V d e) (hτ:T ty=some τ)
  (O:cv T τ h e d len (parts.toList.map fun p=>(p.1,ev t p.2))=some E):db P o a w (aJ N M L w0 V t h a e o.dst E):=by
 obtain⟨dd,ab,hc⟩:=under hT hτ;unfold cv at O;split at O
 ·rename_i el ad;rw[ad]at hc;have:=dJ hc;subst this;split at O
  ·rename_i φ hφ;split at O
   ·rename_i U;obtain⟨c1,c2,c3,c4⟩:=U;split at O
    ·rename_i cs fr hf;split at O
     ·rename_i al;simp only[VP]at O;subst O;obtain⟨z,ae,ah⟩:=fO (hT el φ hφ) w;have Z:(len*φ.size=0->((Array.range (len*φ.size)).map fun i=>φ.zero.toArray[i % φ.zero.toArray.size]!) = #[]):=by intro Y;simp[Y]
      obtain⟨cur',i1,i2,i3,i4⟩:=hI.fh hf (hI.dB fr) (cur:=(Array.range (len*φ.size)).map fun i=>φ.zero.toArray[i % φ.zero.toArray.size]!)
       (by rw[lX];simp[c4]) (fun j x hj=>by
        obtain⟨r1,r2⟩:=vP _ _ _ _ hj;simp only[Wa]at r1 r2;rw[<- c4,pH φ.zero len j r1];have:=lJ (w:=w) (M:=Own M (ay h (fB h fr)) blk) φ.zero c3 _ x r2;simpa [List.getD] using this)
      have ai:=(hI.freeze fr).alloc (d:=d) (e:=e) (ty:=el) (lst:=true) (cs:=cs.map canon) (vs:=cur') hV (by rw[Wa];omega) (fun j x hj=>D8 (f:=fun j=>cur'.getD j undef) i4 j x hj);refine av (v := .slice (some ⟨w.heap.size,0,none⟩) len len) (w':=w.alloc (.cells cur' el)) ?_ ⟨bj blk d (some (w.heap.size,0)),?_,?_⟩
      ·have aa:¬len*φ.size>2 ^ 24:=by omega
       simp only[execOp,ho,Instr.buildSlice,Wd,run_underlying ab,Result.andThen_ok,run_sizeOf (hT _ _ hφ),if_neg aa]
       by_cases Y:len*φ.size=0
       ·have X:=Z Y;rw[X]at i1;have ak:((Array.range (len*φ.size)).map fun i=>(#[]:Array Value)[i % (#[]:Array Value).size]!) = #[]:=by simp[Y]
        simp only[if_pos Y,Wd,Sem.run_pure,Result.andThen_ok,Wy];rw[ak,i1];simp[newRow]
       ·simp only[if_neg Y,Wd,ae,Result.andThen_ok,Sem.run_pure,ah,Wy];rw[i1];simp[newRow]
      ·show Inv _ _ _ _ _ _ _ (ay h (fB h fr++[(d,some ⟨e,el,cs.map canon,false,true,false⟩)])) _ _;rw[ef];refine ai.weaken fun x v hx =>?_;rcases hx with hx|⟨rfl,rfl⟩
       ·exact .inl hx
       ·exact .inr ⟨hd,rfl⟩
      ·have hlen:cur'.size=len*φ.size:=by
        rw[<- i2,i3,lX];simp[c4]
       refine mX (g:=(w.heap.size,0)) (.inr ⟨hd,rfl⟩) (aj _ _ _) (heap_alloc_new w _) (VG _) ?_ (by rw[hlen];simp);have:len<=len*φ.size:=Nat.le_mul_of_pos_right _ c2;simp only[maxLen];omega
     ·cases O
    ·cases O
   ·cases O
  ·cases O
 ·cases O
theorem qd {M':Nat->Prop} {d:D} {n:Nat} {u:Value} (O:lv d=some n) (U:RT w M' h blk V d u):∃k,u=.int k n:=by
 obtain⟨k,rfl⟩:=jH O;exact⟨k,iW U⟩
theorem L0 (hT:fb P T) (hI:Inv N M L w0 blk V t h a w) {ty d:Nat} {l c:Operand} {τ:Ty} {E:aR} (ho:o.op=.makeSlice ty l c) (hd:o.dst=some d) (hV:fY N V d e) (hτ:T ty=some τ)
  (O:lV T τ e d (ev t l) (ev t c)=some E):db P o a w (aJ N M L w0 V t h a e o.dst E):=by
 have ab:=hI.ev l;have ad:=hI.ev c;obtain⟨dd,ae,hc⟩:=under hT hτ;unfold lV at O;split at O
 ·rename_i el ah;rw[ah]at hc;have:=dJ hc;subst this;split at O
  ·rename_i φ n k hφ hn hk;split at O
   ·rename_i Y;obtain⟨c1,c2,c3,c4,c5,c6⟩:=Y;simp only[VP]at O;subst O;obtain⟨q1,hl⟩:=qd hn ab;obtain⟨q2,ai⟩:=qd hk ad;obtain⟨d',i,z,g1,g2,g3,g4,g5,g6,g7⟩:=(hT el φ hφ).get;have hb:(i.bytes:Int)*(k:Int)<=281474976710656:=by
     have:((i.bytes*k:Nat):Int)<=281474976710656:=by
      rw[g5,WD];omega
     rwa [WE]at this
    have Z:(k:Int)<=9223372036854775807:=by
     simp only[maxLen]at c2;omega
    have X:=run_make (P:=P) w ty el i z ae g3 g6 q1 q2 n k (by omega) (by omega) hb Z;simp only[Int.toNat_natCast]at X;have U:∀j x,(jK n (φ.zero.map jR))[j]? = some x->aF x=true∧RP w (Own M h blk) x ((madeCells z.cells (k*i.size)).getD j undef):=by
     intro j x hj;obtain⟨r1,r2⟩:=vP _ _ _ _ hj;simp only[Wa]at r1 r2;have ak:j<k*φ.zero.length:=VJ r1 (Ws _ c1);have:=lJ (w:=w) (M:=Own M h blk) φ.zero c5 _ x r2;refine⟨this.1,?_⟩;have he:(madeCells z.cells (k*i.size)).getD j undef=φ.zero.toArray.getD (j % φ.zero.length) undef:=by
      rw[g7,g4,<- c6];have:=pH φ.zero k j ak;simpa [madeCells,List.getD] using this
     rw[he];exact this.2
    have aa:(madeCells z.cells (k*i.size)).size=k*φ.size:=by simp[madeCells,g4]
    have al:=hI.alloc (d:=d) (e:=e) (ty:=el) (lst:=true) (cs:=jK n ((φ.zero.map jR).map canon)) (vs:=madeCells z.cells (k*i.size)) hV (by rw[lX,aa];simp only[Wa,c6];exact Ws _ c1) (fun j x hj=>D8 (f:=fun j=>(madeCells z.cells (k*i.size)).getD j undef) U j x (by rw[<- IY];exact hj));refine av (v := .slice (some ⟨w.heap.size,0,none⟩) n k) (w':=w.alloc (.cells (madeCells z.cells (k*i.size)) el)) ?_ ⟨bj blk d (some (w.heap.size,0)),?_,?_⟩
    ·simp[execOp,ho,hl,ai,X]
    ·refine al.weaken fun x v hx =>?_;rcases hx with hx|⟨rfl,rfl⟩
     ·exact .inl hx
     ·exact .inr ⟨hd,rfl⟩
    ·exact mX (g:=(w.heap.size,0)) (.inr ⟨hd,rfl⟩) (aj _ _ _) (heap_alloc_new w _) c1 c2 (by rw[aa];simp)
   ·cases O
  ·cases O
 ·cases O
theorem Pg {op:BinOp} {ty:Nat} {k:IntKind} {x y:Int} {d:D} (hs:ic op=false) (h:dV op k x y=some d):∃v,(binOp op ty (.int k x) (.int k y)).run P w=.ok v w∧RP w M d v:=by
 cases op with
 | shl=>simp[ic]at hs
 | shr=>simp[ic]at hs
 | quo =>
  simp only[dV]at h;split at h
  ·cases h
  ·rename_i O;simp only[VP]at h;subst h;exact⟨_,by simp[binOp,Op.intDiv,O],.int _ _⟩
 | rem =>
  simp only[dV]at h;split at h
  ·cases h
  ·rename_i O;simp only[VP]at h;subst h;exact⟨_,by simp[binOp,Op.intDiv,O],.int _ _⟩
 | add=>simp only[dV,VP]at h;subst h;exact⟨_,by simp[binOp,Op.intArith],.int _ _⟩
 | sub=>simp only[dV,VP]at h;subst h;exact⟨_,by simp[binOp,Op.intArith],.int _ _⟩
 | mul=>simp only[dV,VP]at h;subst h;exact⟨_,by simp[binOp,Op.intArith],.int _ _⟩
 | and=>simp only[dV,VP]at h;subst h;exact⟨_,by simp[binOp,Op.intBits,wo],.int _ _⟩
 | or=>simp only[dV,VP]at h;subst h;exact⟨_,by simp[binOp,Op.intBits,wo],.int _ _⟩
 | xor=>simp only[dV,VP]at h;subst h;exact⟨_,by simp[binOp,Op.intBits,wo],.int _ _⟩
 | andNot=>simp only[dV,VP]at h;subst h;exact⟨_,by simp[binOp,Op.intBits,wo],.int _ _⟩
 | eql=>simp only[dV,VP]at h;subst h;exact⟨_,by simp[binOp,Op.intCmp],.bool _⟩
 | neq=>simp only[dV,VP]at h;subst h;exact⟨_,by simp[binOp,Op.intCmp],.bool _⟩
 | lss=>simp only[dV,VP]at h;subst h;exact⟨_,by simp[binOp,Op.intCmp],.bool _⟩
 | leq=>simp only[dV,VP]at h;subst h;exact⟨_,by simp[binOp,Op.intCmp],.bool _⟩
 | gtr=>simp only[dV,VP]at h;subst h;exact⟨_,by simp[binOp,Op.intCmp],.bool _⟩
 | geq=>simp only[dV,VP]at h;subst h;exact⟨_,by simp[binOp,Op.intCmp],.bool _⟩
theorem I1 {op:BinOp} {ty:Nat} {k k':IntKind} {x y:Int} {d:D} (hs:ic op=true) (h:nS op k x y=some d):∃v,(binOp op ty (.int k x) (.int k' y)).run P w=.ok v w∧RP w M d v:=by
 unfold nS at h;split at h
 ·cases h
 ·rename_i O;cases op<;>simp only[ic,Wg]at hs<;>simp only[VP]at h<;>subst h<;>exact⟨_,by simp[binOp,Op.shift,O],.int _ _⟩
theorem Pj {op:BinOp} {ty:Nat} {x y:ByteArray} {d:D} (h:j5 op x y=some d):∃v,(binOp op ty (.string x) (.string y)).run P w=.ok v w∧RP w M d v:=by
 cases op with
 | add =>
  simp only[j5]at h;split at h
  ·cases h
  ·rename_i O;simp only[VP]at h;subst h;refine⟨_,?_,.str _⟩;simp only[binOp,Op.stringOp];rw[if_neg O];rfl
 | eql=>simp only[j5,VP]at h;subst h;exact⟨_,by simp[binOp,Op.stringOp],.bool _⟩
 | neq=>simp only[j5,VP]at h;subst h;exact⟨_,by simp[binOp,Op.stringOp],.bool _⟩
 | lss=>simp only[j5,VP]at h;subst h;exact⟨_,by simp[binOp,Op.stringOp],.bool _⟩
 | leq=>simp only[j5,VP]at h;subst h;exact⟨_,by simp[binOp,Op.stringOp],.bool _⟩
 | gtr=>simp only[j5,VP]at h;subst h;exact⟨_,by simp[binOp,Op.stringOp],.bool _⟩
 | geq=>simp only[j5,VP]at h;subst h;exact⟨_,by simp[binOp,Op.stringOp],.bool _⟩
 | _=>simp[j5]at h
end
end Go.Proofs.Ytgnoaanebhmegaa.Am
