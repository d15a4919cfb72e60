import Derived.WalkKit
import Derived.Orders
import Derived.Maps.AppendAt
import Derived.Laws.OwnMore
import Derived.Laws.CopyRow
import Derived.Laws.Concat
import Derived.Laws.Cover3
import Derived.WalkSmall
import Derived.MapKept
import Derived.ArgAppend
import Derived.Deep.LoopGhost
import Derived.Maps.RangeRun
import Derived.Test.YtokgehacmjmfkaaGreatChecked
import Derived.KernelRfl
import GoSem.Claim
import Derived.RowKit
import Derived.Sort.Grow
import Derived.OpenShut
import Derived.Deep.Slices
import Derived.WideKeyArgs
import Derived.SizedLaws
import Derived.ProofKit
import Derived.Below
import Derived.Handed
import Derived.Lib.ItoaMem
import Derived.Lib.SlicesCompact
import Derived.Shelf.Sort.Plain
import Derived.Shelf.Slices.In.SortNone
import Derived.Ground.NamesProg
import Derived.Shelf.SlIterI.Sorted
import Derived.Shelf.SlGeneric
import Derived.Ground.GgzProg
import Derived.Shelf.SlSortCmp.NoneTotal
import Derived.Ground.SlsfProg
import Derived.Test.YtokgehacmjmfkaaGreatProg
import Derived.Shelf.Spec.SlicesInsertGrow
import Derived.RangeFuncBox
import Derived.RangeFuncNested
import Derived.RangeFuncLeaves
import Derived.Shelf.Abstract
import Derived.OwnWalkIn
import Derived.TacticsInMore
import Derived.LoopNIn
import Derived.LoopIn
import Derived.Lib.SlicesDelete
import Derived.Shelf.RegionOpenPlain
import Derived.Deep.RegionLaw
import Derived.Lib.Walk
import Derived.Shelf.GgSortFunc.InsertionK
import Derived.Shelf.SlSortCmp.Insertion
import Derived.Lib.Small
import Derived.StillTailTactics
import Derived.Test.YtokgehacmjmfkaaGreatRows
set_option linter.unusedSimpArgs false
set_option linter.unusedVariables false
set_option linter.defProp false
noncomputable section
open Go.Proofs.Tryz
namespace Go.Proofs.YtokgehacmjmfkaaGreat
def ain:=@World.cell?_of_block
def aio:=@List.getElem?_map.{0,0}
def aip:=@Option.map_eq_some_iff.{0,0}
def aiq:=@List.mem_map.{0,0}
def air:=@Nat.le_refl
def ais:=@Nat.zero_le
def ait:=@Nat.le_trans
def aiu:=@Nat.lt_of_lt_of_le
def aiv:=@Array.getElem?_eq_some_iff.{0}
def aiw:=@Array.getD_eq_getD_getElem?.{0}
def aix:=@List.map_cons.{0,0}
def aiy:=@List.mem_cons.{0}
def aiz:=@Option.map_some.{0,0}
def aiA:=@Option.some.injEq.{0}
def aiB:=@Array.getElem?_modify.{0}
def aiC:=@List.all_eq_true.{0}
def aiD:=@List.getElem_mem.{0}
def aiE:=@List.getElem?_eq_getElem.{0}
def aiF:=@List.mem_append_left.{0}
def aiG:=@List.mem_append_right.{0}
def aiH:=@List.getElem?_take.{0}
def aiI:=@List.getElem?_drop.{0}
def aiJ:=@Nat.eq_zero_or_pos
def aiK:=@List.length_take.{0}
def aiL:=@List.length_drop.{0}
def aiM:=@Nat.add_assoc
def aiN:=@List.getElem?_of_mem.{0}
def aiO:=@List.mem_singleton.{0}
def aiP:=@List.cons.injEq.{0}
def aiQ:=@List.getElem?_cons_zero.{0}
def aiR:=@List.length_cons.{0}
def aiS:=@List.length_nil.{0}
def aiT:=@List.mem_of_getElem?.{0}
def aiU:=@List.getElem?_eq_some_iff.{0}
def aiV:=@List.length_map.{0,0}
def aiW:=@List.length_range
def aiX:=@List.getElem_range
def aiY:=@Sem.run_bind
def aiZ:=@Result.andThen_ok
def ai0:=@Nat.add_zero
def ai1:=@Bool.false_eq_true
def ai2:=@Bool.and_eq_true
def ai3:=@Bool.not_eq_true'
def ai4:=@List.getD_eq_getElem?_getD.{0}
def ai5:=@List.getElem?_append_left.{0}
def ai6:=@List.getElem?_append_right.{0}
def ai7:=@Array.length_toList.{0}
def ai8:=@List.getElem?_append.{0}
def ai9:=@List.mem_of_mem_drop.{0}
def aja:=@Sem.run_pure
def ajb:=@List.mem_of_mem_take.{0}
def ajc:=@Nat.lt_or_ge
def ajd:=@Nat.mul_le_mul_right
def aje:=@List.foldl_cons.{0,0}
def ajf:=@Nat.zero_add
def ajg:=@List.map_nil.{0,0}
def ajh:=@Option.getD_some.{0}
def aji:=@Array.getElem?_toList.{0}
def ajj:=@Array.mem_of_getElem?.{0}
def ajk:=@Array.mapM_eq_mapM_toList.{0,0,0}
def ajl:=@Array.toList_map.{0,0}
def ajm:=@Nat.mod_lt
def ajn:=@List.replicate_succ.{0}
def ajo:=@Nat.mod_eq_of_lt
def ajp:=@Nat.succ_mul
def ajq:=@Nat.mul_comm
def ajr:=@Int.natCast_mul
def ajs:=@Int.toNat_natCast
def ajt:=@List.idxOf_cons.{0}
def aju:=@List.contains_cons.{0}
def ajv:=@Bool.false_or
def ajw:=@List.getD_cons_zero.{0}
def ajx:=@List.getD_cons_succ.{0}
def ajy:=@List.not_mem_nil.{0}
def ajz:=@List.getElem?_cons_succ.{0}
def ajA:=@List.idxOf_lt_length_of_mem.{0}
def ajB:=@List.length_append.{0}
def ajC:=@Array.getElem?_eq_getElem.{0}
def ajD:=@Nat.sub_self
def ajE:=@Array.ext.{0}
def ajF:=@Nat.min_eq_left
def ajG:=@Nat.add_mul
def ajH:=@Array.getElem_append.{0}
def ajI:=@List.mem_append.{0}
def ajJ:=@Array.getElem?_extract.{0}
def ajK:=@Array.getElem?_eq_none.{0}
def ajL:=@List.eq_nil_of_length_eq_zero.{0}
def ajM:=@Array.size_append.{0}
def ajN:=@List.size_toArray.{0}
def ajO:=@Array.toList_append.{0}
def ajP:=@List.append_assoc.{0}
def ajQ:=@List.drop_append_of_le_length.{0}
def ajR:=@Nat.add_sub_cancel_left
def ajS:=@List.take_append.{0}
def ajT:=@List.take_append_of_le_length.{0}
def ajU:=@List.take_of_length_le.{0}
def ajV:=@List.drop_zero.{0}
def ajW:=@Bool.not_true
def ajX:=@Bool.true_and
def ajY:=@List.map_append.{0,0}
def ajZ:=@List.mem_flatMap.{0,0}
def aj0:=@List.map_congr_left.{0,0}
def aj1:=@List.flatMap_cons.{0,0}
def aj2:=@List.mem_cons_self.{0}
def aj3:=@List.mem_cons_of_mem.{0}
def aj4:=@List.toList_toArray.{0}
def aj5:=@Option.bind_some.{0,0}
def aj6:=@Bool.or_eq_true
def aj7:=@List.getElem?_eq_none.{0}
def aj8:=@List.mem_filter.{0}
def aj9:=@List.pairwise_cons.{0}
def aka:=@List.pairwise_append.{0}
def akb:=@List.nodup_cons.{0}
def akc:=@List.mem_range
def akd:=@List.pairwise_lt_range
def ake:=@Array.getElem?_append_left.{0}
def akf:=@Nat.le_of_not_lt
def akg:=@Nat.zero_lt_one
def akh:=@List.nil_append.{0}
def aki:=@Nat.le_of_ble_eq_true
def akj:=@List.drop_append.{0}
def akk:=@List.drop_eq_nil_of_le.{0}
def akl:=@Nat.add_sub_cancel
def akm:=@List.drop_drop.{0}
def akn:=@List.take_append_drop.{0}
def ako:=@Nat.zero_mul
def akp:=@Nat.div_lt_of_lt_mul
def akq:=@List.length_pos_iff.{0}
def akr:=@List.append_nil.{0}
def aks:=@List.cons_append.{0}
def akt:=@List.drop_succ_cons.{0}
def aku:=@List.take_succ_cons.{0}
def akv:=@List.append_inj.{0}
def akw:=@List.drop_eq_getElem_cons.{0}
def akx:=@List.take_zero.{0}
def aky:=@Array.getElem?_setIfInBounds.{0}
def akz:=@Option.isSome_some.{0}
def akA:=@Bool.false_and
def akB:=@Nat.one_ne_zero
def akC:=@List.length_set.{0}
def akD:=@List.take_length.{0}
def akE:=@List.ext_getElem?.{0}
def akF:=@List.Perm.refl.{0}
def akG:=@Int.lt_trichotomy
def akH:=@Nat.mul_pos
def akI:=@Nat.div_add_mod
def akJ:=@List.pairwise_map.{0,0}
def akK:=@List.pairwise_iff_getElem.{0}
def akL:=@Int.mul_comm
def akM:=@Int.mul_one
def akN:=@Int.mul_le_mul_of_nonneg_left
def akO:=@Int.mul_add
def akP:=@Int.mul_assoc
def akQ:=@List.take_add_one.{0}
def akR:=@Nat.and_two_pow_sub_one_eq_mod
def akS:=@Int.fdiv_eq_ediv_of_nonneg
def akT:=@List.getElem_set_ne.{0}
def akU:=@Int.mul_sub
def akV:=@Int.ediv_nonneg
def akW:=@Int.ediv_lt_of_lt_mul
def akX:=@Int.emod_lt_of_pos
def akY:=@Int.mul_ediv_add_emod
def akZ:=@Int.mul_nonneg
def ak0:=@Int.mul_le_mul
def ak1:=@Int.mul_left_comm
def ak2:=@Int.add_mul
def ak3:=@Int.mul_zero
def ak4:=@Int.one_mul
def ak5:=@Int.mul_le_mul_of_nonneg_right
def ak6:=@Nat.div_eq_of_lt
def ak7:=@Int.add_zero
def ak8:=@Int.natAbs_mul
def ak9:=@List.getLast?_eq_some_getLast.{0}
def ala:=@Int.sign_eq_one_of_pos
def alb:=@Int.sign_eq_neg_one_of_neg
def alc:=@Nat.gcd_zero_right
def ald:=@Nat.pos_of_ne_zero
def ale:=@Nat.gcd_le_right
def alf:=@Bool.not_false
def alg:=@List.head?_drop.{0}
def alh:=@List.length_mapIdx.{0,0}
def alj:=@List.getElem?_mapIdx.{0,0}
def alk:=@List.getElem?_set_self.{0}
def aln:=@List.getElem?_set_ne.{0}
def alo:=@List.take_succ_eq_append_getElem.{0}
def alp:=@Nat.mul_le_mul
def alq:=@List.map_map.{0,0,0}
def alr:=@List.length_filter_le.{0}
def als:=@List.filter_append.{0}
def alu:=@List.filter_cons_of_pos.{0}
def alv:=@List.filter_cons_of_neg.{0}
def alw:=@List.mem_nil_iff.{0}
def alx:=@List.getElem?_replicate.{0}
def aly:=@List.range_succ
def alz:=@Rat.mul_nonneg
def alA:=@Nat.lt_trichotomy
def alB:=@Option.getD_none.{0}
def alC:=@Rat.div_mul_cancel
def alE:=@Nat.pow_le_pow_right
def alF:=@Bool.true_eq_false
def alG:=@List.foldl_append.{0,0}
def alH:=@Array.replicate_succ.{0}
def alI:=@Array.replicate_zero.{0}
def alJ:=@List.push_toArray.{0}
def alK:=@List.append_toArray.{0}
def alL:=@Addr.add_lit
def alM{α:Type}{a:α}:a=a:=Eq.trans rfl rfl
end Go.Proofs.YtokgehacmjmfkaaGreat
namespace Go.Proofs.YtokgehacmjmfkaaGreat.Am
open Go.RowKit
abbrev dx:=Int×Option Int
def mg:dx->Value
 | (n,none) =>.int .i64 n
 | (a,some b) =>.agg #[.int .i64 a,.int .i64 b]
def Iy (k:dx):Bool:=k.2.isSome
def Z2 {k c:dx} (h:mg k=mg c):k=c:=by
 obtain⟨a,x⟩:=k;obtain⟨b,y⟩:=c;cases x<;>cases y<;>simp[mg]at h
 ·subst h;rfl
 ·obtain⟨rfl,rfl⟩:=h;rfl
inductive D where
 | int (k:IntKind) (n:Int)
 | bool (b:Bool)
 | str (s:ByteArray)
 | sl (nl tight:Bool) (n:Nat) (xs:List D)
 | ptr (x v o:Nat)
 | ip (xs:List D)
 | buf (x v s o n:Nat)
 | agg (xs:List D)
 | tup (xs:List D)
 | fn (f:Nat)
 | clo (f k:Nat) (caps:List D)
 | ali (x v s o n:Nat)
 | box1 (x v s o n:Nat)
 | mp (x v:Nat)
 | mpc (ks:List dx) (vs:List D)
 | alm (x v:Nat)
 | pm (x v y:Nat)
 | ph (x s n:Nat)
 | nx (n:Nat) (xs:List D)
 | nr (ty s nv:Nat) (cs:List D)
 | und
 | skp
structure Row where
 v:Nat
 ty:Nat
 cells:List D
 fz:Bool
 lst:Bool
 mp:Bool:=false
def bn:D->Bool
 | .int _ _ | .bool _ | .str _ | .sl _ _ _ _ | .ali _ _ _ _ _ | .mpc _ _ | .alm _ _=>true
 | _=>false
def canon:D->D
 | .sl _ _ n xs =>.sl false false n xs
 | d=>d
def jw:D->D
 | .sl _ _ n xs =>.sl false false n xs
 | .agg xs =>.agg (xs.map canon)
 | d=>d
def b6 {α:Type} (f:Nat->α) (i:Nat) (v:α):Nat->α:=fun j=>if j=i then v else f j
inductive Ds where
 | int (k:IntKind)|bool|str
 | struct (fs:List (Nat×Nat))
 | slice (e:Nat)
 | arr (n e:Nat)
 | map (k e:Nat)
 | other
structure Ty where
 ds:Ds
 size:Nat
 bytes:Nat
 zero:List Value
 eqok:Bool:=false
def conv:TypeDesc->Ds
 | .int k =>.int k
 | .bool =>.bool
 | .string =>.str
 | .struct F =>.struct (F.toList.map fun f=>(f.type,f.offset))
 | .slice e =>.slice e
 | .array n e =>.arr n e
 | .map k e =>.map k e
 | _ =>.other
def pq:Value->D
 | .int k n =>.int k n
 | .bool b =>.bool b
 | .string s =>.str s
 | .slice none 0 0 =>.sl true true 0 []
 | .map none =>.mpc [] []
 | _ =>.und
def Ds.uk:Ds->Bool
 | .struct _ | .arr _ _=>true
 | _=>false
def ev (t:Nat->D):Operand->D
 | .tmp i=>t i
 | .const v=>pq v
 | .global _ =>.und
 | .func f =>.fn f
def S6:Value->Bool
 | .agg _=>true
 | _=>false
structure eJ (P:Program) (t:Nat) (τ:Ty):Prop where
 desc:(P.underlying t).map conv=some τ.ds
 info:(P.info? t).map (fun i=>(i.size,i.bytes,i.zero.map fun z=>z.cells.toList))=some (τ.size,τ.bytes,some τ.zero)
 agg:(P.info? t).map (fun i=>i.zero.map S6)=some (some τ.ds.uk)
 eqs:τ.eqok=true->P.stoodInHeld t=false∧P.eqGuardType P.depth t=false∧(match P.underlying t with|some (.struct F)=>F.all (fun f=>f.name != "_")|_=>true)=true
def ji (P:Program) (T:Nat->Option Ty):Prop:=∀t τ,T t=some τ->eJ P t τ
inductive RP (w:World) (M:Nat->Prop):D->Value->Prop
 | int (k:IntKind) (n:Int):RP w M (.int k n) (.int k n)
 | bool (b:Bool):RP w M (.bool b) (.bool b)
 | str (s:ByteArray):RP w M (.str s) (.string s)
 | sl (A:Option Addr) (c:Nat) (nl tight:Bool) (n:Nat) (xs:List D) (us:Nat->Value) (h1:n<=c) (h2:c<=maxLen) (h3:nl=true->(tight=true->A=none∧c=0)∧(tight=false->A≠none)) (h4:A=none->n=0∧c=0)
   (h5:tight=true->c=n) (h6:xs≠[]->∃b o,A=some ⟨b,o,none⟩∧b<w.heap.size∧¬M b∧∀j,j<xs.length->w.cell? ⟨b,o+j,none⟩=some (us j))
   (h7:∀j x,xs[j]? = some x->RP w M x (us j)) (h8:∀x∈xs,bn x=true):RP w M (.sl nl tight n xs) (.slice A n c)
 | ip (xs:List D) (ad:Addr) (us:Nat->Value) (h6:xs≠[]->∃b o,ad=⟨b,o,none⟩∧b<w.heap.size∧¬M b∧∀j,j<xs.length->w.cell? ⟨b,o+j,none⟩=some (us j))
   (h7:∀j x,xs[j]? = some x->RP w M x (us j)) (h8:∀x∈xs,bn x=true):RP w M (.ip xs) (.pointer (some ad))
 | agg (xs:List D) (us:List Value) (h1:us.length=xs.length) (h2:∀j x,xs[j]? = some x->RP w M x (us.getD j undef)) (h3:∀x∈xs,bn x=true):RP w M (.agg xs) (.agg us.toArray)
 | tup (xs:List D) (us:List Value) (h1:us.length=xs.length) (h2:∀j x,xs[j]? = some x->RP w M x (us.getD j undef)):RP w M (.tup xs) (.tuple us.toArray)
 | fn (f:Nat):RP w M (.fn f) (.func (.func f) #[] #[])
 | ali (x v s o n:Nat) (u:Value) (h1:u.oneCell'=true):RP w M (.ali x v s o n) u
 | alm (x v:Nat) (u:Value) (h1:u.oneCell'=true):RP w M (.alm x v) u
 | mpc (ks:List dx) (vs:List D) (mb:Option Nat) (us:Nat->Value) (h1:vs.length=ks.length) (h2:mb=none->ks=[])
   (h3:∀b,mb=some b->b<w.heap.size∧¬M b∧∃(ents:Array MapEntry) (clock:Nat),w.heap[b]? = some (.map ents clock)∧ents.size=ks.length∧∀j k,ks[j]? = some k->∃e:MapEntry,ents[j]? = some e∧e.key=mg k∧e.val=us j)
   (h4:∀j x,vs[j]? = some x->RP w M x (us j)):RP w M (.mpc ks vs) (.map mb)
 | clo (f k:Nat) (xs:List D) (us:List Value) (h1:us.length=xs.length) (h2:∀j x,xs[j]? = some x->RP w M x (us.getD j undef)):RP w M (.clo f k xs) (.func (.func f) (us.take k).toArray (us.drop k).toArray)
def RP.keep {w t:World} {M F:Nat->Prop} (y:∀b,b<w.heap.size->¬M b->b<t.heap.size∧¬F b∧t.heap[b]? = w.heap[b]?) {d:D} {u:Value} (h:RP w M d u):RP t F d u:=by
 induction h with
 | int k n=>exact .int k n
 | bool b=>exact .bool b
 | str s=>exact .str s
 | sl A c nl tight n xs us h1 h2 h3 h4 h5 h6 h7 h8 e =>
  refine .sl A c nl tight n xs us h1 h2 h3 h4 h5 (fun g =>?_) e h8;obtain⟨b,o,z,l,B,C⟩:=h6 g;obtain⟨m,p,q⟩:=y b l B;exact⟨b,o,z,m,p,fun j E=>(ain (a:=⟨b,o+j,none⟩) q).trans (C j E)⟩
 | ip xs ad us h6 h7 h8 e =>
  refine .ip xs ad us (fun g =>?_) e h8;obtain⟨b,o,z,l,B,C⟩:=h6 g;obtain⟨m,p,q⟩:=y b l B;exact⟨b,o,z,m,p,fun j E=>(ain (a:=⟨b,o+j,none⟩) q).trans (C j E)⟩
 | agg xs us h1 h2 h3 e=>exact .agg xs us h1 e h3
 | tup xs us h1 h2 e=>exact .tup xs us h1 e
 | fn f=>exact .fn f
 | ali x v s o n u h1=>exact .ali x v s o n u h1
 | alm x v u h1=>exact .alm x v u h1
 | mpc ks vs mb us h1 h2 h3 h4 e =>
  refine .mpc ks vs mb us h1 h2 (fun b l =>?_) e;obtain⟨m,p,r,i,q,G,H⟩:=h3 b l;obtain⟨I,J,K⟩:=y b m p;exact⟨I,J,r,i,K.trans q,G,H⟩
 | clo f L xs us h1 h2 e=>exact .clo f L xs us h1 e
def RP.canon {w:World} {M:Nat->Prop} {d:D} {u:Value} (h:RP w M d u):RP w M (canon d) u:=by
 cases h with
 | sl A c nl tight n xs us h1 h2 h3 a h5 e g i=>exact .sl A c false false n xs us h1 h2 (fun h=>by cases h) a (fun h=>by cases h) e g i
 | int k n=>exact .int k n
 | bool b=>exact .bool b
 | str s=>exact .str s
 | ip xs ad us e g i=>exact .ip xs ad us e g i
 | agg xs us h1 h2 h3=>exact .agg xs us h1 h2 h3
 | tup xs us h1 h2=>exact .tup xs us h1 h2
 | fn f=>exact .fn f
 | ali x v s o n u h1=>exact .ali x v s o n u h1
 | alm x v u h1=>exact .alm x v u h1
 | mpc ks vs mb us h1 h2 h3 a=>exact .mpc ks vs mb us h1 h2 h3 a
 | clo f j xs us h1 h2=>exact .clo f j xs us h1 h2
def od (d:D):bn (canon d)=bn d:=by cases d<;>rfl
def RP.jw {w:World} {M:Nat->Prop} {d:D} {u:Value} (h:RP w M d u):RP w M (jw d) u:=by
 cases h with
 | agg xs us h1 h2 h3 =>
  refine .agg _ us (by simpa using h1) (fun j x m =>?_) (fun x p =>?_)
  ·rw[aio,aip]at m;obtain⟨y,a,rfl⟩:=m;exact (h2 j y a).canon
  ·obtain⟨y,a,rfl⟩:=aiq.1 p;rw[od];exact h3 y a
 | sl A c nl tight n xs us h1 h2 h3 e h5 g i l=>exact .sl A c false false n xs us h1 h2 (fun h=>by cases h) e (fun h=>by cases h) g i l
 | int k n=>exact .int k n
 | bool b=>exact .bool b
 | str s=>exact .str s
 | ip xs ad us g i l=>exact .ip xs ad us g i l
 | tup xs us h1 h2=>exact .tup xs us h1 h2
 | fn f=>exact .fn f
 | ali x v s o n u h1=>exact .ali x v s o n u h1
 | alm x v u h1=>exact .alm x v u h1
 | mpc ks vs mb us h1 h2 h3 e=>exact .mpc ks vs mb us h1 h2 h3 e
 | clo f q xs us h1 h2=>exact .clo f q xs us h1 h2
def RC (w:World) (M:Nat->Prop) (h:Nat->Option Row) (blk:Nat->Option (Nat×Nat)) (V:Nat->Nat->Prop):D->Value->Prop
 | .ptr x v o,u=>V x v∧∀r,h x=some r->r.v=v->∃g,blk x=some g∧u=.pointer (some ⟨g.1,g.2+o,none⟩)
 | .mp x v,u=>V x v∧∀r,h x=some r->r.v=v->∃g,blk x=some g∧u=.map (some g.1)
 | .pm x v _,u=>V x v∧∀r,h x=some r->r.v=v->∃g,blk x=some g∧u=.pointer (some ⟨g.1,g.2+0,none⟩)
 | d,u=>RP w M d u
def RT (w:World) (M:Nat->Prop) (h:Nat->Option Row) (blk:Nat->Option (Nat×Nat)) (V:Nat->Nat->Prop):D->Value->Prop
 | .ptr x v o,u=>V x v∧∀r,h x=some r->r.v=v->∃g,blk x=some g∧u=.pointer (some ⟨g.1,g.2+o,none⟩)
 | .buf x v s o n,u=>V x v∧∀r,h x=some r->r.v=v ->
   (∃g o' c N t,blk x=some g∧u=.slice (some ⟨g.1,o',none⟩) n c∧(0<c∨o=0->o'=g.2+o∧c*s+o'=N)∧n<=c∧c<=maxLen∧w.shape? g.1=some (t,N))∨(blk x=none∧n=0∧∃A,u=.slice A 0 0)
 | .clo f e xs,u=>∃a:List Value,u=.func (.func f) (a.take e).toArray (a.drop e).toArray∧a.length=xs.length∧∀(j:Nat) x,xs[j]? = some x->RC w M h blk V x (a.getD j undef)
 | .mp x v,u=>V x v∧∀r,h x=some r->r.v=v->∃g,blk x=some g∧u=.map (some g.1)
 | .pm x v _,u=>V x v∧∀r,h x=some r->r.v=v->∃g,blk x=some g∧u=.pointer (some ⟨g.1,g.2+0,none⟩)
 | .box1 x v s o n,u=>∃b:Value,u=.agg #[b]∧b.oneCell'=true∧V x v∧∀r,h x=some r->r.v=v ->
   (∃g o' c N t,blk x=some g∧b=.slice (some ⟨g.1,o',none⟩) n c∧(0<c∨o=0->o'=g.2+o∧c*s+o'=N)∧n<=c∧c<=maxLen∧w.shape? g.1=some (t,N))∨(blk x=none∧n=0∧∃A,b=.slice A 0 0)
 | .und,_=>True
 | .skp,u=>u=undef
 | d,u=>RP w M d u
def Own (M:Nat->Prop) (h:Nat->Option Row) (blk:Nat->Option (Nat×Nat)) (b:Nat):Prop:=M b∨∃x r g,h x=some r∧r.fz=false∧blk x=some g∧g.1=b
def Ym (w:World) (M:Nat->Prop) (g:Nat×Nat) (r:Row):Prop :=
 ∃a:Array Value,w.heap[g.1]? = some (.cells a r.ty (0,0))∧g.2+r.cells.length<=a.size∧∀j d,r.cells[j]? = some d->bn d=true∧RP w M d (a.getD (g.2+j) undef)
def abH (w:World) (M:Nat->Prop) (g:Nat×Nat) (c:List dx) (f:List D):Prop :=
 ∃(a:Array MapEntry) (b:Nat),w.heap[g.1]? = some (.map a b)∧a.size=c.length∧MapKept.Stamped a b∧∃d:Nat->Value,(∀j k,c[j]? = some k->∃e:MapEntry,a[j]? = some e∧e.key=mg k∧e.val=d j)∧∀j x,f[j]? = some x->RP w M x (d j)
def No (w:World) (M:Nat->Prop) (g:Nat×Nat) (m:Nat) (f:List dx) (n:List D):Prop :=
 g.2=0∧∃(b:Nat) (d:Array MapEntry) (a:Nat) (seen:Array Nat) (c l:List Nat) (h:Nat->Value),w.heap[g.1]? = some (.mapIter (some b) a seen a)∧b<w.heap.size∧¬M b∧w.heap[b]? = some (.map d a)∧MapKept.Stamped d a ∧
  c.length=m-900000∧c.length<=1∧(c++l).length=f.length∧l.Nodup∧(∀i,i∈l↔∃e:MapEntry,d[i]? = some e∧seen.contains e.born=false)∧(∀i,i∈c->∃e:MapEntry,d[i]? = some e∧seen.back? = some e.born) ∧
  (∀j k,f[j]? = some k->∃(i:Nat) (e:MapEntry),(c++l)[j]? = some i∧d[i]? = some e∧e.key=mg k∧e.val=h j)∧∀j x,n[j]? = some x->RP w M x (h j)
def AB (w:World) (M:Nat->Prop) (g:Nat×Nat) (r:Row):Prop :=
 ∃a b,r.cells=[.mpc a b]∧b.length=a.length∧(r.ty<900000->abH w M g a b)∧(900000<=r.ty->No w M g r.ty a b)
def phC:D->Bool
 | .ph _ _ _ | .und | .int _ _ | .bool _ | .str _ | .sl _ _ _ _=>true
 | _=>false
def EG (w:World) (M:Nat->Prop):D->Value->Prop
 | .ph _ _ _,_=>True
 | .und,_=>True
 | d,u=>RP w M d u
def EI (w:World) (M:Nat->Prop) (g:Nat×Nat) (r:Row):Prop:=(∀d∈r.cells,phC d=true)∧∃a:Array Value,w.heap[g.1]? = some (.cells a r.ty (0,0))∧g.2+r.cells.length<=a.size∧∀j d,r.cells[j]? = some d->EG w M d (a.getD (g.2+j) undef)
def ez (w:World) (M:Nat->Prop) (g:Nat×Nat) (r:Row):Prop :=
 match r.mp with
 | true=>AB w M g r∨EI w M g r
 | false=>Ym w M g r
def Ut (L:Nat->Prop) (w0 w:World) (M:Nat->Prop) (g:Option (Nat×Nat)) (r:Row):Prop :=
 match g with
 | some g=>(w0.heap.size<=g.1∨L g.1)∧ez w M g r
 | none=>r.cells=[]
def aa2:Option Nat:=none
def aeF:Array Value:=((List.range 20).map fun i=>Value.int .u64 ((10 ^ i:Nat):Int)).toArray
structure Uw (w:World) (M:Nat->Prop) (b:Nat):Prop where
 lt:b<w.heap.size
 no:¬M b
 is:∃ty fr,w.heap[b]? = some (.cells aeF ty fr)
def Uw.less {w:World} {M1 a:Nat->Prop} {b:Nat} (h:Uw w M1 b) (c:∀b,a b->M1 b):Uw w a b:=⟨h.lt,fun d=>h.no (c _ d),h.is⟩
def Ww (w:World) (M:Nat->Prop):Prop:=∀b,aa2=some b->Uw w M b
def Ww.keep {w a:World} {M c:Nat->Prop} (d:∀b,b<w.heap.size->¬M b->b<a.heap.size∧¬c b∧a.heap[b]? = w.heap[b]?) (h:Ww w M):Ww a c:=fun b e=>by
 obtain⟨f,g,i,j,k⟩:=h b e;obtain⟨l,m,n⟩:=d b f g;exact⟨l,m,i,j,n.trans k⟩
structure ee (L:Nat->Prop) (w0 w:World):Prop where
 os:w.os=w0.os
 tape:w.tape=w0.tape
 output:w.output=w0.output
 size:w0.heap.size<=w.heap.size
 block:∀k,k<w0.heap.size->¬L k->w.heap[k]? = w0.heap[k]?
def alD:D->Option D
 | .ali x v s o n=>some (.buf x v s o n)
 | .alm x v=>some (.mp x v)
 | _=>none
abbrev kx:=Option (Option (Nat×Nat)×(Nat->Prop))
def LB (L:kx) (b:Nat):Prop:=∃p,L=some p∧((∃g:Nat×Nat,p.1=some g∧b=g.1)∨p.2 b)
def Mf (a:Option (Nat×Nat)):kx:=some (a,fun _=>False)
def qw {b:Nat} : ¬LB none b:=fun⟨_,h,_⟩=>by cases h
def Ll {a:Option (Nat×Nat)} {b:Nat} : LB (Mf a) b↔∃g,a=some g∧b=g.1 :=
 ⟨fun⟨p,c,d⟩=>by cases c;exact d.elim id False.elim,fun h=>⟨_,rfl,.inl h⟩⟩
def PK:Nat:=1000000
def NK (y j:Nat):Nat:=PK*(j+2)+y
def R8 (y j x:Nat):Prop:=y<PK∧(x=PK+y∨x=NK y j)
def PhR (w:World) (h:Nat->Option Row) (blk:Nat->Option (Nat×Nat)) (x s n:Nat) (u:Value):Prop:=∀r,h x=some r ->
 (∃g c a b,blk x=some g∧u=.slice (some ⟨g.1,g.2,none⟩) n c∧c*s+g.2=a∧n<=c∧c<=maxLen∧w.shape? g.1=some (b,a))∨(blk x=none∧n=0∧∃A,u=.slice A 0 0)
structure j0 (N:Nat) (V:Nat->Nat->Prop) (d e:Nat):Prop where
 no:¬V d e
 lt:d<N
structure Inv (N:Nat) (M:Nat->Prop) (L:kx) (w0:World) (blk:Nat->Option (Nat×Nat)) (V:Nat->Nat->Prop) (t:Nat->D) (h:Nat->Option Row) (a:Act) (w:World):Prop where
 tab:Ww w (Own M h blk)
 below:ee (LB L) w0 w
 mlt:∀b,M b->b<w0.heap.size
 lent:∀b,LB L b->¬M b
 pin:∀go,L=some go->V 0 0∧∀r,h 0=some r->r.v=0->blk 0=go.1∧∀g,go.1=some g->w.shape? g.1=w0.shape? g.1
 defers:a.defers=[]
 tsz:a.tmps.size=N
 slots:∀i,RT w (Own M h blk) h blk V (t i) (a.tmps.getD i undef)
 rows:∀x r,h x=some r->(x<N->V x r.v)∧Ut (LB L) w0 w (Own M h blk) (blk x) r
 inj:∀x y r s g g',h x=some r->h y=some s->blk x=some g->blk y=some g'->g.1=g'.1->x=y
 ali:∀y r g,h y=some r->r.fz=true->r.lst=false->blk y=some g->∀j c d,r.cells[j]? = some c->alD c=some d->∃u,w.cell? ⟨g.1,g.2+j,none⟩=some u∧RT w (Own M h blk) h blk V d u
 big:N<=PK
 pha:∀y r g,h y=some r->r.mp=true->blk y=some g->∀j x s n:Nat,r.cells[j]? = some (D.ph x s n)->R8 y j x∧∃u,w.cell? ⟨g.1,g.2+j,none⟩=some u∧PhR w h blk x s n u
def jr:D->List Nat
 | .ptr x _ _=>[x]
 | .box1 x _ _ _ _=>[x]
 | .mp x _=>[x]
 | .pm x _ y=>[x,y]
 | .buf x _ _ _ _=>[x]
 | _=>[]
def nm:D->List Nat
 | .clo _ _ xs=>xs.flatMap jr
 | d=>jr d
def live (h:Nat->Option Row) (x v:Nat):Option Row :=
 match h x with
 | some r=>if r.v=v∧r.mp=false then some r else none
 | none=>none
def pM (h:Nat->Option Row) (x v:Nat):Option Row :=
 match h x with
 | some r=>if r.v=v then some r else none
 | none=>none
def uo (h:Nat->Option Row) (x v:Nat):Option (Row×Nat×Nat×Nat) :=
 match h x with
 | some r=>if r.v=v∧r.mp=true then (match r.cells with | [.ph y s n]=>some (r,y,s,n)|_=>none) else none
 | none=>none
def lS (h:Nat->Option Row) (x v:Nat):Option (List dx×List D) :=
 match h x with
 | some r=>if r.v=v∧r.mp=true∧r.ty<900000 then (match r.cells with | [.mpc a b]=>some (a,b)|_=>none) else none
 | none=>none
def vx (r:Row):Bool :=
 match r.mp,r.cells with
 | true,[.mpc _ _]=>decide (r.ty<900000)
 | true,_=>false
 | false,_=>true
def Ac (h:Nat->Option Row) (x v:Nat):Option Row :=
 match h x with
 | some r=>if r.v=v∧r.mp=true∧vx r=true then some r else none
 | none=>none
def A9 (d:D) (h:Nat->Option Row) (x v:Nat):Option Row :=
 match d with
 | .mp _ _=>Ac h x v
 | _=>live h x v
def content (h:Nat->Option Row):D->Option (Nat×List D)
 | .sl _ _ n xs=>some (n,xs)
 | .buf x v s o n =>
  match live h x v with
  | some r=>if o+n*s<=r.cells.length then some (n,(r.cells.drop o).take (n*s)) else none
  | none=>none
 | _=>none
def dU (h:Nat->Option Row):D->Option (D×List Nat)
 | .int k n=>some (.int k n,[])
 | .bool b=>some (.bool b,[])
 | .str s=>some (.str s,[])
 | .sl a b n xs=>some (.sl a b n xs,[])
 | .buf x v s o n =>
  match live h x v with
  | some r=>if o+n*s<=r.cells.length then some (.sl false false n ((r.cells.drop o).take (n*s)),[x]) else none
  | none=>none
 | _=>none
def gx (h:Nat->Option Row):D->Option (List D×List Nat)
 | .agg xs=>some (xs,[])
 | d =>
  match dU h d with
  | some (a,fr)=>some ([a],fr)
  | none=>none
def bF (h:Nat->Option Row):D->Option (D×List Nat)
 | .ptr x v o =>
  match live h x v with
  | some r=>if o<=r.cells.length then some (.ip (r.cells.drop o),[x]) else none
  | none=>none
 | .agg xs=>some (.agg (xs.map canon),[])
 | .ip xs=>some (.ip xs,[])
 | .fn f=>some (.fn f,[])
 | .box1 x v s o n =>
  match dU h (.buf x v s o n) with
  | some (a,fr)=>some (.agg [canon a],fr)
  | none=>none
 | .mp x v =>
  match lS h x v with
  | some (ks,vs)=>some (.mpc ks vs,[x])
  | none=>none
 | .mpc ks vs=>some (.mpc ks vs,[])
 | .pm x v y =>
  match live h x v with
  | some r =>
   match r.cells with
   | [.alm b c] =>
    if r.fz=true∧r.lst=false∧b=y then
     match lS h y c with
     | some (ks,vs)=>some (.ip [.mpc ks vs],[x,y])
     | none=>none
    else none
   | _=>none
  | none=>none
 | d =>
  match dU h d with
  | some (a,fr)=>some (canon a,fr)
  | none=>none
def dJ (h:Nat->Option Row):List D->Option (List D×List Nat)
 | []=>some ([],[])
 | d::c =>
  match bF h d with
  | some (e,fr) =>
   match dJ h c with
   | some (a,b)=>some (e::a,fr++b)
   | none=>none
  | none=>none
def ch (h:Nat->Option Row):D->Option (D×List Nat)
 | .clo f a b =>
  match dJ h b with
  | some (c,fr)=>some (.clo f a c,fr)
  | none=>none
 | d=>bF h d
def bQ (h:Nat->Option Row):List D->Option (List D×List Nat)
 | []=>some ([],[])
 | d::c =>
  match ch h d with
  | some (e,fr) =>
   match bQ h c with
   | some (a,b)=>some (e::a,fr++b)
   | none=>none
  | none=>none
def wq (r:Row):Row :=
 match r.fz with
 | true=>r
 | false=>{ r with fz:=true,lst:=true }
def kb (h:Nat->Option Row) (a:List Nat):List (Nat×Option Row):=a.map fun x=>(x,(h x).map wq)
structure ca where
 val:D
 hw:List (Nat×Option Row)
def aR (h:Nat->Option Row):List (Nat×Option Row)->Nat->Option Row
 | []=>h
 | (x,r)::l=>aR (b6 h x r) l
def th (b:Bool) (a:List D):List D:=if b then a.map canon else a
def putCells (cells:List D) (o:Nat) (a:List D):List D:=cells.take o++a++cells.drop (o+a.length)
def kU (τ:Ty) (a:List D):Option D :=
 if τ.ds.uk then some (.agg a) else match a with | [d]=>some d|_=>none
def ad4 (b:Bool):List D->Option D
 | [.ali x v s o n]=>some (if b then .box1 x v s o n else .buf x v s o n)
 | _=>none
def ff (τ:Ty) (h:Nat->Option Row):D->Option ca
 | .ptr x v o =>
  match live h x v with
  | some r=>if o+τ.size<=r.cells.length then (match kU τ ((r.cells.drop o).take τ.size) with|some d=>some ⟨d,[]⟩|none=>none) else none
  | none=>none
 | .ip a=>if τ.size<=a.length then (match kU τ (a.take τ.size) with|some d=>some ⟨d,[]⟩|none=>none) else none
 | _=>none
def tD (τ:Ty) (h:Nat->Option Row) (x v o:Nat):Option Row->Option ca
 | some r =>
  if r.fz && !r.lst then
   if o+τ.size<=r.cells.length then
    match ad4 τ.ds.uk ((r.cells.drop o).take τ.size) with
    | some d=>some ⟨d,[]⟩
    | none=>ff τ h (.ptr x v o)
   else none
  else ff τ h (.ptr x v o)
 | none=>none
def zB (τ:Ty) (h:Nat->Option Row) (x v y:Nat):Option (Row×Nat×Nat×Nat)->Option ca
 | some (_,a,s,n) =>
  match h y with
  | some r=>if a=y∧y=PK+x∧r.mp=false∧r.lst=true∧r.cells.length=n*s∧τ.size=1 then some ⟨if τ.ds.uk then .agg [.sl false false n r.cells] else .sl false false n r.cells,kb h [y]⟩ else none
  | none=>none
 | none=>none
def rL (τ:Ty) (h:Nat->Option Row):D->Option ca
 | .ptr x v o=>tD τ h x v o (live h x v)
 | .pm x v y =>
  match live h x v with
  | some r =>
   match r.cells with
   | [.alm a b]=>if r.fz=true∧r.lst=false∧τ.size=1∧τ.ds.uk=false then some ⟨.mp a b,[]⟩ else none
   | _=>none
  | none=>zB τ h x v y (uo h x v)
 | d=>ff τ h d
def im (τ:Ty) (h:Nat->Option Row):D->D->Option ca
 | .ptr x v o,d =>
  match live h x v with
  | some r =>
   match gx h d with
   | some (a,b)=>if a.length=τ.size∧o+τ.size<=r.cells.length∧r.fz=false∧b.contains x=false then some ⟨.und,kb h b++[(x,some { r with cells:=putCells r.cells o (th r.lst a) })]⟩ else none
   | none=>none
  | none=>none
 | _,_=>none
def il (τ:Ty) (h:Nat->Option Row) (p d:D):Option ca :=
 match d with
 | .box1 y a s b n =>
  match p with
  | .ptr x v o =>
   match live h x v with
   | some r=>if τ.size=1∧o=0∧r.cells.length=1∧r.fz=false∧r.lst=false then some ⟨.und,[(x,some ⟨r.v,r.ty,[.ali y a s b n],true,false,false⟩)]⟩ else none
   | none=>none
  | .pm x v k =>
   match live h x v,live h y a with
   | some r,some q=>if τ.size=1∧b=0∧r.cells.length=1∧r.fz=false∧r.lst=false∧q.fz=false∧q.lst=true∧q.cells.length=n*s∧x≠y∧k=PK+x∧x<PK then
     some ⟨.und,[(y,none),(k,some ⟨0,q.ty,q.cells,false,true,false⟩),(x,some ⟨r.v,r.ty,[.ph k s n],false,false,true⟩)]⟩ else none
   | _,_=>none
  | _=>none
 | .mp c e =>
  match p with
  | .pm x v y =>
   match live h x v with
   | some r=>if τ.size=1∧c=y∧r.cells.length=1∧r.fz=false∧r.lst=false∧(lS h y e).isSome then some ⟨.und,[(x,some ⟨r.v,r.ty,[.alm c e],true,false,false⟩)]⟩ else none
   | none=>none
  | _=>none
 | d=>im τ h p d
def oN (h:Nat->Option Row):D->Option ca
 | .ptr x v o=>match pM h x v with|some _=>some ⟨.ptr x v o,[]⟩|none=>none
 | .ip xs=>some ⟨.ip xs,[]⟩
 | _=>none
def gh (T:Nat->Option Ty) (τ:Ty) (h:Nat->Option Row) (i:Nat):D->Option ca
 | .ptr x v o =>
  match pM h x v,τ.ds with
  | some _,.struct b=>match b[i]? with
   | some (c,a)=>match T c with|some φ=>if φ.size=0 then none else some ⟨.ptr x v (o+a),[]⟩|none=>none
   | none=>none
  | _,_=>none
 | .pm x v k =>
  match uo h x v,τ.ds with
  | some _,.struct b=>match b[i]? with
   | some (c,0)=>match T c with|some φ=>if φ.size=0 then none else some ⟨.pm x v k,[]⟩|none=>none
   | _=>none
  | _,_=>none
 | .ip d =>
  match τ.ds with
  | .struct b=>match b[i]? with
   | some (c,a)=>match T c with|some φ=>if φ.size=0 then none else some ⟨.ip (d.drop a),[]⟩|none=>none
   | none=>none
  | _=>none
 | _=>none
def VP (φ:Ty) (b:List D) (a:Nat):Option D :=
 if φ.ds.uk then (if a+φ.size<=b.length then some (.agg ((b.drop a).take φ.size)) else none) else b[a]?
def A1 (T:Nat->Option Ty) (τ:Ty) (i:Nat):D->Option ca
 | .agg b =>
  match τ.ds with
  | .struct c=>match c[i]? with
   | some (e,a)=>match T e with|some φ=>(match VP φ b a with|some d=>some ⟨d,[]⟩|none=>none)|none=>none
   | none=>none
  | _=>none
 | _=>none
def cF (T:Nat->Option Ty) (τ:Ty) (h:Nat->Option Row):D->D->Option ca
 | .sl _ _ n a,.int _ i =>
  match τ.ds with
  | .slice el=>match T el with|some φ=>if 0<=i∧i<n then some ⟨.ip (a.drop (i.toNat*φ.size)),[]⟩ else none|none=>none
  | _=>none
 | .buf x v s o n,.int _ i =>
  match pM h x v,τ.ds with
  | some _,.slice el=>match T el with|some φ=>if φ.size=s∧0<=i∧i<n then some ⟨.ptr x v (o+i.toNat*s),[]⟩ else none|none=>none
  | _,_=>none
 | .ptr x v o,.int _ i =>
  match live h x v,τ.ds with
  | some _,.arr n el=>match T el with|some φ=>if 0<=i∧i<n then some ⟨.ptr x v (o+i.toNat*φ.size),[]⟩ else none|none=>none
  | _,_=>none
 | _,_=>none
def mc (T:Nat->Option Ty) (τ:Ty):D->D->Option ca
 | .str s,.int _ i =>
  match τ.ds with
  | .str=>if 0<=i then (match s[i.toNat]? with|some b=>some ⟨.int .u8 b.toNat,[]⟩|none=>none) else none
  | _=>none
 | .agg a,.int _ i =>
  match τ.ds with
  | .arr n el=>match T el with|some φ=>if 0<=i∧i<n then (match VP φ a (i.toNat*φ.size) with|some d=>some ⟨d,[]⟩|none=>none) else none|none=>none
  | _=>none
 | _,_=>none
def sd:D->Option Nat
 | .int _ i=>if 0<=i then some i.toNat else none
 | _=>none
def zt (n:Nat) (a b:Option D):Option (Nat×Nat) :=
 match (match b with|none=>some n|some d=>sd d),(match a with|none=>some 0|some d=>sd d) with
 | some h,some l=>if l<=h∧h<=n then some (l,h) else none
 | _,_=>none
def ik (T:Nat->Option Ty) (τ:Ty) (h:Nat->Option Row) (x:D) (b a c:Option D):Option ca :=
 match x with
 | .str s =>
  match τ.ds,c,zt s.size b a with
  | .str,none,some (l,k)=>some ⟨.str (s.extract l k),[]⟩
  | _,_,_=>none
 | .sl nl tight n d =>
  match τ.ds with
  | .slice el =>
   match T el,zt n b a with
   | some φ,some (l,k) =>
    match c with
    | none=>some ⟨.sl (nl&&tight) (tight&&k==n) (k-l) ((d.drop (l*φ.size)).take ((k-l)*φ.size)),[]⟩
    | some m=>match sd m,a with
     | some m,some _=>if k<=m∧m<=n then some ⟨.sl false (m==k) (k-l) ((d.drop (l*φ.size)).take ((k-l)*φ.size)),[]⟩ else none
     | _,_=>none
   | _,_=>none
  | _=>none
 | .buf y v s o n =>
  match live h y v,τ.ds,c with
  | some _,.slice el,none =>
   match T el,zt n b a with
   | some φ,some (l,k)=>if φ.size=s∧0<s then some ⟨.buf y v s (o+l*s) (k-l),[]⟩ else none
   | _,_=>none
  | _,_,_=>none
 | _=>none
def jK (h:Nat->Option Row) (a:Nat->Option (Nat×Nat)) (cells:List D):List (Nat×D)->Option (List D×List Nat)
 | []=>some (cells,[])
 | (i,d)::c =>
  match a i,gx h d with
  | some (e,b),some (g,fr) =>
   if g.length=b∧e+b<=cells.length then
    match jK h a (putCells cells e g) c with
    | some (out,f)=>some (out,fr++f)
    | none=>none
   else none
  | _,_=>none
def fieldAt (T:Nat->Option Ty) (b:List (Nat×Nat)) (i:Nat):Option (Nat×Nat) :=
 match b[i]? with
 | some (c,a)=>match T c with|some φ=>some (a,φ.size)|none=>none
 | none=>none
def ij (T:Nat->Option Ty) (τ:Ty) (h:Nat->Option Row) (parts:List (Nat×D)):Option ca :=
 match τ.ds with
 | .struct a =>
  if (a.all fun f=>(T f.1).isSome)&&(τ.zero.map pq).all bn then
   match jK h (fieldAt T a) (τ.zero.map pq) parts with
   | some (cs,fr)=>some ⟨.agg cs,kb h fr⟩
   | none=>none
  else none
 | _=>none
def alive (h:Nat->Option Row):D->Bool
 | .ptr x v _=>(pM h x v).isSome
 | .buf x v _ _ _=>(pM h x v).isSome
 | _=>true
def cE:Option ca->Option ca
 | some ⟨.agg cs,hw⟩=>some ⟨.agg (cs.map canon),hw⟩
 | _=>none
def rJ (q:Nat->Bool) (T:Nat->Option Ty) (τ:Ty) (h:Nat->Option Row) (b:Option Nat) (parts:List (Nat×D)):Option ca :=
 match b with
 | some d =>
  if q d then ij T τ h parts else
   match τ.ds,parts with
   | .struct a,[(0,.buf x v s o n)]=>if (alive h (.buf x v s o n))∧(a.all fun f=>(T f.1).isSome)∧fieldAt T a 0=some (0,1)∧τ.zero.length=1 then some ⟨.box1 x v s o n,[]⟩ else none
   | .struct a,[(0,.box1 x v s o n)]=>if (alive h (.buf x v s o n))∧(a.all fun f=>(T f.1).isSome)∧fieldAt T a 0=some (0,1)∧τ.zero.length=1 then some ⟨.box1 x v s o n,[]⟩ else none
   | _,_=>cE (ij T τ h parts)
 | none=>ij T τ h parts
def oY (n:Nat) (a:List D):List D:=(List.replicate n a).flatten
def eL (T:Nat->Option Ty) (τ:Ty) (h:Nat->Option Row) (e d len:Nat) (parts:List (Nat×D)):Option ca :=
 match τ.ds with
 | .slice el =>
  match T el with
  | some φ =>
   if len*φ.size<=16777216∧0<φ.size∧(φ.zero.map pq).all bn=true∧φ.zero.length=φ.size then
    match jK h (fun i=>some (i*φ.size,φ.size)) (oY len (φ.zero.map pq)) parts with
    | some (b,a)=>if a.contains d=false then some ⟨.buf d e φ.size 0 len,kb h a++[(d,some ⟨e,el,b.map canon,false,true,false⟩)]⟩ else none
    | none=>none
   else none
  | none=>none
 | _=>none
def sY (T:Nat->Option Ty) (τ:Ty) (e d:Nat) (l c:D):Option ca :=
 match τ.ds with
 | .slice el =>
  match T el,sd l,sd c with
  | some φ,some l,some c =>
   if l<=c∧c<=maxLen∧c*φ.bytes<=140737488355328∧0<φ.size∧(φ.zero.map pq).all bn=true∧φ.zero.length=φ.size then
    some ⟨.buf d e φ.size 0 l,[(d,some ⟨e,el,oY l ((φ.zero.map pq).map canon),false,true,false⟩)]⟩
   else none
  | _,_,_=>none
 | _=>none
def kj (T:Nat->Option Ty) (τ:Ty) (h:Nat->Option Row) (e d:Nat) (s x:D):Option ca :=
 match τ.ds with
 | .slice el =>
  match T el,content h x with
  | some φ,some (m,a) =>
   if 0<φ.size∧φ.zero.length=φ.size then
    match s with
    | .sl c tight n b =>
     if tight=true∧n+m<=maxLen∧(n+m)*φ.bytes<=140737488355328∧b.length=n*φ.size∧a.length=m*φ.size then
      if m=0 then some ⟨.sl c tight n b,[]⟩ else some ⟨.buf d e φ.size 0 (n+m),[(d,some ⟨e,el,b++a,false,true,false⟩)]⟩
     else none
    | .buf y v z o n =>
     match live h y v with
     | some r =>
      if z=φ.size∧r.ty=el∧r.fz=false∧o+n*φ.size<=r.cells.length∧n+m<=maxLen∧(n+m)*φ.bytes<=140737488355328∧a.length=m*φ.size then
       some ⟨.buf d e φ.size 0 (n+m),[(y,none),(d,some ⟨e,el,(r.cells.drop o).take (n*φ.size)++a,false,true,false⟩)]⟩
      else none
     | none=>none
    | _=>none
   else none
  | _,_=>none
 | _=>none
def Xe:D->Option dx
 | .int .i64 n=>some (n,none)
 | .agg [.int .i64 a,.int .i64 b]=>some (a,some b)
 | _=>none
def s6 (z:D):List dx->List D->dx->D
 | k::a,v::b,n=>if k=n then v else s6 z a b n
 | _,_,_=>z
def Ak (a:List dx) (n:dx):List dx:=if a.contains n then a else a++[n]
def Ed (a:List dx) (b:List D) (n:dx) (d:D):List D:=if a.contains n then b.set (a.idxOf n) d else b++[d]
def xt (T:Nat->Option Ty) (κ:Ty):Option Bool :=
 match κ.ds with
 | .int .i64=>some false
 | .struct [(a,0),(b,1)]=>match T a,T b with
  | some α,some β=>match α.ds,β.ds with
   | .int .i64,.int .i64=>if κ.eqok then some true else none
   | _,_=>none
  | _,_=>none
 | _=>none
def Gp (T:Nat->Option Ty) (τ:Ty):Option (Bool×Ty) :=
 match τ.ds with
 | .map k el=>match T k,T el with
  | some κ,some φ=>match xt T κ with|some b=>some (b,φ)|none=>none
  | _,_=>none
 | _=>none
def oM (T:Nat->Option Ty) (a:Nat) (τ:Ty) (e d:Nat):Option ca :=
 match Gp T τ with
 | some _=>if 900000<=a then none else some ⟨.mp d e,[(d,some ⟨e,a,[.mpc [] []],false,true,true⟩)]⟩
 | none=>none
def mapOf (h:Nat->Option Row):D->Option (List dx×List D)
 | .mp x v=>lS h x v
 | .mpc ks vs=>some (ks,vs)
 | _=>none
def rY (b:Bool) (n:dx) (a:List dx):Bool:=Iy n==b&&a.all fun k=>Iy k==b
def iL (T:Nat->Option Ty) (τ:Ty) (h:Nat->Option Row) (m i:D) (d:Bool):Option ca :=
 match Gp T τ,mapOf h m,Xe i with
 | some (b,φ),some (a,c),some n =>
  match kU φ (φ.zero.map pq) with
  | some z=>if rY b n a=true∧(φ.zero.map pq).all bn=true then some ⟨if d then .tup [s6 (jw z) a c n,.bool (a.contains n)] else s6 (jw z) a c n,[]⟩ else none
  | none=>none
 | _,_,_=>none
def y5 (h:Nat->Option Row):D->Option (D×List Nat)
 | .agg xs=>some (.agg (xs.map canon),[])
 | d =>
  match dU h d with
  | some (a,fr)=>some (canon a,fr)
  | none=>none
def ej (T:Nat->Option Ty) (τ:Ty) (h:Nat->Option Row) (m i x:D):Option ca :=
 match Gp T τ,m,Xe i,y5 h x with
 | some (b,_),.mp y v,some n,some (d,c) =>
  match h y with
  | some r =>
   match lS h y v with
   | some (a,e)=>if rY b n a=true∧r.fz=false∧c.contains y=false then some ⟨.und,kb h c++[(y,some ⟨r.v,r.ty,[.mpc (Ak a n) (Ed a e n d)],false,true,true⟩)]⟩ else none
   | none=>none
  | none=>none
 | _,_,_,_=>none
def eqC:D->D->Option Bool
 | .int k a,.int c b=>if k=c then some (a==b) else none
 | .bool a,.bool b=>some (a==b)
 | .str a,.str b=>some (a==b)
 | _,_=>none
def eqL:List D->List D->Option Bool
 | [],[]=>some true
 | x::c,y::d=>match eqC x y,eqL c d with|some a,some b=>some (a&&b)|_,_=>none
 | _,_=>none
def Rg:Ds->Bool
 | .int _ | .bool | .str=>true
 | _=>false
def kindOk:Ds->D->Bool
 | .int _,.int _ _=>true
 | .bool,.bool _=>true
 | .str,.str _=>true
 | _,_=>false
def mL (T:Nat->Option Ty):Nat->List (Nat×Nat)->List D->Bool
 | _,[],[]=>true
 | o,(a,off)::b,x::c=>off==o&&(match T a with|some φ=>kindOk φ.ds x|none=>false)&&mL T (o+1) b c
 | _,_,_=>false
def acw (a tight:Bool) (n:Nat):Option Bool:=if 0<n then some false else if a then some tight else none
def eqD (T:Nat->Option Ty) (τ:Ty):D->D->Option Bool
 | .bool a,.bool b=>match τ.ds with | .bool=>some (a==b)|_=>none
 | .sl d tight n _,.sl true true 0 []=>match τ.ds with | .slice _=>acw d tight n|_=>none
 | .agg c,.agg e =>
  match τ.ds with
  | .struct f=>if τ.eqok&&mL T 0 f c then eqL c e else none
  | _=>none
 | _,_=>none
def EW (c:BinOp) (k:IntKind) (x y:Int):Int :=
 let a:=BitVec.ofInt k.bits x
 let b:=BitVec.ofInt k.bits y
 match c with
 | .and=>k.wrap (a &&& b).toNat
 | .or=>k.wrap (a ||| b).toNat
 | .xor=>k.wrap (a ^^^ b).toNat
 | _=>k.wrap (a &&& ~~~b).toNat
def jl (a:BinOp) (k:IntKind) (x y:Int):Option D :=
 match a with
 | .add=>some (.int k (k.wrap (x+y)))
 | .sub=>some (.int k (k.wrap (x-y)))
 | .mul=>some (.int k (k.wrap (x*y)))
 | .quo=>if y=0 then none else some (.int k (k.wrap (x.tdiv y)))
 | .rem=>if y=0 then none else some (.int k (x.tmod y))
 | .and=>some (.int k (EW .and k x y))
 | .or=>some (.int k (EW .or k x y))
 | .xor=>some (.int k (EW .xor k x y))
 | .andNot=>some (.int k (EW .andNot k x y))
 | .eql=>some (.bool (x==y))
 | .neq=>some (.bool (x != y))
 | .lss=>some (.bool (x<y))
 | .leq=>some (.bool (x<=y))
 | .gtr=>some (.bool (x>y))
 | .geq=>some (.bool (x>=y))
 | _=>none
def Ix (a:BinOp) (x y:ByteArray):Option D :=
 match a with
 | .add=>if ((x.size+y.size:Nat):Int)>IntKind.i64.max then none else some (.str (x++y))
 | .eql=>some (.bool (x.toList==y.toList))
 | .neq=>some (.bool !(x.toList==y.toList))
 | .lss=>some (.bool (Op.bytesLess x.toList y.toList))
 | .leq=>some (.bool (Op.bytesLess x.toList y.toList||x.toList==y.toList))
 | .gtr=>some (.bool !(Op.bytesLess x.toList y.toList||x.toList==y.toList))
 | .geq=>some (.bool !Op.bytesLess x.toList y.toList)
 | _=>none
def Ap (a:BinOp) (k:IntKind) (x y:Int):Option D :=
 if y<0 then none else
 match a with
 | .shl=>some (.int k (k.wrap (x*2 ^ (min y.toNat k.bits))))
 | .shr=>some (.int k (x.fdiv (2 ^ (min y.toNat k.bits))))
 | _=>none
def mB:BinOp->Bool
 | .shl | .shr=>true
 | _=>false
def EV (T:Nat->Option Ty) (e:Nat) (d:BinOp) (a b:D):Option D :=
 match a,b with
 | .int k x,.int f y=>if mB d then Ap d k x y else if k=f then jl d k x y else none
 | .str x,.str y=>Ix d x y
 | a,b =>
  match T e with
  | some τ =>
   match d with
   | .eql=>match eqD T τ a b with|some c=>some (.bool c)|none=>none
   | .neq=>match eqD T τ a b with|some c=>some (.bool !c)|none=>none
   | _=>none
  | none=>none
def XY (a:UnOp):D->Option D
 | .int k n=>match a with
  | .neg=>some (.int k (k.wrap (0-n)))
  | .xor=>some (.int k (EW .xor k (if k.signed then -1 else k.max) n))
  | _=>none
 | .bool b=>match a with | .not=>some (.bool !b)|_=>none
 | _=>none
mutual
def jx:D->Bool
 | .int _ _ | .bool _ | .str _=>true
 | .agg xs | .tup xs=>rS xs
 | _=>false
def rS:List D->Bool
 | []=>true
 | x::xs=>jx x&&rS xs
end
def D9:D->Option Nat
 | .str s=>some s.size
 | .sl _ _ n _=>some n
 | .buf _ _ _ _ n=>some n
 | _=>none
def Ae (f:Int->Int->Int) (k:IntKind):Int->List D->Option Int
 | x,[]=>some x
 | x,.int a y::r=>if k=a then Ae f k (f x y) r else none
 | _,_=>none
def dV (T:Nat->Option Ty) (h:Nat->Option Row) (e:Nat) (c:Option Nat) (b:Builtin) (f:List Nat) (a:List D):Option ca :=
 match b,f,a with
 | .len,t::_,[x] =>
  if alive h x then
   match T t,D9 x with
   | some τ,some n=>match τ.ds,x with
    | .str,.str _=>some ⟨.int .i64 n,[]⟩
    | .slice _,.sl _ _ _ _=>some ⟨.int .i64 n,[]⟩
    | .slice _,.buf _ _ _ _ _=>some ⟨.int .i64 n,[]⟩
    | _,_=>none
   | some τ,none=>match τ.ds,mapOf h x with
    | .map _ _,some (g,_)=>some ⟨.int .i64 (g.length:Nat),[]⟩
    | _,_=>none
   | _,_=>none
  else none
 | .append,[t,i],[s,x] =>
  if t=i then
   match T t,c with
   | some τ,some d=>kj T τ h e d s x
   | _,_=>none
  else none
 | .max,_,.int k x::r=>match Ae (fun x y=>if y>x then y else x) k x r with|some z=>some ⟨.int k z,[]⟩|none=>none
 | .min,_,.int k x::r=>match Ae (fun x y=>if y<x then y else x) k x r with|some z=>some ⟨.int k z,[]⟩|none=>none
 | _,_,_=>none
def s9:D->Bool
 | .buf _ _ _ _ _ | .clo _ _ _ | .und | .skp | .box1 _ _ _ _ _=>false
 | _=>true
inductive RK where
 | clean (d:D)
 | same (s o n:Nat)
 | fresh (ty s n:Nat) (cells:List D)
structure Grow where
 ty:Nat
 k:Nat
 bytes:Nat
 sem:List D->List D->Option (List D)
def Gy (a b:Nat) (c:Bool):Option D->Option Row
 | some (.nx n xs)=>some ⟨b,a,xs,c,true,false⟩
 | _=>none
def Ke (a:Bool) (o:Nat):List D->Option Row
 | [.nr ty s nv cs]=>Gy ty nv a (cs.drop o).head?
 | _=>none
def s8 (r:Row) (o:Nat):Option Row:=if r.mp then Ke r.fz o r.cells else none
def fA:D->Bool
 | .int _ _ | .bool _ | .str _ | .sl _ _ _ _=>true
 | _=>false
def su (y s o:Nat):D->D
 | .nx n _ =>.ph (NK y o) s n
 | d=>if fA d then d else .und
def lf {y s o:Nat} {d:D} (h:fA d=true):su y s o d=d:=by
 cases d<;>first|rfl|cases h
def sw {y s o x a n:Nat} {d:D} (h:su y s o d=.ph x a n):∃b,d=.nx n b∧x=NK y o∧a=s:=by
 cases d<;>simp[su,fA]at h;obtain⟨rfl,rfl,rfl⟩:=h;exact⟨_,rfl,rfl,rfl⟩
def mE (y s o:Nat) (d:D):phC (su y s o d)=true:=by
 cases d<;>rfl
def skL (y:Nat):List D->List D
 | [.nr ty s nv cs]=>cs.mapIdx (su y s)
 | cs=>cs
def Er (y:Nat) (r:Row):Row:=if r.mp then { r with cells:=skL y r.cells } else r
def ltB (a b:Nat):Decidable (a<b):=@Eq.rec Prop (¬b<=a) (fun p _=>Decidable p) instDecidableNot (a<b) (propext Nat.not_le)
def EH (h:Nat->Option Row) (k:Nat):Option Row:=@ite _ (k<2*PK) (ltB k (2*PK)) ((h k).map (Er k)) ((h (k % PK)).bind fun r=>s8 r (k / PK-2))
def rt (k:Nat):Nat:=if k<2*PK then k else k % PK
structure ahx where
 lnd:Nat->Option (Nat×(Nat->Nat->Nat->Nat->List D->List D->Option (D×List D))):=fun _=>none
 res:Nat->Option (List D->Option (Nat×Nat×Nat×Nat×Nat×List D)):=fun _=>none
structure Env where
 lends:Nat->Bool
 sem:Nat->Option (D×Row)->List D->Option (RK×Option Row)
 own:Nat->Bool
 hint:Nat->Option Nat:=fun _=>none
 ins:Nat->Option (Nat×Nat×Nat):=fun _=>none
 grw:Nat->Option Grow:=fun _=>none
 nst:Nat->Option (Nat×Nat×Nat):=fun _=>none
 nx:ahx:={}
def wN (Γ:Env) (h:Nat->Option Row) (e:Nat) (b:Option Nat) (g:Nat) (a:List D):Option ca :=
 match bQ h a with
 | some (c,f) =>
  match Γ.sem g none c with
  | some (.clean r,_)=>some ⟨r,if jx r then [] else kb h f⟩
  | some (.fresh i s n cells,_) =>
   match b with
   | some d=>if f.contains d=false then some ⟨.buf d e s 0 n,(if rS cells then [] else kb h f)++[(d,some ⟨e,i,cells,false,true,false⟩)]⟩ else none
   | none=>none
  | _=>none
 | none=>none
def rG (Γ:Env) (h:Nat->Option Row) (e:Nat) (f:Option Nat) (g x v:Nat) (d0:D) (a:List D):Option ca :=
 match A9 d0 h x v with
 | some r =>
  if r.fz=false then
   match bQ h a with
   | some (aim,b) =>
    if b.contains x=false then
     match Γ.sem g (some (d0,{ r with v:=0 })) aim with
     | some (.clean c,some i)=>some ⟨c,kb h b++[(x,some { i with v:=v })]⟩
     | some (.same s o n,some i)=>some ⟨.buf x v s o n,kb h b++[(x,some { i with v:=v })]⟩
     | some (.fresh j s n cells,none) =>
      match f with
      | some d=>if b.contains d=false then some ⟨.buf d e s 0 n,kb h b++[(x,none),(d,some ⟨e,j,cells,false,true,false⟩)]⟩ else none
      | none=>none
     | _=>none
    else none
   | none=>none
  else none
 | none=>none
def y6 (h:Nat->Option Row) (p:Grow) (a:List D):Option ca :=
 match a with
 | .pm y v k::b =>
  match uo h y v,h k with
  | some (c,d,s,n),some r =>
   if d=k∧k=PK+y∧y<PK∧c.fz=false∧r.mp=false∧r.fz=false∧r.lst=true∧s=p.k∧r.ty=p.ty∧r.cells.length=n*p.k∧(n+1)*p.bytes<=140737488355328 then
    match p.sem r.cells b with
    | some cs=>some ⟨.int .i64 (n:Int),[(k,some ⟨r.v,p.ty,r.cells++cs,false,true,false⟩),(y,some ⟨c.v,c.ty,[.ph k p.k (n+1)],false,false,true⟩)]⟩
    | none=>none
   else none
  | _,_=>none
 | _=>none
def vY (h:Nat->Option Row) (e:Nat) (c:Option Nat) (p:Nat×Nat×Nat) (a:List D):Option ca :=
 match a with
 | [.buf x v s o n,.int .i64 i,.buf y f g j m] =>
  match live h x v,live h y f,c with
  | some r,some b,some d =>
   if r.fz=false∧b.fz=false∧r.lst=true∧b.lst=true∧x≠y∧s=p.2.1∧g=p.2.1∧r.ty=p.1∧b.ty=p.1∧o=0∧j=0∧r.cells.length=n*p.2.1∧b.cells.length=m*p.2.1∧0<=i∧i<=n∧0<m∧(n+m)*p.2.2<=140737488355328 then
    some ⟨.buf d e p.2.1 0 (n+m),[(y,none),(x,none),(d,some ⟨e,p.1,r.cells.take (i.toNat*p.2.1)++(b.cells++r.cells.drop (i.toNat*p.2.1)),false,true,false⟩)]⟩
   else none
  | _,_,_=>none
 | _=>none
def jq (Γ:Env) (h:Nat->Option Row) (e:Nat) (b:Option Nat) (f:D) (a:List D):Option ca :=
 match f with
 | .fn g =>
  match Γ.ins g with
  | some p=>vY h e b p a
  | none =>
  match Γ.grw g with
  | some p=>y6 h p a
  | none =>
  if Γ.lends g then
   match a with
   | .buf x v s o n::rest=>rG Γ h e b g x v (.buf 0 0 s o n) rest
   | .ptr x v o::rest=>rG Γ h e b g x v (.ptr 0 0 o) rest
   | .mp x v::rest=>rG Γ h e b g x v (.mp 0 0) rest
   | _=>none
  else wN Γ h e b g a
 | .clo g d c=>if c.all s9 then wN Γ h e b g (c.take d++(a++c.drop d)) else none
 | _=>none
def dt (T:Nat->Option Ty) (b e:Nat) (a:Option Nat) (h:Nat->Option Row) (x:D):Option ca :=
 match x with
 | .buf y v s o n =>
  match a,live h y v with
  | some d,some r=>if r.fz then some ⟨.buf y v s o n,[]⟩ else some ⟨.buf d e s o n,[(y,none),(d,some { r with v:=e })]⟩
  | _,_=>if (pM h y v).isSome then some ⟨.buf y v s o n,[]⟩ else some ⟨.und,[]⟩
 | .sl true true 0 [] =>
  match a,T b with
  | some d,some τ =>
   match τ.ds with
   | .slice el=>match T el with|some φ=>some ⟨.buf d e φ.size 0 0,[(d,some ⟨e,el,[],false,true,false⟩)]⟩|none=>none
   | _=>none
  | _,_=>none
 | x=>some ⟨x,[]⟩
def rH (h:Nat->Option Row):D->Option (D×List Nat)
 | .agg xs=>some (.agg xs,[])
 | d=>dU h d
def nO (h:Nat->Option Row) (x:D):Option ca :=
 match rH h x with
 | some (a,fr)=>some ⟨jw a,kb h fr⟩
 | none=>none
def tC (T:Nat->Option Ty) (q:Nat->Bool) (b e:Nat) (a:Option Nat) (h:Nat->Option Row) (x:D):Option ca :=
 match a with
 | some d=>if q d then dt T b e (some d) h x else nO h x
 | none=>dt T b e none h x
def sG (T:Nat->Option Ty) (Γ:Env) (e:Nat) (o:Oper) (g:Operand->D) (h:Nat->Option Row):Option ca :=
 match o.op with
 | .move x=>some ⟨g x,[]⟩
 | .assign x=>tC T Γ.own o.type e o.dst h (g x)
 | .pick c a b=>match g c with | .bool true=>some ⟨g a,[]⟩ | .bool false=>some ⟨g b,[]⟩|_=>none
 | .alloc j=>match T j,o.dst with
  | some τ,some d=>if (τ.zero.map pq).all bn then some ⟨match Γ.hint d with|some y =>.pm d e y|none =>.ptr d e 0,[(d,some ⟨e,j,τ.zero.map pq,false,false,false⟩)]⟩ else none
  | _,_=>none
 | .box j x=>match o.dst,gx h (g x) with
  | some d,some (u,s)=>if s.contains d=false then some ⟨.ptr d e 0,kb h s++[(d,some ⟨e,j,u,false,false,false⟩)]⟩ else none
  | _,_=>none
 | .load j p=>match T j with|some τ=>rL τ h (g p)|none=>none
 | .store j p x=>match T j with|some τ=>il τ h (g p) (g x)|none=>none
 | .nilCheck x=>oN h (g x)
 | .fieldAddr j x i=>match T j with|some τ=>gh T τ h i (g x)|none=>none
 | .field j x i=>match T j with|some τ=>A1 T τ i (g x)|none=>none
 | .indexAddr j x i=>match T j with|some τ=>cF T τ h (g x) (g i)|none=>none
 | .index j x i=>match T j with|some τ=>mc T τ (g x) (g i)|none=>none
 | .slice j x v w z=>match T j with|some τ=>ik T τ h (g x) (v.map g) (w.map g) (z.map g)|none=>none
 | .build j parts=>match T j with|some τ=>rJ Γ.own T τ h o.dst (parts.toList.map fun p=>(p.1,g p.2))|none=>none
 | .buildSlice j len parts=>match T j,o.dst with|some τ,some d=>eL T τ h e d len (parts.toList.map fun p=>(p.1,g p.2))|_,_=>none
 | .makeSlice j l c=>match T j,o.dst with|some τ,some d=>sY T τ e d (g l) (g c)|_,_=>none
 | .binOp q j x y _=>match EV T j q (g x) (g y) with|some d=>some ⟨d,[]⟩|none=>none
 | .unOp q _ x=>match XY q (g x) with|some d=>some ⟨d,[]⟩|none=>none
 | .convert src r x=>match T r,T src,g x with
  | some τ,some _,.int _ n=>(match τ.ds with | .int k=>some ⟨.int k (k.wrap n),[]⟩|_=>none)
  | _,_,_=>none
 | .makeFunc A first caps=>match A with | .func f=>if (first.toList.map g++caps.toList.map g).all s9 then some ⟨.clo f first.size (first.toList.map g++caps.toList.map g),[]⟩ else none|_=>none
 | .makeMap j none=>match T j,o.dst with|some τ,some d=>oM T j τ e d|_,_=>none
 | .lookup j m i B=>match T j with|some τ=>iL T τ h (g m) (g i) B|none=>none
 | .insert j m i x=>match T j with|some τ=>ej T τ h (g m) (g i) (g x)|none=>none
 | .mapUpdate j m i x=>match T j with|some τ=>ej T τ h (g m) (g i) (g x)|none=>none
 | .extract t i=>match g t with | .tup C=>(match C[i]? with|some d=>some ⟨d,[]⟩|none=>none)|_=>none
 | .call c=>match c.callee with
  | .value f=>jq Γ h e o.dst (g f) (c.args.toList.map g)
  | .builtin b=>dV T h e o.dst b c.argTypes.toList (c.args.toList.map g)
  | _=>none
 | _=>none
def iB (o:Oper) (a:Operand->D):List Nat :=
 match o.op with
 | .move _ | .pick _ _ _=>[]
 | .makeFunc _ _ _=>[]
 | b=>(b.operands.toList.flatMap fun x=>nm (a x))++o.dst.toList
def ax {α:Type} (f:Nat->α) (i:Nat) (v:α):b6 f i v i=v:=by simp[b6]
def az {α:Type} (f:Nat->α) {i j:Nat} (v:α) (h:j≠i):b6 f i v j=f j:=by simp[b6,h]
def abm {α:Type} (f:Nat->α) {i j:Nat} (v u:α) (h:i≠j):b6 (b6 f i v) j u=b6 (b6 f j u) i v:=by
 funext k;unfold b6;split<;>split<;>simp_all
def RP.qO {w:World} {M:Nat->Prop} {d:D} {u:Value} (h:RP w M d u) (a:bn d=true):u.oneCell'=true:=by
 cases h<;>simp_all [bn,Value.oneCell']
def RP.cells {w:World} {M:Nat->Prop} {d:D} {u:Value} (h:RP w M d u) (a:bn d=true):u.cells = #[u]:=by
 cases h with
 | ali x v s o n u h1=>cases u<;>simp_all [Value.oneCell',Value.cells]
 | alm x v u h1=>cases u<;>simp_all [Value.oneCell',Value.cells]
 | _=>simp_all [bn,Value.cells]
def bR {w:World} {M:Nat->Prop} {h:Nat->Option Row} {blk:Nat->Option (Nat×Nat)} {V:Nat->Nat->Prop} {d:D} {u:Value} (a:RP w M d u):RT w M h blk V d u:=by
 cases a with
 | int k n=>exact .int k n
 | bool b=>exact .bool b
 | str s=>exact .str s
 | sl A c nl tight n xs us h1 h2 h3 h4 h5 h6 h7 h8=>exact .sl A c nl tight n xs us h1 h2 h3 h4 h5 h6 h7 h8
 | ip xs ad us h6 h7 h8=>exact .ip xs ad us h6 h7 h8
 | agg xs us h1 h2 h3=>exact .agg xs us h1 h2 h3
 | tup xs us h1 h2=>exact .tup xs us h1 h2
 | fn f=>exact .fn f
 | ali x v s o n u h1=>exact .ali x v s o n u h1
 | mpc ks vs mb us h1 h2 h3 h4=>exact .mpc ks vs mb us h1 h2 h3 h4
 | alm x v u h1=>exact .alm x v u h1
 | clo f g xs us h1 h2 =>
  refine⟨us,rfl,h1,fun j x e =>?_⟩;have:=h2 j x e;cases x with
  | ptr x v o=>cases this
  | mp x v=>cases this
  | pm x v y=>cases this
  | _=>exact this
def Yr (w:World) (M:Nat->Prop) (h:Nat->Option Row) (blk:Nat->Option (Nat×Nat)) (V:Nat->Nat->Prop) (v:Value):RT w M h blk V (pq v) v:=by
 unfold pq;split
 ·exact .int _ _
 ·exact .bool _
 ·exact .str _
 ·exact .sl none 0 true true 0 [] (fun _=>undef) (air _) (ais _) (fun _=>⟨fun _=>⟨rfl,rfl⟩,fun h=>by cases h⟩) (fun _=>⟨rfl,rfl⟩) (fun _=>rfl) (fun h=>absurd rfl h) (fun j x a=>by simp at a) (fun x a=>by simp at a)
 ·exact .mpc [] [] none (fun _=>undef) rfl (fun _=>rfl) (fun b c=>by cases c) (fun j x d=>by simp at d)
 ·trivial
structure IC (w w':World) (M M':Nat->Prop) (h h':Nat->Option Row) (blk blk':Nat->Option (Nat×Nat)) (V V':Nat->Nat->Prop):Prop where
 hk:∀b,b<w.heap.size->¬M b->b<w'.heap.size∧¬M' b∧w'.heap[b]? = w.heap[b]?
 hV:∀x v,V x v->V' x v
 hrow:∀x v,V x v->∀r',h' x=some r'->r'.v=v->(∃r,h x=some r∧r.v=v)∧blk' x=blk x∧∀g,blk x=some g->w'.shape? g.1=w.shape? g.1
def RC.mono {w l:World} {M m:Nat->Prop} {h n:Nat->Option Row} {blk b:Nat->Option (Nat×Nat)} {V p:Nat->Nat->Prop} (k:IC w l M m h n blk b V p) {d:D} {u:Value}
  (a:RC w M h blk V d u):RC l m n b p d u:=by
 cases d with
 | ptr x v o =>
  refine⟨k.hV _ _ a.1,fun c e f =>?_⟩;obtain⟨⟨r,g,i⟩,j,_⟩:=k.hrow x v a.1 c e f;rw[j];exact a.2 r g i
 | mp x v =>
  refine⟨k.hV _ _ a.1,fun c e f =>?_⟩;obtain⟨⟨r,g,i⟩,j,_⟩:=k.hrow x v a.1 c e f;rw[j];exact a.2 r g i
 | pm x v y =>
  refine⟨k.hV _ _ a.1,fun c e f =>?_⟩;obtain⟨⟨r,g,i⟩,j,_⟩:=k.hrow x v a.1 c e f;rw[j];exact a.2 r g i
 | _=>exact RP.keep k.hk a
def RT.mono {w J:World} {M K:Nat->Prop} {h L:Nat->Option Row} {blk b:Nat->Option (Nat×Nat)} {V O:Nat->Nat->Prop} (k:IC w J M K h L blk b V O) {d:D} {u:Value}
  (a:RT w M h blk V d u):RT J K L b O d u:=by
 cases d with
 | ptr x v o=>exact RC.mono (d := .ptr x v o) k a
 | mp x v=>exact RC.mono (d := .mp x v) k a
 | pm x v y=>exact RC.mono (d := .pm x v y) k a
 | buf x v s o n =>
  refine⟨k.hV _ _ a.1,fun p e i =>?_⟩;obtain⟨⟨r,l,q⟩,z,A⟩:=k.hrow x v a.1 p e i;rw[z];rcases a.2 r l q with⟨g,B,c,N,t,m,C,E,F,G,H⟩|I
  ·exact .inl ⟨g,B,c,N,t,m,C,E,F,G,(A g m).trans H⟩
  ·exact .inr I
 | clo f U xs =>
  obtain⟨P,e,i,l⟩:=a;exact⟨P,e,i,fun j x Q=>(l j x Q).mono k⟩
 | box1 x v s o n =>
  obtain⟨R,S,T,a⟩:=a;refine⟨R,S,T,k.hV _ _ a.1,fun p e i =>?_⟩;obtain⟨⟨r,l,q⟩,z,A⟩:=k.hrow x v a.1 p e i;rw[z];rcases a.2 r l q with⟨g,B,c,N,t,m,C,E,F,G,H⟩|I
  ·exact .inl ⟨g,B,c,N,t,m,C,E,F,G,(A g m).trans H⟩
  ·exact .inr I
 | und=>trivial
 | skp=>exact a
 | _=>exact RP.keep k.hk a
def cT {w a:World} {b:Nat} (h:a.heap[b]? = w.heap[b]?):a.shape? b=w.shape? b:=by simp[World.shape?,h]
def ee.refl (L:Nat->Prop) (w:World):ee L w w:=⟨rfl,rfl,rfl,air _,fun _ _ _=>rfl⟩
def ee.trans {L L':Nat->Prop} {a b c:World} (h:ee L a b) (k:ee L' b c) (e:∀x,L' x->x<a.heap.size->L x):ee L a c :=
 ⟨k.os.trans h.os,k.tape.trans h.tape,k.output.trans h.output,ait h.size k.size,fun i d hn=>(k.block i (aiu d h.size) (fun f=>hn (e i f d))).trans (h.block i d hn)⟩
def ee.uu {L:Nat->Prop} {w a:World} (h:Below w.heap.size w a):ee L w a:=⟨h.os,h.tape,h.output,h.size,fun k b _=>h.block k b⟩
def ee.below {L:Nat->Prop} {w a:World} (h:ee L w a) (c:∀b,¬L b):Below w.heap.size w a:=⟨h.os,h.tape,h.output,h.size,fun k d=>h.block k d (c k)⟩
def Ym.keep {w a:World} {M c:Nat->Prop} {g:Nat×Nat} {r:Row} (h:Ym w M g r) (i:a.heap[g.1]? = w.heap[g.1]?) (k:∀b,b<w.heap.size->¬M b->b<a.heap.size∧¬c b∧a.heap[b]? = w.heap[b]?):Ym a c g r:=by
 obtain⟨l,m,n,e⟩:=h;exact⟨l,i.trans m,n,fun j d f=>⟨(e j d f).1,(e j d f).2.keep k⟩⟩
def AB.keep {w f:World} {M v:Nat->Prop} {g:Nat×Nat} {r r':Row} (h:AB w M g r) (z:r'.cells=r.cells) (i:r'.ty=r.ty) (y:f.heap[g.1]? = w.heap[g.1]?) (k:∀b,b<w.heap.size->¬M b->b<f.heap.size∧¬v b∧f.heap[b]? = w.heap[b]?):AB f v g r':=by
 obtain⟨A,B,C,D,E,F⟩:=h;refine⟨A,B,z.trans C,D,fun q =>?_,fun q =>?_⟩
 ·obtain⟨d,a,m,n,e,o,p,s⟩:=E (i ▸ q);exact⟨d,a,y.trans m,n,e,o,p,fun j x t=>(s j x t).keep k⟩
 ·rw[i];obtain⟨u,b,d,a,seen,c,l,o,m,n,p,s,e,G,H,I,J,K,L,N,O⟩:=F (i ▸ q);obtain⟨P,Q,R⟩:=k b n p;exact⟨u,b,d,a,seen,c,l,o,y.trans m,P,Q,R.trans s,e,G,H,I,J,K,L,N,fun j x t=>(O j x t).keep k⟩
def EG.keep {w a:World} {M c:Nat->Prop} {d:D} {u:Value} (h:EG w M d u) (e:∀b,b<w.heap.size->¬M b->b<a.heap.size∧¬c b∧a.heap[b]? = w.heap[b]?):EG a c d u:=by
 cases d with
 | ph _ _ _=>trivial
 | und=>trivial
 | _=>exact RP.keep e h
def EI.keep {w a:World} {M e:Nat->Prop} {g:Nat×Nat} {r r':Row} (h:EI w M g r) (c:r'.cells=r.cells) (f:r'.ty=r.ty) (i:a.heap[g.1]? = w.heap[g.1]?) (k:∀b,b<w.heap.size->¬M b->b<a.heap.size∧¬e b∧a.heap[b]? = w.heap[b]?):EI a e g r':=by
 obtain⟨l,m,n,o,p⟩:=h;exact⟨by rw[c];exact l,m,by rw[f];exact i.trans n,by rw[c];exact o,fun j d q=>(p j d (by rw[<- c];exact q)).keep k⟩
def ez.keep {w c:World} {M m:Nat->Prop} {g:Nat×Nat} {r r':Row} (h:ez w M g r) (e:r'.cells=r.cells) (f:r'.ty=r.ty) (o:r'.mp=r.mp) (i:c.heap[g.1]? = w.heap[g.1]?) (k:∀b,b<w.heap.size->¬M b->b<c.heap.size∧¬m b∧c.heap[b]? = w.heap[b]?):ez c m g r':=by
 unfold ez at h ⊢;rw[o];cases a:r.mp with
 | true =>
  rw[a]at h;rcases h with h|h
  ·exact .inl (AB.keep h e f i k)
  ·exact .inr (EI.keep h e f i k)
 | false =>
  rw[a]at h;obtain⟨p,q,s,n⟩:=h;refine⟨p,by rw[f];exact i.trans q,by rw[e];exact s,fun j d l =>?_⟩;rw[e]at l;exact⟨(n j d l).1,(n j d l).2.keep k⟩
def ez.heap {w:World} {M:Nat->Prop} {g:Nat×Nat} {r:Row} (h:ez w M g r):g.1<w.heap.size:=by
 unfold ez at h;cases e:r.mp with
 | true =>
  rw[e]at h;rcases h with⟨m,n,_,_,i,j⟩|⟨_,k,a,_⟩
  ·by_cases q:r.ty<900000
   ·obtain⟨f,d,a,_⟩:=i q;exact (aiv.1 a).1
   ·obtain⟨_,b,f,d,seen,c,l,o,a,_⟩:=j (by omega);exact (aiv.1 a).1
  ·exact (aiv.1 a).1
 | false=>rw[e]at h;obtain⟨k,a,_⟩:=h;exact (aiv.1 a).1
def PhR.mono {w w':World} {h d:Nat->Option Row} {blk a:Nat->Option (Nat×Nat)} {x s n:Nat} {u:Value} (k:PhR w h blk x s n u) (f:∀b,d x=some b->(∃r,h x=some r)∧a x=blk x∧∀g,blk x=some g->w'.shape? g.1=w.shape? g.1):PhR w' d a x s n u:=by
 intro b i;obtain⟨⟨r,j⟩,l,m⟩:=f b i;rw[l];rcases k r j with⟨g,c,o,p,e,q,t,v,y,z⟩|A
 ·exact .inl ⟨g,c,o,p,e,q,t,v,y,(m g e).trans z⟩
 ·exact .inr A
def Ut.keep {L:Nat->Prop} {w0 w w':World} {M a:Nat->Prop} {g:Option (Nat×Nat)} {r:Row} (h:Ut L w0 w M g r) (c:∀b,g=some b->w'.heap[b.1]? = w.heap[b.1]?) (d:∀b,b<w.heap.size->¬M b->b<w'.heap.size∧¬a b∧w'.heap[b]? = w.heap[b]?):Ut L w0 w' a g r:=by
 cases g with
 | none=>exact h
 | some g=>exact⟨h.1,h.2.keep rfl rfl rfl (c g rfl) d⟩
section
variable {N:Nat} {M:Nat->Prop} {L:kx} {w0:World} {blk:Nat->Option (Nat×Nat)} {V:Nat->Nat->Prop} {t:Nat->D} {h:Nat->Option Row} {a:Act} {w:World}
def Inv.ev (b:Inv N M L w0 blk V t h a w) (x:Operand):RT w (Own M h blk) h blk V (ev t x) (a.eval x):=by
 cases x with
 | tmp i=>exact b.slots i
 | const v=>exact Yr _ _ _ _ _ v
 | global g=>trivial
 | func f=>exact RP.fn f
def Inv.Gh (b:Inv N M L w0 blk V t h a w) {x:Nat} {r:Row} {g:Nat×Nat} (c:h x=some r) (d:blk x=some g) (e:r.mp=false):Ym w (Own M h blk) g r:=by
 have:=(b.rows x r c).2;rw[d]at this;have:=this.2;unfold ez at this;rw[e]at this;exact this
def Inv.rowIs (b:Inv N M L w0 blk V t h a w) {x:Nat} {r:Row} {g:Nat×Nat} (c:h x=some r) (d:blk x=some g):ez w (Own M h blk) g r:=by
 have:=(b.rows x r c).2;rw[d]at this;exact this.2
def Inv.base (b:Inv N M L w0 blk V t h a w) {x:Nat} {r:Row} {g:Nat×Nat} (c:h x=some r) (d:blk x=some g):w0.heap.size<=g.1∨LB L g.1:=by
 have:=(b.rows x r c).2;rw[d]at this;exact this.1
def Inv.lt (b:Inv N M L w0 blk V t h a w) {x:Nat} {r:Row} {g:Nat×Nat} (c:h x=some r) (d:blk x=some g):g.1<w.heap.size:=by
 exact (b.rowIs c d).heap
def Inv.Aj (c:Inv N M L w0 blk V t h a w) {b:Nat} (d:Own M h blk b):b<w.heap.size:=by
 rcases d with d|⟨x,r,g,e,_,f,rfl⟩
 ·exact aiu (c.mlt b d) c.below.size
 ·exact c.lt e f
def Inv.notM (b:Inv N M L w0 blk V t h a w) {x:Nat} {r:Row} {g:Nat×Nat} (d:h x=some r) (e:blk x=some g):¬M g.1:=by
 rcases b.base d e with c|c
 ·intro f;have:=b.mlt _ f;omega
 ·exact b.lent _ c
def ZR (a:Array Value) (d i:Nat) (v:Value) (b:d<a.size):(a.setIfInBounds d v).getD i undef=if i=d then v else a.getD i undef:=by
 simp only[aiw]
 by_cases h:i=d
 ·subst h;simp[b]
 ·rw[Array.getElem?_setIfInBounds_ne (Ne.symm h)];simp[h]
def Inv.put (b:Inv N M L w0 blk V t h a w) {d:Nat} (e:d<N) {x:D} {v:Value} (f:RT w (Own M h blk) h blk V x v):Inv N M L w0 blk V (b6 t d x) h (a.put (some d) v) w where
 tab:=b.tab
 below:=b.below
 mlt:=b.mlt
 lent:=b.lent
 pin:=b.pin
 defers:=b.defers
 tsz:=by simp[Act.put,b.tsz]
 slots i:=by
  simp only[Act.put];rw[ZR _ _ _ _ (by rw[b.tsz];exact e)]
  by_cases c:i=d
  ·subst c;simpa [b6] using f
  ·simpa [b6,c] using b.slots i
 rows:=b.rows
 inj:=b.inj
 ali:=b.ali
 pha:=b.pha
 big:=b.big
def Inv.weaken (b:Inv N M L w0 blk V t h a w) {V':Nat->Nat->Prop} (hV:∀x v,V x v->V' x v):Inv N M L w0 blk V' t h a w where
 tab:=b.tab
 below:=b.below
 mlt:=b.mlt
 lent:=b.lent
 pin go k:=⟨hV _ _ (b.pin go k).1,(b.pin go k).2⟩
 defers:=b.defers
 tsz:=b.tsz
 slots i:=(b.slots i).mono ⟨fun _ e f=>⟨e,f,rfl⟩,hV,fun _ _ _ l e f=>⟨⟨l,e,f⟩,rfl,fun _ _=>rfl⟩⟩
 rows x r m:=⟨fun n=>hV _ _ ((b.rows x r m).1 n),(b.rows x r m).2⟩
 pha:=b.pha
 big:=b.big
 inj:=b.inj
 ali y r g o p q k j c d s z:=by
  obtain⟨u,e,f⟩:=b.ali y r g o p q k j c d s z;exact⟨u,e,f.mono ⟨fun _ e f=>⟨e,f,rfl⟩,hV,fun _ _ _ l e f=>⟨⟨l,e,f⟩,rfl,fun _ _=>rfl⟩⟩⟩
def Inv.later (e:Inv N M L w0 blk V t h a w) {C:World} (hb:Below w.heap.size w C):Inv N M L w0 blk V t h a C where
 tab:=e.tab.keep fun b f l=>⟨aiu f hb.size,l,hb.block b f⟩
 below:=e.below.trans (ee.uu (L:=LB L) hb) (fun _ h _=>h)
 mlt:=e.mlt
 lent:=e.lent
 pin go k:=⟨(e.pin go k).1,fun r z D=>⟨((e.pin go k).2 r z D).1,fun g m=>by
  have f:=(e.pin go k).2 r z D;rw[<- f.2 g m];exact cT (hb.block _ (e.lt z (f.1.trans m)))⟩⟩
 defers:=e.defers
 tsz:=e.tsz
 slots i:=(e.slots i).mono ⟨fun b f l=>⟨aiu f hb.size,l,hb.block b f⟩,fun _ _ h=>h,
  fun x v _ o f l=>⟨⟨o,f,l⟩,rfl,fun g k=>cT (hb.block _ (e.lt f k))⟩⟩
 rows x r A:=⟨(e.rows x r A).1,(e.rows x r A).2.keep (fun g k=>hb.block _ (e.lt A k)) (fun b p E=>⟨aiu p hb.size,E,hb.block b p⟩)⟩
 inj:=e.inj
 big:=e.big
 pha y r g q hm k j x s n F:=by
  obtain⟨G,u,f,l⟩:=e.pha y r g q hm k j x s n F;exact⟨G,u,(ain (a:=⟨g.1,g.2+j,none⟩) (hb.block _ (e.lt q k))).trans f,l.mono fun o p=>⟨⟨o,p⟩,rfl,fun O B=>cT (hb.block _ (e.lt p B))⟩⟩
 ali y r g q H I k j c d J K:=by
  obtain⟨u,f,l⟩:=e.ali y r g q H I k j c d J K;refine⟨u,(ain (a:=⟨g.1,g.2+j,none⟩) (hb.block _ (e.lt q k))).trans f,l.mono ⟨fun b f l=>⟨aiu f hb.size,l,hb.block b f⟩,fun _ _ h=>h,
   fun x v _ o f l=>⟨⟨o,f,l⟩,rfl,fun g k=>cT (hb.block _ (e.lt f k))⟩⟩⟩
def Inv.drew (b:Inv N M L w0 blk V t h a w):Inv N M L w0 blk V t h a w.drew:=b.later ((Below.refl _ _).drew)
def HZ (l a:List (Nat×Option Row)):∀h:Nat->Option Row,aR h (l++a)=aR (aR h l) a:=by
 induction l with
 | nil=>intro h;rfl
 | cons p l b=>intro h;obtain⟨x,r⟩:=p;exact b _
def ie (h:Nat->Option Row) (l:List (Nat×Option Row)) (x:Nat) (r:Option Row):aR h (l++[(x,r)])=b6 (aR h l) x r:=by rw[HZ];rfl
def LX (r:Row):(wq r).fz=true:=by
 unfold wq;split
 ·assumption
 ·rfl
def ael (r:Row):(wq r).v=r.v∧(wq r).ty=r.ty∧(wq r).cells=r.cells∧(wq r).mp=r.mp∧((wq r).lst=false->wq r=r):=by
 unfold wq;split
 ·exact⟨rfl,rfl,rfl,rfl,fun _=>rfl⟩
 ·exact⟨rfl,rfl,rfl,rfl,fun h=>by cases h⟩
def Se (h:Nat->Option Row) (x:Nat):∀(a:List Nat) (g:Nat->Option Row),(∀y,y∉a->g y=h y∨g y=(h y).map wq) ->
  (x∈a->aR g (kb h a) x=(h x).map wq)∧(x∉a->aR g (kb h a) x=g x):=by
 intro a
 induction a with
 | nil=>intro g _;exact⟨fun b=>by simp at b,fun _=>rfl⟩
 | cons y a i =>
  intro g j;simp only[kb,aix,aR];have e:∀z,z∉a->(b6 g y ((h y).map wq)) z=h z∨(b6 g y ((h y).map wq)) z=(h z).map wq:=by
   intro z k
   by_cases c:z=y
   ·subst c;right;simp[b6]
   ·simp only[b6,c,if_false];exact j z (by simp[c,k])
  obtain⟨l,f⟩:=i _ e;refine⟨fun b =>?_,fun b =>?_⟩
  ·by_cases d:x∈a
   ·exact l d
   ·have:x=y:=by simpa [d] using b
    subst this;exact (f d).trans (by simp[b6])
  ·simp only[aiy,not_or]at b;exact (f b.2).trans (by simp[b6,b.1])
def B0 (h:Nat->Option Row) (a:List Nat) (x:Nat):aR h (kb h a) x=if x∈a then (h x).map wq else h x:=by
 have:=Se h x a h (fun _ _ =>.inl rfl)
 by_cases b:x∈a
 ·simpa [b] using this.1 b
 ·simpa [b] using this.2 b
def Inv.freeze (f:Inv N M L w0 blk V t h a w) (F:List Nat):Inv N M L w0 blk V t (aR h (kb h F)) a w:=by
 have m:∀x r',aR h (kb h F) x=some r'->∃r,h x=some r∧r'.v=r.v∧r'.ty=r.ty∧r'.cells=r.cells∧(r'.fz=false->r.fz=false)∧(r'.lst=false->r'=r)∧r'.mp=r.mp:=by
  intro x r' l;rw[B0]at l;split at l
  ·cases C:h x with
   | none=>simp[C]at l
   | some r =>
    simp only[C,Option.map_some,aiA]at l;subst l;obtain⟨z,G,R,S,T⟩:=ael r;exact⟨r,rfl,z,G,R,(fun h=>by rw[LX]at h;cases h),T,S⟩
  ·exact⟨r',l,rfl,rfl,rfl,id,(fun _=>rfl),rfl⟩
 have D:∀b,¬Own M h blk b->¬Own M (aR h (kb h F)) blk b:=by
  intro b A p;rcases p with p|⟨x,r',g,l,H,o,rfl⟩
  ·exact A (.inl p)
  ·obtain⟨r,d,_,_,_,U,_⟩:=m x r' l;exact A (.inr ⟨x,r,g,d,U H,o,rfl⟩)
 exact {
  tab:=f.tab.keep fun b d e=>⟨d,D b e,rfl⟩
  below:=f.below
  mlt:=f.mlt
  lent:=f.lent
  pin:=fun P o=>⟨(f.pin P o).1,fun r' C hv=>by
   obtain⟨r,k,q,_⟩:=m 0 r' C;exact (f.pin P o).2 r k (by omega)⟩
  defers:=f.defers
  tsz:=f.tsz
  slots:=fun i=>(f.slots i).mono ⟨fun b d e=>⟨d,D b e,rfl⟩,fun _ _ h=>h,fun x v _ r' d e=>by
   obtain⟨r,k,q,_⟩:=m x r' d;exact⟨⟨r,k,by omega⟩,rfl,fun _ _=>rfl⟩⟩
  rows:=fun x r' l=>by
   obtain⟨r,k,q,W,E,_,_,I⟩:=m x r' l;obtain⟨d,e⟩:=f.rows x r k;rw[q];refine⟨d,?_⟩;cases A:blk x with
   | none=>rw[A]at e;exact E.trans e
   | some g =>
    rw[A]at e;exact⟨e.1,e.2.keep E W I rfl fun b z G=>⟨z,D b G,rfl⟩⟩
  inj:=fun x y r s g X l B o J Y=>by
   obtain⟨r',k,_⟩:=m x r l;obtain⟨Z,q,_⟩:=m y s B;exact f.inj x y r' Z g X k q o J Y
  big:=f.big
  pha:=fun y r' g B hm o j x s n hc=>by
   obtain⟨r,k,_,_,E,_,_,I⟩:=m y r' B;obtain⟨h0,u,d,e⟩:=f.pha y r g k (I.symm.trans hm) o j x s n (by rw[<- E];exact hc);exact⟨h0,u,d,e.mono fun K z=>by
    obtain⟨r2,q1,_⟩:=m x K z;exact⟨⟨r2,q1⟩,rfl,fun _ _=>rfl⟩⟩
  ali:=fun y r' g B H Q o j c d' hj O=>by
   obtain⟨r,k,_,_,_,_,g6,_⟩:=m y r' B;obtain rfl:=g6 Q;obtain⟨u,d,e⟩:=f.ali y r' g k H Q o j c d' hj O;exact⟨u,d,e.mono ⟨fun b d e=>⟨d,D b e,rfl⟩,fun _ _ h=>h,fun x v _ r' d e=>by
    obtain⟨r,k,q,_⟩:=m x r' d;exact⟨⟨r,k,by omega⟩,rfl,fun _ _=>rfl⟩⟩⟩ }
def forget (h:Nat->Option Row):Option Nat->Nat->Option Row
 | some y=>b6 h y none
 | none=>h
def Inv.EO (p:Inv N M L w0 blk V t h a w) {w':World} {h1:Nat->Option Row} {old:Option Nat} {d e:Nat} {r0:Row} {go:Option (Nat×Nat)}
  (ai:w'.os=w.os) (T:w'.tape=w.tape) (aa:w'.output=w.output) (U:w.heap.size<=w'.heap.size)
  (hblock:∀k,k<w.heap.size->(∀y g,old=some y->blk y=some g->k≠g.1)->w'.heap[k]? = w.heap[k]?)
  (C:∀y,old=some y->∃r,h y=some r∧r.fz=false) (ab:h1=forget h old) (hV:j0 N V d e)
  (H:match go with
   | some g=>(w.heap.size<=g.1∨∃y I,old=some y∧blk y=some I∧g.1=I.1)∧ez w' (fun b=>Own M h1 blk b∨b=g.1) g r0
   | none=>r0.cells=[]) (aj:r0.fz=false) (Q:r0.v=e) (ak:r0.mp=true->∀g,go=some g->∀j x s n:Nat,r0.cells[j]? = some (D.ph x s n)->R8 d j x∧∃u,w'.cell? ⟨g.1,g.2+j,none⟩=some u∧PhR w' (b6 h1 d (some r0)) (b6 blk d go) x s n u:=by (intro h;cases h)) :
  Inv N M L w0 (b6 blk d go) (fun x v=>V x v∨(x=d∧v=e)) t (b6 h1 d (some r0)) a w':=by
 have G:∀x r,h1 x=some r->h x=some r∧∀y,old=some y->x≠y:=by
  intro x r o;cases old with
  | none=>subst ab;exact⟨o,fun y m=>by cases m⟩
  | some y =>
   subst ab;simp only[forget]at o
   by_cases W:x=y
   ·subst W;simp[b6]at o
   ·rw[az _ _ W]at o;exact⟨o,fun z J=>by cases J;exact W⟩
 have hne:∀x r g,h1 x=some r->blk x=some g->∀y I,old=some y->blk y=some I->g.1≠I.1:=by
  intro x r g o l y I m A B;obtain⟨s,R,_⟩:=C y m;exact (G x r o).2 y m (p.inj x y r s g I (G x r o).1 R l A B)
 have ad:∀x r g K,h1 x=some r->blk x=some g->go=some K->g.1≠K.1:=by
  intro x r g K o l al B;subst al;rcases H.1 with hn|⟨y,I,m,A,O⟩
  ·have:=p.lt (G x r o).1 l;omega
  ·exact hne x r g o l y I m A (B.trans O)
 have X:∀b,b<w.heap.size->¬Own M h blk b->w'.heap[b]? = w.heap[b]?:=by
  intro b S hn;refine hblock b S fun y g m l B =>?_;obtain⟨s,R,J⟩:=C y m;exact hn (.inr ⟨y,s,g,R,J,l,B.symm⟩)
 have ae:∀b,b<w.heap.size->¬Own M h blk b->¬Own M (b6 h1 d (some r0)) (b6 blk d go) b:=by
  intro b S hn Y;rcases Y with Y|⟨x,r,g,o,J,l,B⟩
  ·exact hn (.inl Y)
  ·by_cases f:x=d
   ·subst f;rw[ax]at l;subst l;rcases H.1 with av|⟨y,I,m,A,O⟩
    ·omega
    ·obtain⟨s,R,an⟩:=C y m;exact hn (.inr ⟨y,s,I,R,an,A,by rw[<- O,B]⟩)
   ·rw[az _ _ f]at o l;exact hn (.inr ⟨x,r,g,(G x r o).1,J,l,B⟩)
 have hk:∀b,b<w.heap.size->¬Own M h blk b->b<w'.heap.size∧¬Own M (b6 h1 d (some r0)) (b6 blk d go) b∧w'.heap[b]? = w.heap[b]? :=
  fun b h1 h2=>⟨by omega,ae b h1 h2,X b h1 h2⟩
 have hrowsame:∀x r g,h1 x=some r->blk x=some g->w'.heap[g.1]? = w.heap[g.1]?:=fun x r g o l=>hblock _ (p.lt (G x r o).1 l) (fun y I m A=>hne x r g o l y I m A);exact {
  tab:=p.tab.keep hk
  below:=p.below.trans (L':=fun k=>∃y g,old=some y∧blk y=some g∧k=g.1) ⟨ai,T,aa,U,fun k ao hn=>hblock k ao (fun y g m l B=>hn ⟨y,g,m,l,B⟩)⟩ (fun k ⟨y,g,m,l,B⟩ aq=>by
   obtain⟨s,R,_⟩:=C y m;rcases p.base R l with S|S
   ·omega
   ·rw[B];exact S)
  mlt:=p.mlt
  lent:=p.lent
  pin:=fun Z l=>⟨.inl (p.pin Z l).1,fun r hr hv=>by
   by_cases f:0=d
   ·subst f;rw[ax]at hr;simp only[aiA]at hr;subst hr;rw[Q]at hv;subst hv;exact absurd (p.pin Z l).1 hV.no
   ·rw[az _ _ f]at hr;rw[az _ _ f];obtain⟨k1,k2⟩:=(p.pin Z l).2 r (G 0 r hr).1 hv;exact⟨k1,fun g ag=>(cT (hrowsame 0 r g hr (k1.trans ag))).trans (k2 g ag)⟩⟩
  defers:=p.defers
  tsz:=p.tsz
  slots:=fun i=>(p.slots i).mono ⟨hk,fun _ _ h =>.inl h,fun x v hv P E K=>by
   by_cases f:x=d
   ·subst f;rw[ax]at E;simp only[aiA]at E;subst E;rw[Q]at K;subst K;exact absurd hv hV.no
   ·rw[az _ _ f]at E;exact⟨⟨P,(G x P E).1,K⟩,az _ _ f,fun g l=>cT (hrowsame x P g E l)⟩⟩
  rows:=fun x r o=>by
   by_cases f:x=d
   ·subst f;rw[ax]at o;simp only[aiA]at o;subst o;rw[ax];refine⟨fun _ =>.inr ⟨rfl,Q⟩,?_⟩;cases go with
    | none=>exact H
    | some g =>
     obtain⟨n1,n2⟩:=H;refine⟨?_,n2.keep rfl rfl rfl rfl fun b q1 q2=>⟨q1,fun S=>q2 ?_,rfl⟩⟩;rotate_left
     ·rcases S with S|⟨x',r,g',o,J,l,B⟩
      ·exact .inl (.inl S)
      ·by_cases f:x'=x
       ·subst f;rw[ax]at l;cases l;exact .inr B.symm
       ·rw[az _ _ f]at o l;exact .inl (.inr ⟨x',r,g',o,J,l,B⟩)
     rcases n1 with l|⟨y,I,m,A,O⟩
     ·exact .inl (ait p.below.size l)
     ·obtain⟨s,R,_⟩:=C y m;rw[O];exact p.base R A
   ·rw[az _ _ f]at o;rw[az _ _ f];exact⟨fun hn =>.inl ((p.rows x r (G x r o).1).1 hn),(p.rows x r (G x r o).1).2.keep (fun g l=>hrowsame x r g o l) hk⟩
  inj:=fun x y r s g g' o m l F B=>by
   by_cases f:x=d
   ·by_cases q:y=d
    ·rw[f,q]
    ·subst f;rw[az _ _ q]at m F;rw[ax]at l;exact absurd B.symm (ad y s g' g m F l)
   ·by_cases q:y=d
    ·subst q;rw[az _ _ f]at o l;rw[ax]at F;exact absurd B (ad x r g g' o l F)
    ·rw[az _ _ f]at o l;rw[az _ _ q]at m F;exact p.inj x y r s g g' (G x r o).1 (G y s m).1 l F B
  big:=p.big
  pha:=fun y r g m hm l j x s n hc=>by
   by_cases q:y=d
   ·subst q;rw[ax]at m;simp only[aiA]at m;subst m;rw[ax]at l;exact ak hm g l j x s n hc
   ·rw[az _ _ q]at m l;obtain⟨h0,u,k1,k2⟩:=p.pha y r g (G y r m).1 hm l j x s n hc;have aq:=hV.lt;have ah:=p.big;have ar:PK=1000000:=rfl;have f:x≠d:=by simp only[R8,NK]at h0;rw[ar]at h0 ah;omega
    exact⟨h0,u,(ain (a:=⟨g.1,g.2+j,none⟩) (hrowsame y r g m l)).trans k1,k2.mono fun P E=>by
     rw[az _ _ f]at E;exact⟨⟨P,(G x P E).1⟩,az _ _ f,fun g' F=>cT (hrowsame x P g' E F)⟩⟩
  ali:=fun y r g m J hl l j c d' hj au=>by
   by_cases q:y=d
   ·subst q;rw[ax]at m;simp only[aiA]at m;subst m;rw[aj]at J;cases J
   ·rw[az _ _ q]at m l;obtain⟨u,h1,h2⟩:=p.ali y r g (G y r m).1 J hl l j c d' hj au;exact⟨u,(ain (a:=⟨g.1,g.2+j,none⟩) (hrowsame y r g m l)).trans h1,h2.mono ⟨hk,fun _ _ h =>.inl h,fun x v hv P E K=>by
     by_cases f:x=d
     ·subst f;rw[ax]at E;simp only[aiA]at E;subst E;rw[Q]at K;subst K;exact absurd hv hV.no
     ·rw[az _ _ f]at E;exact⟨⟨P,(G x P E).1,K⟩,az _ _ f,fun g l=>cT (hrowsame x P g E l)⟩⟩⟩ }
def Inv.YA (q:Inv N M L w0 blk V t h a w) {w':World} {h1:Nat->Option Row} {old:Option Nat} {d:Nat} {r0:Row} {go:Option (Nat×Nat)}
  (ai:w'.os=w.os) (S:w'.tape=w.tape) (Z:w'.output=w.output) (T:w.heap.size<=w'.heap.size)
  (hblock:∀k,k<w.heap.size->(∀y g,old=some y->blk y=some g->k≠g.1)->w'.heap[k]? = w.heap[k]?)
  (C:∀y,old=some y->∃r,h y=some r∧r.fz=false) (aa:h1=forget h old) (aw:N<=d) (aj:d≠0) (ab:¬V d r0.v) (ak:∀(y:Nat) (r:Row) (j s n:Nat),h1 y=some r->r.mp=true->r.cells[j]? = some (D.ph d s n)->False)
  (H:match go with
   | some g=>(w.heap.size<=g.1∨∃y I,old=some y∧blk y=some I∧g.1=I.1)∧ez w' (fun b=>Own M h1 blk b∨b=g.1) g r0
   | none=>r0.cells=[]) (al:r0.fz=false) (an:r0.mp=true->∀j x s n:Nat,r0.cells[j]?≠some (D.ph x s n):=by (intro h;cases h)) :
  Inv N M L w0 (b6 blk d go) V t (b6 h1 d (some r0)) a w':=by
 have av:=q.big;have ay:PK=1000000:=rfl;have G:∀x r,h1 x=some r->h x=some r∧∀y,old=some y->x≠y:=by
  intro x r o;cases old with
  | none=>subst aa;exact⟨o,fun y m=>by cases m⟩
  | some y =>
   subst aa;simp only[forget]at o
   by_cases U:x=y
   ·subst U;simp[b6]at o
   ·rw[az _ _ U]at o;exact⟨o,fun z J=>by cases J;exact U⟩
 have hne:∀x r g,h1 x=some r->blk x=some g->∀y I,old=some y->blk y=some I->g.1≠I.1:=by
  intro x r g o l y I m A B;obtain⟨s,P,_⟩:=C y m;exact (G x r o).2 y m (q.inj x y r s g I (G x r o).1 P l A B)
 have ad:∀x r g Q,h1 x=some r->blk x=some g->go=some Q->g.1≠Q.1:=by
  intro x r g Q o l ao B;subst ao;rcases H.1 with hn|⟨y,I,m,A,K⟩
  ·have:=q.lt (G x r o).1 l;omega
  ·exact hne x r g o l y I m A (B.trans K)
 have W:∀b,b<w.heap.size->¬Own M h blk b->w'.heap[b]? = w.heap[b]?:=by
  intro b R hn;refine hblock b R fun y g m l B =>?_;obtain⟨s,P,J⟩:=C y m;exact hn (.inr ⟨y,s,g,P,J,l,B.symm⟩)
 have ae:∀b,b<w.heap.size->¬Own M h blk b->¬Own M (b6 h1 d (some r0)) (b6 blk d go) b:=by
  intro b R hn X;rcases X with X|⟨x,r,g,o,J,l,B⟩
  ·exact hn (.inl X)
  ·by_cases f:x=d
   ·subst f;rw[ax]at l;subst l;rcases H.1 with aA|⟨y,I,m,A,K⟩
    ·omega
    ·obtain⟨s,P,aq⟩:=C y m;exact hn (.inr ⟨y,s,I,P,aq,A,by rw[<- K,B]⟩)
   ·rw[az _ _ f]at o l;exact hn (.inr ⟨x,r,g,(G x r o).1,J,l,B⟩)
 have hk:∀b,b<w.heap.size->¬Own M h blk b->b<w'.heap.size∧¬Own M (b6 h1 d (some r0)) (b6 blk d go) b∧w'.heap[b]? = w.heap[b]? :=
  fun b h1 h2=>⟨by omega,ae b h1 h2,W b h1 h2⟩
 have hrowsame:∀x r g,h1 x=some r->blk x=some g->w'.heap[g.1]? = w.heap[g.1]?:=fun x r g o l=>hblock _ (q.lt (G x r o).1 l) (fun y I m A=>hne x r g o l y I m A);exact {
  tab:=q.tab.keep hk
  below:=q.below.trans (L':=fun k=>∃y g,old=some y∧blk y=some g∧k=g.1) ⟨ai,S,Z,T,fun k ar hn=>hblock k ar (fun y g m l B=>hn ⟨y,g,m,l,B⟩)⟩ (fun k ⟨y,g,m,l,B⟩ aB=>by
   obtain⟨s,P,_⟩:=C y m;rcases q.base P l with R|R
   ·omega
   ·rw[B];exact R)
  mlt:=q.mlt
  lent:=q.lent
  pin:=fun ag l=>⟨(q.pin ag l).1,fun r hr hv=>by
   by_cases f:0=d
   ·exact absurd f.symm aj
   ·rw[az _ _ f]at hr;rw[az _ _ f];obtain⟨k1,k2⟩:=(q.pin ag l).2 r (G 0 r hr).1 hv;exact⟨k1,fun g ah=>(cT (hrowsame 0 r g hr (k1.trans ah))).trans (k2 g ah)⟩⟩
  defers:=q.defers
  tsz:=q.tsz
  slots:=fun i=>(q.slots i).mono ⟨hk,fun _ _ h=>h,fun x v hv O E Q=>by
   by_cases f:x=d
   ·subst f;rw[ax]at E;simp only[aiA]at E;subst E;subst Q;exact absurd hv ab
   ·rw[az _ _ f]at E;exact⟨⟨O,(G x O E).1,Q⟩,az _ _ f,fun g l=>cT (hrowsame x O g E l)⟩⟩
  rows:=fun x r o=>by
   by_cases f:x=d
   ·subst f;rw[ax]at o;simp only[aiA]at o;subst o;rw[ax];refine⟨fun hn=>by omega,?_⟩;cases go with
    | none=>exact H
    | some g =>
     obtain⟨n1,n2⟩:=H;refine⟨?_,n2.keep rfl rfl rfl rfl fun b q1 q2=>⟨q1,fun R=>q2 ?_,rfl⟩⟩;rotate_left
     ·rcases R with R|⟨x',r,Y,o,J,l,B⟩
      ·exact .inl (.inl R)
      ·by_cases f:x'=x
       ·subst f;rw[ax]at l;cases l;exact .inr B.symm
       ·rw[az _ _ f]at o l;exact .inl (.inr ⟨x',r,Y,o,J,l,B⟩)
     rcases n1 with l|⟨y,I,m,A,K⟩
     ·exact .inl (ait q.below.size l)
     ·obtain⟨s,P,_⟩:=C y m;rw[K];exact q.base P A
   ·rw[az _ _ f]at o;rw[az _ _ f];exact⟨fun hn=>(q.rows x r (G x r o).1).1 hn,(q.rows x r (G x r o).1).2.keep (fun g l=>hrowsame x r g o l) hk⟩
  inj:=fun x y r s g Y o m l F B=>by
   by_cases f:x=d
   ·by_cases p:y=d
    ·rw[f,p]
    ·subst f;rw[az _ _ p]at m F;rw[ax]at l;exact absurd B.symm (ad y s Y g m F l)
   ·by_cases p:y=d
    ·subst p;rw[az _ _ f]at o l;rw[ax]at F;exact absurd B (ad x r g Y o l F)
    ·rw[az _ _ f]at o l;rw[az _ _ p]at m F;exact q.inj x y r s g Y (G x r o).1 (G y s m).1 l F B
  big:=q.big
  pha:=fun y r g m hm l j x s n hc=>by
   by_cases p:y=d
   ·subst p;rw[ax]at m;simp only[aiA]at m;subst m;exact absurd hc (an hm j x s n)
   ·rw[az _ _ p]at m l;obtain⟨h0,u,k1,k2⟩:=q.pha y r g (G y r m).1 hm l j x s n hc;have f:x≠d:=by
     intro e;subst e;exact ak y r j s n m hm hc
    exact⟨h0,u,(ain (a:=⟨g.1,g.2+j,none⟩) (hrowsame y r g m l)).trans k1,k2.mono fun O E=>by
     rw[az _ _ f]at E;exact⟨⟨O,(G x O E).1⟩,az _ _ f,fun Y F=>cT (hrowsame x O Y E F)⟩⟩
  ali:=fun y r g m J hl l j c d' hj au=>by
   by_cases p:y=d
   ·subst p;rw[ax]at m;simp only[aiA]at m;subst m;rw[al]at J;cases J
   ·rw[az _ _ p]at m l;obtain⟨u,h1,h2⟩:=q.ali y r g (G y r m).1 J hl l j c d' hj au;exact⟨u,(ain (a:=⟨g.1,g.2+j,none⟩) (hrowsame y r g m l)).trans h1,h2.mono ⟨hk,fun _ _ h=>h,fun x v hv O E Q=>by
     by_cases f:x=d
     ·subst f;rw[ax]at E;simp only[aiA]at E;subst E;subst Q;exact absurd hv ab
     ·rw[az _ _ f]at E;exact⟨⟨O,(G x O E).1,Q⟩,az _ _ f,fun g l=>cT (hrowsame x O g E l)⟩⟩⟩ }
def Inv.YB (C:Inv N M L w0 blk V t h a w) {w':World} {h1:Nat->Option Row} {old:Option Nat} {d:Nat} {r0:Row} {go:Option (Nat×Nat)}
  (E:w'.os=w.os) (f:w'.tape=w.tape) (o:w'.output=w.output) (i:w.heap.size<=w'.heap.size)
  (c:∀k,k<w.heap.size->(∀y g,old=some y->blk y=some g->k≠g.1)->w'.heap[k]? = w.heap[k]?)
  (p:∀y,old=some y->∃r,h y=some r∧r.fz=false) (l:h1=forget h old) {y0:Nat} (F:d=PK+y0) (Q:y0<N) (G:∀v,¬V d v) (H:∀r,h1 y0=some r->r.mp=false)
  (q:match go with
   | some g=>(w.heap.size<=g.1∨∃y R,old=some y∧blk y=some R∧g.1=R.1)∧ez w' (fun b=>Own M h1 blk b∨b=g.1) g r0
   | none=>r0.cells=[]) (I:r0.fz=false) (J:r0.mp=true->∀j x s n:Nat,r0.cells[j]?≠some (D.ph x s n):=by (intro h;cases h)) :
  Inv N M L w0 (b6 blk d go) V t (b6 h1 d (some r0)) a w':=by
 have K:PK=1000000:=rfl;have u:=C.big;refine C.YA E f o i c p l (by omega) (by omega) (G _) (fun y r j s n m O P =>?_) q I J;have A:h y=some r:=by
  cases old with
  | none=>subst l;exact m
  | some z =>
   subst l;simp only[forget]at m
   by_cases B:y=z
   ·subst B;rw[ax]at m;cases m
   ·rwa [az _ _ B]at m
 have e:=(C.rows y r A).2;cases S:blk y with
 | none =>
  rw[S]at e;rw[show r.cells=[] from e]at P;cases P
 | some g =>
  have T:=(C.pha y r g A O S j _ s n P).1;have:y=y0:=by simp only[R8,NK]at T;rw[K]at T F u;omega
  subst this;rw[H r m]at O;cases O
def Inv.Sc (E:Inv N M L w0 blk V t h a w) {w':World} {p:Nat->Option Row} {old:Option Nat} {d e q:Nat} {m s:Bool} {go:Option (Nat×Nat)} {cs:List D}
  (u:w'.os=w.os) (i:w'.tape=w.tape) (n:w'.output=w.output) (l:w.heap.size<=w'.heap.size)
  (c:∀k,k<w.heap.size->(∀y g,old=some y->blk y=some g->k≠g.1)->w'.heap[k]? = w.heap[k]?)
  (o:∀y,old=some y->∃r,h y=some r∧r.fz=false) (z:p=forget h old) (F:j0 N V d e)
  (f:match go with
   | some g=>(w.heap.size<=g.1∨∃y C,old=some y∧blk y=some C∧g.1=C.1)∧∃A:Array Value,w'.heap[g.1]? = some (.cells A q (0,0))∧g.2+cs.length<=A.size∧∀j x,cs[j]? = some x->bn x=true∧RP w' (fun b=>Own M p blk b∨b=g.1) x (A.getD (g.2+j) undef)
   | none=>cs=[]) (B:s=false:=by rfl) :
  Inv N M L w0 (b6 blk d go) (fun x v=>V x v∨(x=d∧v=e)) t (b6 p d (some ⟨e,q,cs,s,m,false⟩)) a w':=by
 refine E.EO (r0:=⟨e,q,cs,s,m,false⟩) u i n l c o z F ?_ B rfl;cases go with
 | none=>exact f
 | some g=>exact f
def Inv.Yz (P:Inv N M L w0 blk V t h a w) {w':World} {h1:Nat->Option Row} {old:Option Nat} {d e ty:Nat} {lst fz:Bool} {go:Option (Nat×Nat)} {cs:List D}
  (C:w'.os=w.os) (l:w'.tape=w.tape) (p:w'.output=w.output) (m:w.heap.size<=w'.heap.size)
  (c:∀k,k<w.heap.size->(∀y g,old=some y->blk y=some g->k≠g.1)->w'.heap[k]? = w.heap[k]?)
  (f:∀y,old=some y->∃r,h y=some r∧r.fz=false) (q:h1=forget h old) (Q:j0 N V d e)
  (i:match go with
   | some g=>(w.heap.size<=g.1∨∃y o,old=some y∧blk y=some o∧g.1=o.1)∧∃s:Array Value,w'.heap[g.1]? = some (.cells s ty (0,0))∧g.2+cs.length<=s.size∧∀j x,cs[j]? = some x->bn x=true∧RP w (Own M h blk) x (s.getD (g.2+j) undef)
   | none=>cs=[]) (hfz:fz=false:=by rfl) :
  Inv N M L w0 (b6 blk d go) (fun x v=>V x v∨(x=d∧v=e)) t (b6 h1 d (some ⟨e,ty,cs,fz,lst,false⟩)) a w':=by
 refine P.Sc C l p m c f q Q ?_ hfz;cases go with
 | none=>exact i
 | some g =>
  obtain⟨E,s,R,S,K⟩:=i;refine⟨E,s,R,S,fun j x O=>⟨(K j x O).1,(K j x O).2.keep fun b T F=>⟨by omega,?_,?_⟩⟩⟩
  ·rintro (G|rfl)
   ·apply F;rcases G with G|⟨x,r,U,B,u,H,z⟩
    ·exact .inl G
    ·refine .inr ⟨x,r,U,?_,u,H,z⟩;subst q;cases old with
     | none=>exact B
     | some y =>
      simp only[forget]at B
      by_cases A:x=y
      ·subst A;simp[b6]at B
      ·rwa [az _ _ A]at B
   ·rcases E with E|⟨y,o,I,n,z⟩
    ·omega
    ·obtain⟨r,J,u⟩:=f y I;exact F (.inr ⟨y,r,o,J,u,n,z.symm⟩)
  ·refine c b T fun y o I n z =>?_;obtain⟨r,J,u⟩:=f y I;exact F (.inr ⟨y,r,o,J,u,n,z.symm⟩)
def Inv.alloc (f:Inv N M L w0 blk V t h a w) {d e ty:Nat} {lst:Bool} {cs:List D} {vs:Array Value} (g:j0 N V d e) (i:cs.length<=vs.size)
  (l:∀j x,cs[j]? = some x->bn x=true∧RP w (Own M h blk) x (vs.getD j undef)) :
  Inv N M L w0 (b6 blk d (some (w.heap.size,0))) (fun x v=>V x v∨(x=d∧v=e)) t (b6 h d (some ⟨e,ty,cs,false,lst,false⟩)) a (w.alloc (.cells vs ty)):=by
 have hold:∀b,b<w.heap.size->(w.alloc (.cells vs ty)).heap[b]? = w.heap[b]?:=fun b c=>Below.heap_alloc w _ b c;have c:=(Below.refl w.heap.size w).alloc (air _) (.cells vs ty);refine f.Yz (h1:=h) (old:=none) c.os c.tape c.output c.size (fun k m _=>hold k m) (fun y n=>by cases n) rfl g ?_;exact⟨.inl (air _),vs,heap_alloc_new w _,by simpa using i,fun j x o=>by simpa using l j x o⟩
def Inv.drop (hI:Inv N M L w0 blk V t h a w) (y:Nat):Inv N M L w0 blk V t (b6 h y none) a w:=by
 have d:∀x r,b6 h y none x=some r->h x=some r:=by
  intro x r k
  by_cases p:x=y
  ·subst p;rw[ax]at k;cases k
  ·rwa [az _ _ p]at k
 have A:∀b,¬Own M h blk b->¬Own M (b6 h y none) blk b:=by
  intro b H o;rcases o with o|⟨x,r,g,k,B,l,C⟩
  ·exact H (.inl o)
  ·exact H (.inr ⟨x,r,g,d x r k,B,l,C⟩)
 exact {
  tab:=hI.tab.keep fun b e f=>⟨e,A b f,rfl⟩
  below:=hI.below
  mlt:=hI.mlt
  lent:=hI.lent
  pin:=fun I l=>⟨(hI.pin I l).1,fun r J K=>(hI.pin I l).2 r (d 0 r J) K⟩
  defers:=hI.defers
  tsz:=hI.tsz
  slots:=fun i=>(hI.slots i).mono ⟨fun b e f=>⟨e,A b f,rfl⟩,fun _ _ h=>h,fun x v _ m e f=>⟨⟨m,d x m e,f⟩,rfl,fun _ _=>rfl⟩⟩
  rows:=fun x r k=>⟨(hI.rows x r (d x r k)).1,(hI.rows x r (d x r k)).2.keep (fun _ _=>rfl) (fun b D E=>⟨D,A b E,rfl⟩)⟩
  inj:=fun x y r s g O k q l F C=>hI.inj x y r s g O (d x r k) (d y s q) l F C
  big:=hI.big
  pha:=fun z r g q P l j x s n Q=>by
   obtain⟨R,u,D,E⟩:=hI.pha z r g (d z r q) P l j x s n Q;exact⟨R,u,D,E.mono fun m S=>⟨⟨m,d x m S⟩,rfl,fun _ _=>rfl⟩⟩
  ali:=fun z r g q B T l j c U W G=>by
   obtain⟨u,e,f⟩:=hI.ali z r g (d z r q) B T l j c U W G;exact⟨u,e,f.mono ⟨fun b e f=>⟨e,A b f,rfl⟩,fun _ _ h=>h,fun x v _ m e f=>⟨⟨m,d x m e,f⟩,rfl,fun _ _=>rfl⟩⟩⟩ }
def Inv.ke (p:Inv N M L w0 blk V t h a w) {x:Nat} {r:Row} (R:h x=some r) (hz:r.fz=false) {r0:Row} {w':World} (T:r0.v=r.v)
  (ad:w'.os=w.os) (H:w'.tape=w.tape) (U:w'.output=w.output) (I:w.heap.size<=w'.heap.size) (hheap:∀b,b<w.heap.size->(∀g,blk x=some g->b≠g.1)->w'.heap[b]? = w.heap[b]?)
  (q:match blk x with
   | some g=>w'.shape? g.1=w.shape? g.1∧ez w' (Own M h blk) g r0
   | none=>r0.cells=[])
  (ae:r0.fz=true->r0.lst=false->∀g,blk x=some g->∀j c d,r0.cells[j]? = some c->alD c=some d->∃u,w'.cell? ⟨g.1,g.2+j,none⟩=some u∧RT w (Own M h blk) h blk V d u) (hph:r0.mp=true->∀g,blk x=some g->∀j C s n:Nat,r0.cells[j]? = some (D.ph C s n)->R8 x j C∧∃u,w'.cell? ⟨g.1,g.2+j,none⟩=some u∧PhR w h blk C s n u:=by (intro h;cases h)) :
  Inv N M L w0 blk V t (b6 h x (some r0)) a w':=by
 have F:∀y s,b6 h x (some r0) y=some s->∃s',h y=some s'∧s.v=s'.v∧(s.fz=false->s'.fz=false):=by
  intro y s f
  by_cases hyx:y=x
  ·subst hyx;rw[ax]at f;simp only[aiA]at f;subst f;exact⟨r,R,T,fun _=>hz⟩
  ·rw[az _ _ hyx]at f;exact⟨s,f,rfl,id⟩
 have ho:∀b,¬Own M h blk b->¬Own M (b6 h x (some r0)) blk b:=by
  intro b W J;rcases J with J|⟨y,s,m,f,K,l,X⟩
  ·exact W (.inl J)
  ·obtain⟨s',B,_,h3⟩:=F y s f;exact W (.inr ⟨y,s',m,B,h3 K,l,X⟩)
 have E:∀b,b<w.heap.size->¬Own M h blk b->w'.heap[b]? = w.heap[b]?:=fun b B h2=>hheap b B (fun g o e=>h2 (.inr ⟨x,r,g,R,hz,o,e.symm⟩));have S:∀b,b<w.heap.size->¬Own M h blk b->b<w'.heap.size∧¬Own M (b6 h x (some r0)) blk b∧w'.heap[b]? = w.heap[b]? :=
  fun b B h2=>⟨by omega,ho b h2,E b B h2⟩
 have hother:∀y s m,y≠x->h y=some s->blk y=some m->w'.heap[m.1]? = w.heap[m.1]?:=fun y s m hyx f l=>hheap _ (p.lt f l) (fun g o e=>hyx (p.inj y x s r m g f R l o e));have hsame:∀y s m,h y=some s->blk y=some m->w'.shape? m.1=w.shape? m.1:=by
  intro y s m f l
  by_cases hyx:y=x
  ·subst hyx;rw[l]at q;exact q.1
  ·exact cT (hother y s m hyx f l)
 exact {
  tab:=p.tab.keep S
  below:=p.below.trans (L':=fun k=>∃g,blk x=some g∧k=g.1) ⟨ad,H,U,I,fun k S hn=>hheap k S (fun g o e=>hn ⟨g,o,e⟩)⟩ (fun k ⟨g,o,X⟩ ai=>by
   rcases p.base R o with W|W
   ·omega
   ·rw[X];exact W)
  mlt:=p.mlt
  lent:=p.lent
  pin:=fun go o=>⟨(p.pin go o).1,fun s hs hv=>by
   obtain⟨s',A,g2,_⟩:=F 0 s hs;obtain⟨G,O⟩:=(p.pin go o).2 s' A (by omega);exact⟨G,fun g Y=>(hsame 0 s' g A (G.trans Y)).trans (O g Y)⟩⟩
  defers:=p.defers
  tsz:=p.tsz
  slots:=fun i=>(p.slots i).mono ⟨S,fun _ _ h=>h,fun y v _ s B h2=>by
   obtain⟨s',A,g2,_⟩:=F y s B;exact⟨⟨s',A,by omega⟩,rfl,fun m l=>hsame y s' m A l⟩⟩
  rows:=fun y s f=>by
   by_cases hyx:y=x
   ·subst hyx;rw[ax]at f;simp only[aiA]at f;subst f;refine⟨fun hn=>by rw[T];exact (p.rows y r R).1 hn,?_⟩;cases o:blk y with
    | none=>rw[o]at q;exact q
    | some g =>
     rw[o]at q;exact⟨p.base R o,q.2.keep rfl rfl rfl rfl fun b P q2=>⟨P,ho b q2,rfl⟩⟩
   ·rw[az _ _ hyx]at f;exact⟨(p.rows y s f).1,(p.rows y s f).2.keep (fun m l=>hother y s m hyx f l) S⟩
  inj:=fun y z s s' A g2 f K ag ah X=>by
   obtain⟨Q,G,_⟩:=F y s f;obtain⟨r2,O,_⟩:=F z s' K;exact p.inj y z Q r2 A g2 G O ag ah X
  big:=p.big
  pha:=fun y Q g f Z o j C s n hc=>by
   by_cases hyx:y=x
   ·subst hyx;rw[ax]at f;simp only[aiA]at f;subst f;obtain⟨h0,u,G,O⟩:=hph Z g o j C s n hc;exact⟨h0,u,G,O.mono fun r' A=>by
     obtain⟨s',P,_⟩:=F C r' A;exact⟨⟨s',P⟩,rfl,fun m l=>hsame C s' m P l⟩⟩
   ·rw[az _ _ hyx]at f;obtain⟨h0,u,G,O⟩:=p.pha y Q g f Z o j C s n hc;exact⟨h0,u,(ain (a:=⟨g.1,g.2+j,none⟩) (hother y Q g hyx f o)).trans G,O.mono fun r' A=>by
     obtain⟨s',P,_⟩:=F C r' A;exact⟨⟨s',P⟩,rfl,fun m l=>hsame C s' m P l⟩⟩
  ali:=fun y Q g f aa hl o j c d' hj ab=>by
   have Z:∀ {u:Value},RT w (Own M h blk) h blk V d' u->RT w' (Own M (b6 h x (some r0)) blk) (b6 h x (some r0)) blk V d' u:=fun h2=>h2.mono ⟨S,fun _ _ h=>h,fun y v _ s B h2=>by
    obtain⟨s',A,g2,_⟩:=F y s B;exact⟨⟨s',A,by omega⟩,rfl,fun m l=>hsame y s' m A l⟩⟩
   by_cases hyx:y=x
   ·subst hyx;rw[ax]at f;simp only[aiA]at f;subst f;obtain⟨u,B,h2⟩:=ae aa hl g o j c d' hj ab;exact⟨u,B,Z h2⟩
   ·rw[az _ _ hyx]at f;obtain⟨u,B,h2⟩:=p.ali y Q g f aa hl o j c d' hj ab;exact⟨u,(ain (a:=⟨g.1,g.2+j,none⟩) (hother y Q g hyx f o)).trans B,Z h2⟩ }
def Inv.rewrite (q:Inv N M L w0 blk V t h a w) {x:Nat} {r:Row} (s:h x=some r) (v:r.fz=false) {cs:List D} {lst fz:Bool} {w':World}
  (m:w'.os=w.os) (f:w'.tape=w.tape) (l:w'.output=w.output) (i:w.heap.size<=w'.heap.size) (k:∀b,b<w.heap.size->(∀g,blk x=some g->b≠g.1)->w'.heap[b]? = w.heap[b]?)
  (e:match blk x with
   | some g=>w'.shape? g.1=w.shape? g.1∧∃n:Array Value,w'.heap[g.1]? = some (.cells n r.ty (0,0))∧g.2+cs.length<=n.size∧∀j d,cs[j]? = some d->bn d=true∧RP w' (Own M h blk) d (n.getD (g.2+j) undef)
   | none=>cs=[])
  (o:fz=true->lst=false->∀g,blk x=some g->∀j c d,cs[j]? = some c->alD c=some d->∃u,w'.cell? ⟨g.1,g.2+j,none⟩=some u∧RT w (Own M h blk) h blk V d u) :
  Inv N M L w0 blk V t (b6 h x (some ⟨r.v,r.ty,cs,fz,lst,false⟩)) a w':=by
 refine q.ke (r0:=⟨r.v,r.ty,cs,fz,lst,false⟩) s v rfl m f l i k ?_ o;cases p:blk x with
 | none=>rw[p]at e;exact e
 | some g=>rw[p]at e;exact e
def Inv.write (y:Inv N M L w0 blk V t h a w) {x:Nat} {r:Row} {g:Nat×Nat} (q:h x=some r) (l:r.fz=false) (m:blk x=some g) (n:r.mp=false) {cs:List D} {f k:Array Value} (s:w.heap[g.1]? = some (.cells k r.ty (0,0))) (o:f.size=k.size)
  (z:g.2+cs.length<=f.size) (u:∀j d,cs[j]? = some d->bn d=true∧RP w (Own M h blk) d (f.getD (g.2+j) undef)) :
  Inv N M L w0 blk V t (b6 h x (some { r with cells:=cs })) a (w.setRow g.1 f):=by
 have hheap:∀b,b≠g.1->(w.setRow g.1 f).heap[b]? = w.heap[b]?:=by
  intro b p;simp only[World.setRow,aiB];rw[if_neg (Ne.symm p)]
 have c:(w.setRow g.1 f).heap.size=w.heap.size:=by simp[World.setRow]
 have i:(w.setRow g.1 f).heap[g.1]? = some (.cells f r.ty (0,0)):=setRow_heap w g.1 k f r.ty (0,0) s;have A:({ r with cells:=cs } : Row)=⟨r.v,r.ty,cs,r.fz,r.lst,false⟩:=by rw[<- n]
 rw[A];refine y.rewrite (fz:=r.fz) (lst:=r.lst) q l rfl rfl rfl (by rw[c];exact air _) (fun b _ p=>hheap b (p g m)) ?_ (fun h=>by rw[l]at h;cases h);rw[m];exact⟨by simp[World.shape?,i,s,o],f,i,z,fun j d v=>⟨(u j d v).1,(u j d v).2.keep fun b B q2=>⟨by rw[c];exact B,q2,hheap b (fun e=>q2 (.inr ⟨x,r,g,q,l,m,e.symm⟩))⟩⟩⟩
end
structure Ay (w:World) (M:Nat->Prop) (args:List D) (vs:Array Value):Prop where
 size:vs.size=args.length
 at_:∀j d,args[j]? = some d->RP w M d (vs.getD j undef)
 tab:Ww w M
def wI (w e:World) (M:Nat->Prop) (f:Nat->Prop) (v:Value):RK->Prop
 | .clean d=>RP e M d v
 | .fresh ty s n cells =>
  (∃(g:Nat×Nat) (c:Nat) (a:Array Value),v=.slice (some ⟨g.1,g.2,none⟩) n c∧(w.heap.size<=g.1∨f g.1)∧e.heap[g.1]? = some (.cells a ty (0,0))∧n<=c∧c<=maxLen∧c*s+g.2=a.size∧g.2+cells.length<=a.size ∧
   ∀(j:Nat) d,cells[j]? = some d->bn d=true∧RP e (fun b=>M b∨b=g.1) d (a.getD (g.2+j) undef))∨(n=0∧cells=[]∧∃A,v=.slice A 0 0)
 | .same _ _ _=>False
def uQ (a:Option (Nat×Nat)) (b:Nat):Prop:=∃g,a=some g∧b=g.1
def Us (w:World) (M:Nat->Prop) (a:Option (Nat×Nat)) (r:Row):Prop :=
 match a with
 | some g=>ez w M g r
 | none=>r.cells=[]
def CZ (w:World) (go:Option (Nat×Nat)) (d:D) (u:Value):Prop:=RT w (fun _=>False) (fun x=>if x=0 then some ⟨0,0,[],false,false,false⟩ else none) (fun _=>go) (fun _ _=>True) d u
def ac3 (w w':World) (M:Nat->Prop) (a:Option (Nat×Nat)) (r:Row):Option Row->Prop
 | some r1=>r1.ty=r.ty∧r1.fz=false∧(r1.mp=r.mp∧vx r1=true)∧(∀g,a=some g->w'.shape? g.1=w.shape? g.1)∧Us w' (fun b=>M b∨uQ a b) a r1
 | none=>True
def ac5 (w a:World) (M:Nat->Prop) (c:Option (Nat×Nat)) (v:Value):RK->Prop
 | .same s o n=>CZ a c (.buf 0 0 s o n) v
 | .clean d=>RP a (fun b=>M b∨uQ c b) d v
 | .fresh ty s n cells=>wI w a M (uQ c) v (.fresh ty s n cells)
def rp (P:Program) (f:FuncId) (g:Option (D×Row)) (a:List D) (j:RK) (i:Option Row):Prop :=
 match g with
 | none=>∀(w:World) (M:Nat->Prop) (h:Array Value),(∀b,M b->b<w.heap.size)->Ay w M a h->Calls P f h w fun e d=>∃v,e=.returned v∧Below w.heap.size w d∧wI w d M (fun _=>False) v j
 | some (d0,r)=>∀(w:World) (M:Nat->Prop) (c:Option (Nat×Nat)) (k:Value) (h:Array Value),(∀b,M b->b<w.heap.size)->(∀b,uQ c b->¬M b)->r.fz=false->vx r=true->Us w (fun b=>M b∨uQ c b) c r->CZ w c d0 k->Ay w (fun b=>M b∨uQ c b) a h ->
  Calls P f (#[k]++h) w fun e d=>∃v,e=.returned v∧ee (uQ c) w d∧ac3 w d M c r i∧ac5 w d M c v j
def R0 (P:Program) (f:FuncId) (a:List D) (r:D):Prop:=rp P f none a (.clean r) none
def eD (P:Program) (f:FuncId):Prop:=∃a,P.funcs[f]? = some a∧(a.name == "runtime.NumGoroutine")=false∧a.body.isNone=false
def Ys (w:World) (d k:Nat) (a:Option (Nat×Nat)) (u:Value) (n:Nat) (b:List Value):Prop :=
 (∃g c arr,a=some g∧u=.slice (some ⟨g.1,g.2,none⟩) n c∧w.heap[g.1]? = some (.cells arr d (0,0))∧c*k+g.2=arr.size∧n<=c∧c<=maxLen∧∀(j:Nat) x,b[j]? = some x->arr[g.2+j]? = some x)∨(a=none∧n=0∧b=[]∧∃A,u=.slice A 0 0)
structure Yi (P:Program) (f:FuncId) (p:Nat×Nat×Nat):Prop where
 callable:eD P f
 pos:0<p.2.1
 calls:∀(w:World) (go go':Option (Nat×Nat)) (u u':Value) (i n m:Nat) (cs cs':List Value),Ys w p.1 p.2.1 go u n cs->Ys w p.1 p.2.1 go' u' m cs'->(∀g g',go=some g->go'=some g'->g.1≠g'.1) ->
  cs.length=n*p.2.1->cs'.length=m*p.2.1->(∀x∈cs,x.oneCell'=true)->(∀x∈cs',x.oneCell'=true)->i<=n->0<m->(n+m)*p.2.2<=140737488355328 ->
  Calls P f #[u,.int .i64 i,u'] w fun e w'=>∃v,e=.returned v∧ee (uQ go) w w' ∧
   ∃(g:Nat×Nat) (c:Nat) (arr:Array Value),v=.slice (some ⟨g.1,g.2,none⟩) (n+m) c∧(w.heap.size<=g.1∨uQ go g.1)∧w'.heap[g.1]? = some (.cells arr p.1 (0,0))∧n+m<=c∧c<=maxLen∧c*p.2.1+g.2=arr.size ∧
    ∀(j:Nat) x,(cs.take (i*p.2.1)++(cs'++cs.drop (i*p.2.1)))[j]? = some x->arr[g.2+j]? = some x
def M8:D->Value
 | .int k n =>.int k n
 | .bool b =>.bool b
 | .str s =>.string s
 | _=>undef
def Dv:D->Bool
 | .int _ _ | .bool _ | .str _=>true
 | _=>false
def acU:D->Value
 | .agg xs =>.agg (xs.map M8).toArray
 | d=>M8 d
def adm:D->Bool
 | .agg xs=>xs.all Dv
 | d=>Dv d
def JR {w:World} {M:Nat->Prop} {d:D} {u:Value} (a:Dv d=true) (h:RP w M d u):u=M8 d:=by
 cases h<;>first|rfl|cases a
def ZL {w:World} {M:Nat->Prop} {d:D} (a:Dv d=true):bn d=true∧RP w M d (M8 d):=by
 cases d with
 | int k n=>exact⟨rfl,.int k n⟩
 | bool b=>exact⟨rfl,.bool b⟩
 | str s=>exact⟨rfl,.str s⟩
 | _=>cases a
def W2 {w:World} {M:Nat->Prop} {d:D} {u:Value} (b:adm d=true) (h:RP w M d u):u=acU d:=by
 cases h with
 | agg xs us h1 h2 h3 =>
  simp only[acU];congr 2;apply List.ext_getElem
  ·simpa using h1
  ·intro i e f;have c:i<xs.length:=by omega
   have a:Dv xs[i]=true:=aiC.1 b _ (aiD c);have:=JR a (h2 i _ (aiE c));rw[List.getElem_map,<- this];simp[List.getD,e]
 | _=>first|rfl|cases b
structure ac0 (P:Program) (f:FuncId) (p:Grow):Prop where
 callable:eD P f
 pos:0<p.k
 flat:∀ds aim cs,p.sem ds aim=some cs->(∀d∈ds,Dv d=true)∧(∀d∈aim,adm d=true)∧(∀d∈cs,Dv d=true)∧cs.length=p.k
 calls:∀(w:World) (gy:Nat×Nat) (ya:Array Value) (ty:Nat) (go:Option (Nat×Nat)) (u:Value) (n:Nat) (ds aim cs:List D),w.heap[gy.1]? = some (.cells ya ty (0,0))->ya[gy.2]? = some u->Ys w p.ty p.k go u n (ds.map M8) ->
  (∀g,go=some g->g.1≠gy.1)->ds.length=n*p.k->p.sem ds aim=some cs->(n+1)*p.bytes<=140737488355328 ->
  Calls P f (#[.pointer (some ⟨gy.1,gy.2,none⟩)]++(aim.map acU).toArray) w fun e w'=>e=.returned (.int .i64 (n:Int))∧ee (fun b=>b=gy.1∨uQ go b) w w' ∧
   ∃(g:Nat×Nat) (c:Nat) (arr:Array Value),(w.heap.size<=g.1∨uQ go g.1)∧w'.heap[gy.1]? = some (.cells (ya.setIfInBounds gy.2 (.slice (some ⟨g.1,g.2,none⟩) (n+1) c)) ty (0,0))∧w'.heap[g.1]? = some (.cells arr p.ty (0,0)) ∧
    n+1<=c∧c<=maxLen∧c*p.k+g.2=arr.size∧∀(j:Nat) x,((ds++cs).map M8)[j]? = some x->arr[g.2+j]? = some x
structure IE (w:World) (Q:Nat->Prop) (blk:Nat->Option (Nat×Nat)) (h:Nat->Option Row):Prop where
 rows:∀x r,h x=some r->match blk x with|some g=>ez w Q g r|none=>r.cells=[]
 inj:∀x y r s g g',h x=some r->h y=some s->blk x=some g->blk y=some g'->g.1=g'.1->x=y
 pha:∀y r g,h y=some r->r.mp=true->blk y=some g->∀j x s n:Nat,r.cells[j]? = some (D.ph x s n)->R8 y j x∧∃u,w.cell? ⟨g.1,g.2+j,none⟩=some u∧PhR w h blk x s n u
def ja (a t s b:Nat) (c:List D):Row:=⟨0,a,[.nr t s b c],false,true,true⟩
def nD (r:Row) (x:Nat):Option Row:=if x=0 then some r else none
def yj (blk:Nat->Option (Nat×Nat)) (h:Nat->Option Row) (b:Nat):Prop:=∃x r g,h x=some r∧blk x=some g∧g.1=b
def Lj (P:Program) (f:FuncId) (k t s o:Nat) (m g:List D) (d:D) (j:List D):Prop :=
 ∀(w:World) (M:Nat->Prop) (blk:Nat->Option (Nat×Nat)) (h h':Nat->Option Row) (c:Nat×Nat) (l:Array Value),h=EH (nD (ja k t s 0 m))->h'=EH (nD (ja k t s 0 j)) ->
  (∀b,M b->b<w.heap.size)->(∀b,yj blk h b->¬M b)->blk 0=some c->IE w (fun b=>M b∨yj blk h b) blk h->Ay w (fun b=>M b∨yj blk h b) g l ->
  Calls P f (#[.pointer (some ⟨c.1,c.2+o,none⟩)]++l) w fun e i=>∃v a,e=.returned v∧ee (yj blk h) w i∧a 0=some c∧i.shape? c.1=w.shape? c.1∧(∀b,yj a h' b->w.heap.size<=b∨yj blk h b)∧IE i (fun b=>M b∨yj a h' b) a h'∧RP i (fun b=>M b∨yj a h' b) d v
def Li (P:Program) (f:FuncId) (a:List D) (g t s S n:Nat) (i:List D):Prop :=
 ∀(w:World) (M:Nat->Prop) (h:Nat->Option Row) (d:Array Value),h=EH (nD (ja g t s 0 i))->(∀b,M b->b<w.heap.size)->Ay w M a d ->
  Calls P f d w fun e c=>∃v blk,e=.returned v∧Below w.heap.size w c∧(∀b,yj blk h b->w.heap.size<=b)∧IE c (fun b=>M b∨yj blk h b) blk h∧CZ c (blk 0) (.buf 0 0 S 0 n) v
structure bI (P:Program) (Γ:Env):Prop where
 calls:∀f lent args rk out,Γ.sem f lent args=some (rk,out)->rp P f lent args rk out∧eD P f
 ins:∀f p,Γ.ins f=some p->Yi P f p
 grw:∀f p,Γ.grw f=some p->ac0 P f p
 lnd:∀f p,Γ.nx.lnd f=some p->eD P f∧∀ty t s o cs args d cs',p.2 ty t s o cs args=some (d,cs')->Lj P f ty t s o cs args d cs'
 res:∀f p,Γ.nx.res f=some p->eD P f∧∀args ty t s S n cs,p args=some (ty,t,s,S,n,cs)->Li P f args ty t s S n cs
def eJ.get {P:Program} {t:Nat} {τ:Ty} (h:eJ P t τ):∃d i z,P.underlying t=some d∧conv d=τ.ds∧P.info? t=some i∧i.size=τ.size∧i.bytes=τ.bytes∧i.zero=some z∧z.cells=τ.zero.toArray:=by
 have b:=h.desc;have a:=h.info;cases e:P.underlying t with
 | none=>simp[e]at b
 | some d =>
  cases f:P.info? t with
  | none=>simp[f]at a
  | some i =>
   simp only[e,Option.map_some,aiA]at b;simp only[f,Option.map_some,aiA,Prod.mk.injEq]at a;cases c:i.zero with
   | none=>simp[c]at a
   | some z =>
    simp only[c,Option.map_some,aiA]at a;exact⟨d,i,z,rfl,b,rfl,a.1,a.2.1,c,by rw[<- a.2.2]⟩
def eE (P:Program) (o:Oper) (a:Act) (w:World) (Φ:Value->World->Prop):Prop :=
 (∃v c,(execOp a.eval o).run P w=.ok (.value v) c∧Φ v c)∨(∃c,(execOp a.eval o).run P w=.ok .skip c∧Φ undef c) ∨
 (∃f b,(execOp a.eval o).run P w=.ok (.enter f b) w∧Calls P f b w (fun e c=>∃v,e=.returned v∧Φ v c))
def eE.mono {P:Program} {o:Oper} {a:Act} {w:World} {Φ Ψ:Value->World->Prop} (h:eE P o a w Φ) (i:∀v b,Φ v b->Ψ v b):eE P o a w Ψ:=by
 rcases h with⟨v,b,c,d⟩|⟨b,c,d⟩|⟨f,g,c,d⟩
 ·exact .inl ⟨v,b,c,i _ _ d⟩
 ·exact .inr (.inl ⟨b,c,i _ _ d⟩)
 ·exact .inr (.inr ⟨f,g,c,d.mono fun e b ⟨v,j,k⟩=>⟨v,j,i _ _ k⟩⟩)
def eE.wp {P:Program} {o:Oper} {a:Act} {w:World} {Φ:Value->World->Prop} {K:Act->World->Prop} {Q:Exit->Act->World->Prop} (h:eE P o a w Φ) (g:∀v b,Φ v b->K (a.put o.dst v) b):o.wp P a w K Q:=by
 unfold Oper.wp;rcases h with⟨v,b,c,d⟩|⟨b,c,d⟩|⟨f,i,c,d⟩
 ·rw[c];exact g v b d
 ·rw[c];exact g undef b d
 ·rw[c];refine d.mono fun e b ⟨v,j,k⟩ =>?_;subst j;exact g v b k
section
variable {N:Nat} {M:Nat->Prop} {L:kx} {w0:World} {blk:Nat->Option (Nat×Nat)} {V:Nat->Nat->Prop} {t:Nat->D} {h:Nat->Option Row} {a:Act} {w:World}
structure qy (M:Nat->Prop) (h:Nat->Option Row) (blk:Nat->Option (Nat×Nat)) (fr:List Nat) (M':Nat->Prop):Prop where
 le:∀b,M' b->Own M h blk b
 no:∀x,x∈fr->∀r g,h x=some r->blk x=some g->¬M' g.1
def qy.left {b a:List Nat} {c:Nat->Prop} (hl:qy M h blk (b++a) c):qy M h blk b c:=⟨hl.le,fun x d=>hl.no x (aiF _ d)⟩
def qy.right {c a:List Nat} {b:Nat->Prop} (hl:qy M h blk (c++a) b):qy M h blk a b:=⟨hl.le,fun x d=>hl.no x (aiG _ d)⟩
def Inv.gj (o:Inv N M L w0 blk V t h a w) (p:List Nat):qy M h blk p (Own M (aR h (kb h p)) blk) where
 le b d:=by
  rcases d with d|⟨x,l,g,c,e,k,rfl⟩
  ·exact .inl d
  ·rw[B0]at c;split at c
   ·cases i:h x with
    | none=>simp[i]at c
    | some r=>simp only[i,Option.map_some,aiA]at c;subst c;rw[LX]at e;cases e
   ·exact .inr ⟨x,l,g,c,e,k,rfl⟩
 no x c r g i k d:=by
  rcases d with d|⟨y,l,q,f,e,m,s⟩
  ·exact o.notM i k d
  ·rw[B0]at f;split at f
   ·cases j:h y with
    | none=>simp[j]at f
    | some u=>simp only[j,Option.map_some,aiA]at f;subst f;rw[LX]at e;cases e
   ·rename_i n;have:y=x:=o.inj y x l r q g f i m k s;subst this;exact n c
def Inv.J3 (j:Inv N M L w0 blk V t h a w) (d:List Nat):qy M h blk d (fun b=>Own M h blk b∧∀x,x∈d->∀r g,h x=some r->blk x=some g->g.1≠b) where
 le b c:=c.1
 no x e r g f i c:=c.2 x e r g f i rfl
def rZ {x v:Nat} {r:Row} (a:pM h x v=some r):h x=some r∧r.v=v:=by
 unfold pM at a;split at a
 ·split at a
  ·simp only[aiA]at a;subst a;exact⟨by assumption,by assumption⟩
  ·cases a
 ·cases a
def cz {x v:Nat} {r:Row} (a:live h x v=some r):h x=some r∧r.v=v:=by
 unfold live at a;split at a
 ·split at a
  ·rename_i b;simp only[aiA]at a;subst a;exact⟨by assumption,b.1⟩
  ·cases a
 ·cases a
def iZ {x v:Nat} {r:Row} (a:live h x v=some r):r.mp=false:=by
 unfold live at a;split at a
 ·split at a
  ·rename_i b;simp only[aiA]at a;subst a;exact b.2
  ·cases a
 ·cases a
def DC {x v:Nat} {r:Row} (a:Ac h x v=some r):h x=some r∧r.v=v∧r.mp=true∧vx r=true:=by
 unfold Ac at a;split at a
 ·rename_i d b;split at a
  ·rename_i c;simp only[aiA]at a;subst a;exact⟨b,c⟩
  ·cases a
 ·cases a
def Gn {r:Row} (h:r.mp=false):vx r=true:=by unfold vx;rw[h]
def Bb {r:Row} (h:vx r=true) (d:r.mp=true):∃a b,r.cells=[.mpc a b]:=by
 unfold vx at h;split at h
 ·rename_i a b _ e;exact⟨a,b,e⟩
 ·cases h
 ·rename_i c;rw[d]at c;cases c
def Gi {x v:Nat} {d:List dx} {e:List D} (a:lS h x v=some (d,e)):∃r,h x=some r∧r.v=v∧r.mp=true∧r.cells=[.mpc d e]∧r.ty<900000:=by
 unfold lS at a;split at a
 ·rename_i r f;split at a
  ·rename_i b;split at a
   ·rename_i c;simp only[aiA,Prod.mk.injEq]at a;obtain⟨rfl,rfl⟩:=a;exact⟨r,f,b.1,b.2.1,c,b.2.2⟩
   ·cases a
  ·cases a
 ·cases a
def cR {α:Type} (l:List α) (o n j:Nat):((l.drop o).take n)[j]? = if j<n then l[o+j]? else none:=by
 rw[aiH];split
 ·rw[aiI]
 ·rfl
def Inv.AF (l:Inv N M L w0 blk V t h a w) {x v s o n:Nat} {r:Row} {u:Value} (m:live h x v=some r) (q:RT w (Own M h blk) h blk V (.buf x v s o n) u) :
  (∃(g:Nat×Nat) (o' c:Nat) (b:Array Value),blk x=some g∧u=.slice (some ⟨g.1,o',none⟩) n c∧n<=c∧c<=maxLen∧w.heap[g.1]? = some (.cells b r.ty (0,0))∧(0<c∨o=0->o'=g.2+o∧c*s+o'=b.size) ∧
   g.2+r.cells.length<=b.size∧∀j d,r.cells[j]? = some d->bn d=true∧RP w (Own M h blk) d (b.getD (g.2+j) undef))∨(blk x=none∧n=0∧r.cells=[]∧∃A,u=.slice A 0 0):=by
 obtain⟨f,y⟩:=cz m;rcases q.2 r f y with⟨g,o',c,z,B,e,i,k,C,D,E⟩|⟨e,i,A,k⟩
 ·obtain⟨b,p,F,G⟩:=l.Gh f e (iZ m);have:(r.ty,b.size)=(B,z):=by simpa [World.shape?,p] using E
  simp only[Prod.mk.injEq]at this;exact .inl ⟨g,o',c,b,e,i,C,D,p,fun H=>by obtain⟨I,J⟩:=k H;exact⟨I,by rw[J,this.2]⟩,F,G⟩
 ·have:=(l.rows x r f).2;rw[e]at this;exact .inr ⟨e,i,this,A,k⟩
def aW {w:World} {g:Nat} {a:Array Value} {b:Nat} (c:w.heap[g]? = some (.cells a b (0,0))) {j:Nat} (d:j<a.size):w.cell? ⟨g,j,none⟩=some (a.getD j undef):=by
 simp[World.cell?,c,d]
def Inv.dU (I:Inv N M L w0 blk V t h a w) {d q:D} {J:List Nat} {u:Value} {z:Nat->Prop} (e:dU h d=some (q,J)) (K:qy M h blk J z) (l:RT w (Own M h blk) h blk V d u):RP w z q u∧bn q=true:=by
 have m:∀b,b<w.heap.size->¬Own M h blk b->b<w.heap.size∧¬z b∧w.heap[b]? = w.heap[b]?:=fun b Q h2=>⟨Q,fun R=>h2 (K.le b R),rfl⟩;cases d with
 | int k n=>simp only[Am.dU,aiA,Prod.mk.injEq]at e;obtain⟨rfl,rfl⟩:=e;exact⟨RP.keep m l,rfl⟩
 | bool b=>simp only[Am.dU,aiA,Prod.mk.injEq]at e;obtain⟨rfl,rfl⟩:=e;exact⟨RP.keep m l,rfl⟩
 | str s=>simp only[Am.dU,aiA,Prod.mk.injEq]at e;obtain⟨rfl,rfl⟩:=e;exact⟨RP.keep m l,rfl⟩
 | sl x y n xs=>simp only[Am.dU,aiA,Prod.mk.injEq]at e;obtain⟨rfl,rfl⟩:=e;exact⟨RP.keep m l,rfl⟩
 | buf x v s o n =>
  simp only[Am.dU]at e;split at e
  ·rename_i r i;split at e
   ·rename_i S;simp only[aiA,Prod.mk.injEq]at e;obtain⟨rfl,rfl⟩:=e;rcases I.AF i l with⟨g,T,c,cs,B,C,O,E,U,W,Y,P⟩|⟨B,C,O,A,E⟩
    ·subst C;refine⟨.sl (some ⟨g.1,T,none⟩) c false false n _ (fun j=>cs.getD (g.2+(o+j)) undef) O E (fun h=>by cases h) (fun h=>by cases h) (fun h=>by cases h) (fun F =>?_) (fun j y f =>?_) (fun y G =>?_),rfl⟩
     ·have Z:0<n:=by
       rcases aiJ n with H|H
       ·subst H;simp at F
       ·exact H
      have X:=(W (.inl (by omega))).1;subst X;refine⟨g.1,g.2+o,rfl,I.lt (cz i).1 B,K.no x (by simp) r g (cz i).1 B,fun j f =>?_⟩;simp only[aiK,aiL]at f;rw[aiM];exact aW U (by omega)
     ·rw[cR]at f;split at f
      ·exact (P _ _ f).2.keep m
      ·cases f
     ·obtain⟨j,f⟩:=aiN G;rw[cR]at f;split at f
      ·exact (P _ _ f).1
      ·cases f
    ·subst C E;have p:List.take (0*s) (List.drop o r.cells)=[]:=by simp
     rw[p];exact⟨.sl A 0 false false 0 [] (fun _=>undef) (air _) (ais _) (fun h=>by cases h) (fun _=>⟨rfl,rfl⟩) (fun h=>by cases h) (fun h=>absurd rfl h) (fun j y f=>by simp at f) (fun y G=>by simp at G),rfl⟩
   ·cases e
  ·cases e
 | _=>simp[Am.dU]at e
def yu {h:Nat->Option Row} {d:D} (a:∀b,d ≠ .agg b):Am.rH h d=Am.dU h d:=by
 cases d<;>first|rfl|exact absurd rfl (a _)
def Inv.rH (m:Inv N M L w0 blk V t h a w) {d i:D} {j:List Nat} {u:Value} {e:Nat->Prop} (c:rH h d=some (i,j)) (k:qy M h blk j e) (l:RT w (Own M h blk) h blk V d u):RP w e i u:=by
 by_cases f:∀g,d ≠ .agg g
 ·rw[yu f]at c;exact (m.dU c k l).1
 ·have n:∀b,b<w.heap.size->¬Own M h blk b->b<w.heap.size∧¬e b∧w.heap[b]? = w.heap[b]?:=fun b o h2=>⟨o,fun p=>h2 (k.le b p),rfl⟩;simp only[ne_eq,Classical.not_forall,Classical.not_not]at f;obtain⟨g,rfl⟩:=f;simp only[Am.rH,aiA,Prod.mk.injEq]at c;obtain⟨rfl,rfl⟩:=c;exact RP.keep n (show RP w (Own M h blk) (.agg g) u from l)
def Inv.PX (A:Inv N M L w0 blk V t h a w) {x v:Nat} {f:List dx} {i:List D} {u:Value} (B:lS h x v=some (f,i)) (C:RT w (Own M h blk) h blk V (.mp x v) u) :
  ∃(g:Nat×Nat) (r:Row),h x=some r∧r.v=v∧r.mp=true∧r.cells=[.mpc f i]∧blk x=some g∧u=.map (some g.1)∧i.length=f.length∧∃(b:Array MapEntry) (c:Nat),w.heap[g.1]? = some (.map b c)∧b.size=f.length∧MapKept.Stamped b c∧∃l:Nat->Value,(∀j k,f[j]? = some k->∃e:MapEntry,b[j]? = some e∧e.key=mg k∧e.val=l j)∧∀j x,i[j]? = some x->RP w (Own M h blk) x (l j):=by
 obtain⟨r,m,s,y,n,o⟩:=Gi B;obtain⟨g,z,E⟩:=C.2 r m s;have d:=A.rowIs m z;unfold ez at d;rw[y]at d;rcases d with d|⟨d,_⟩;rotate_left
 ·rw[n]at d;have:=d _ (aiO.2 rfl);cases this
 obtain⟨F,G,p,H,I,_⟩:=d;obtain⟨b,c,J,K,q,l,O,P⟩:=I o;rw[n]at p;simp only[aiP,D.mpc.injEq,and_true]at p;obtain⟨rfl,rfl⟩:=p;exact⟨g,r,m,s,y,n,z,E,H,b,c,J,K,q,l,O,P⟩
def Inv.VF (m:Inv N M L w0 blk V t h a w) {x v:Nat} {e:List dx} {f:List D} {u:Value} {i:Nat->Prop} (q:lS h x v=some (e,f)) (k:∀r g,h x=some r->blk x=some g->¬i g.1)
  (s:∀b,b<w.heap.size->¬Own M h blk b->b<w.heap.size∧¬i b∧w.heap[b]? = w.heap[b]?) (z:RT w (Own M h blk) h blk V (.mp x v) u):RP w i (.mpc e f) u:=by
 obtain⟨g,r,n,H,I,J,o,rfl,A,d,c,B,C,_,E,F,l⟩:=m.PX q z;refine .mpc e f (some g.1) E A (fun h=>by cases h) (fun b p =>?_) (fun j y G=>(l j y G).keep s);simp only[aiA]at p;subst p;exact⟨m.lt n o,k r g n o,d,c,B,C,F⟩
def Inv.bF (p:Inv N M L w0 blk V t h a w) {d E:D} {F:List Nat} {u:Value} {G:Nat->Prop} (c:bF h d=some (E,F)) (q:qy M h blk F G) (i:RT w (Own M h blk) h blk V d u):RP w G E u:=by
 have A:∀b,b<w.heap.size->¬Own M h blk b->b<w.heap.size∧¬G b∧w.heap[b]? = w.heap[b]?:=fun b l h2=>⟨l,fun X=>h2 (q.le b X),rfl⟩;have one:∀d,Am.bF h d=(match Am.dU h d with|some (E,F)=>some (canon E,F)|none=>none)->Am.bF h d=some (E,F)->RT w (Own M h blk) h blk V d u->RP w G E u:=by
  intro d Y c i;rw[Y]at c;split at c
  ·rename_i d1 H l;simp only[aiA,Prod.mk.injEq]at c;obtain⟨rfl,rfl⟩:=c;exact (p.dU l q i).1.canon
  ·cases c
 cases d with
 | ptr x v o =>
  simp only[Am.bF]at c;split at c
  ·rename_i r m;split at c
   ·rename_i Z;simp only[aiA,Prod.mk.injEq]at c;obtain⟨rfl,rfl⟩:=c;obtain⟨k,I⟩:=cz m;obtain⟨g,B,J⟩:=i.2 r k I;obtain⟨cs,g2,g3,R⟩:=p.Gh k B (iZ m);subst J;refine .ip _ _ (fun j=>cs.getD (g.2+(o+j)) undef) (fun aa=>⟨g.1,g.2+o,rfl,p.lt k B,q.no x (by simp) r g k B,fun j e =>?_⟩) (fun j y e =>?_) (fun y hy =>?_)
    ·simp only[aiL]at e;rw[aiM];exact aW g2 (by omega)
    ·rw[aiI]at e;exact (R _ _ e).2.keep A
    ·obtain⟨j,e⟩:=aiN hy;rw[aiI]at e;exact (R _ _ e).1
   ·cases c
  ·cases c
 | agg xs=>simp only[Am.bF,aiA,Prod.mk.injEq]at c;obtain⟨rfl,rfl⟩:=c;exact (RP.keep A i).jw
 | ip xs=>simp only[Am.bF,aiA,Prod.mk.injEq]at c;obtain⟨rfl,rfl⟩:=c;exact RP.keep A i
 | fn f=>simp only[Am.bF,aiA,Prod.mk.injEq]at c;obtain⟨rfl,rfl⟩:=c;exact RP.keep A i
 | box1 x v s o n =>
  simp only[Am.bF]at c;split at c
  ·rename_i d1 H l;simp only[aiA,Prod.mk.injEq]at c;obtain⟨rfl,rfl⟩:=c;obtain⟨u',rfl,_,i⟩:=i;obtain⟨K,O⟩:=p.dU l q (show RT w (Own M h blk) h blk V (.buf x v s o n) u' from i);refine .agg _ [u'] rfl (fun j x e =>?_) (fun x k =>?_)
   ·cases j with
    | zero=>simp only[List.getElem?_cons_zero,aiA]at e;subst e;exact K.canon
    | succ j=>simp at e
   ·simp only[aiO]at k;rw[k,od];exact O
  ·cases c
 | mpc S T=>simp only[Am.bF,aiA,Prod.mk.injEq]at c;obtain⟨rfl,rfl⟩:=c;exact RP.keep A i
 | mp x v =>
  simp only[Am.bF]at c;split at c
  ·rename_i S T l;simp only[aiA,Prod.mk.injEq]at c;obtain⟨rfl,rfl⟩:=c;exact p.VF l (q.no x (by simp)) A i
  ·cases c
 | pm x v y =>
  simp only[Am.bF]at c;split at c
  ·rename_i r m;split at c
   ·rename_i P U Q;split at c
    ·rename_i C;obtain⟨c1,c2,rfl⟩:=C;split at c
     ·rename_i S T l;simp only[aiA,Prod.mk.injEq]at c;obtain⟨rfl,rfl⟩:=c;obtain⟨k,I⟩:=cz m;obtain⟨g,B,J⟩:=i.2 r k I;obtain⟨u',K,O⟩:=p.ali x r g k c1 c2 B 0 (.alm P U) (.mp P U) (by rw[Q];rfl) rfl;have k3:=p.VF l (q.no P (by simp)) A O;subst J;refine .ip _ _ (fun _=>u') (fun _=>⟨g.1,g.2+0,rfl,p.lt k B,q.no x (by simp) r g k B,fun j e =>?_⟩) (fun j z e =>?_) (fun z W =>?_)
      ·simp only[List.length_cons,List.length_nil]at e;have:j=0:=by omega
       subst this;exact K
      ·cases j with
       | zero=>simp only[List.getElem?_cons_zero,aiA]at e;subst e;exact k3
       | succ j=>simp at e
      ·simp only[aiO]at W;subst W;rfl
     ·cases c
    ·cases c
   ·cases c
  ·cases c
 | _=>exact one _ rfl c i
def EJ {w:World} {M:Nat->Prop} {h:Nat->Option Row} {blk:Nat->Option (Nat×Nat)} {V:Nat->Nat->Prop} {d:D} {u:Value} (a:RC w M h blk V d u):RT w M h blk V d u:=by
 cases d with
 | ptr x v o=>exact a
 | mp x v=>exact a
 | pm x v y=>exact a
 | _=>exact bR a
def Inv.dJ (l:Inv N M L w0 blk V t h a w) {m:Nat->Prop} : ∀ {f b:List D} {g:List Nat} {us:List Value},dJ h f=some (b,g)->qy M h blk g m->us.length=f.length ->
  (∀j d,f[j]? = some d->RT w (Own M h blk) h blk V d (us.getD j undef))->us.length=b.length∧∀j d,b[j]? = some d->RP w m d (us.getD j undef)
 | [],b,g,us,c,i,hlen,k=>by
  simp only[Am.dJ,aiA,Prod.mk.injEq]at c;obtain⟨rfl,rfl⟩:=c;exact⟨hlen,fun j d e=>by simp at e⟩
 | d::f,b,g,us,c,i,hlen,k=>by
  simp only[Am.dJ]at c;split at c
  ·rename_i d1 n o;split at c
   ·rename_i p q r;simp only[aiA,Prod.mk.injEq]at c;obtain⟨rfl,rfl⟩:=c;cases us with
    | nil=>simp at hlen
    | cons u us =>
     have s:=l.bF o i.left (k 0 d rfl);obtain⟨v,y⟩:=l.dJ r i.right (by simpa using hlen) (fun j d e=>by simpa using k (j+1) d (by simpa using e));refine⟨by simp[v],fun j x e =>?_⟩;cases j with
     | zero=>simp only[List.getElem?_cons_zero,aiA]at e;subst e;simpa using s
     | succ j=>simpa using y j x (by simpa using e)
   ·cases c
  ·cases c
def Inv.ch (c:Inv N M L w0 blk V t h a w) {d e:D} {g:List Nat} {u:Value} {i:Nat->Prop} (b:ch h d=some (e,g)) (k:qy M h blk g i) (l:RT w (Own M h blk) h blk V d u):RP w i e u:=by
 cases d with
 | clo f m xs =>
  simp only[Am.ch]at b;split at b
  ·rename_i n o p;simp only[aiA,Prod.mk.injEq]at b;obtain⟨rfl,rfl⟩:=b;obtain⟨q,r,s,v⟩:=l;subst r;obtain⟨x,y⟩:=c.dJ p k s (fun j d z=>EJ (v j d z));exact .clo f m n q x y
  ·cases b
 | _=>exact c.bF (by rw[<- b];rfl) k l
def Inv.bQ (l:Inv N M L w0 blk V t h a w) {m:Nat->Prop} : ∀ {f b:List D} {g:List Nat} {us:List Value},bQ h f=some (b,g)->qy M h blk g m->us.length=f.length ->
  (∀j d,f[j]? = some d->RT w (Own M h blk) h blk V d (us.getD j undef))->us.length=b.length∧∀j d,b[j]? = some d->RP w m d (us.getD j undef)
 | [],b,g,us,c,i,hlen,k=>by
  simp only[Am.bQ,aiA,Prod.mk.injEq]at c;obtain⟨rfl,rfl⟩:=c;exact⟨hlen,fun j d e=>by simp at e⟩
 | d::f,b,g,us,c,i,hlen,k=>by
  simp only[Am.bQ]at c;split at c
  ·rename_i d1 n o;split at c
   ·rename_i p q r;simp only[aiA,Prod.mk.injEq]at c;obtain⟨rfl,rfl⟩:=c;cases us with
    | nil=>simp at hlen
    | cons u us =>
     have s:=l.ch o i.left (k 0 d rfl);obtain⟨v,y⟩:=l.bQ r i.right (by simpa using hlen) (fun j d e=>by simpa using k (j+1) d (by simpa using e));refine⟨by simp[v],fun j x e =>?_⟩;cases j with
     | zero=>simp only[List.getElem?_cons_zero,aiA]at e;subst e;simpa using s
     | succ j=>simpa using y j x (by simpa using e)
   ·cases c
  ·cases c
def Inv.gx (v:Inv N M L w0 blk V t h a w) {d:D} {f:List D} {k:List Nat} {u:Value} {m:Nat->Prop} (c:gx h d=some (f,k)) (s:qy M h blk k m) (n:RT w (Own M h blk) h blk V d u) :
  u.cells.size=f.length∧∀j x,f[j]? = some x->bn x=true∧RP w m x (u.cells.getD j undef):=by
 have y:∀b,b<w.heap.size->¬Own M h blk b->b<w.heap.size∧¬m b∧w.heap[b]? = w.heap[b]?:=fun b g h2=>⟨g,fun z=>h2 (s.le b z),rfl⟩;have one:∀d,(∀o,d ≠ .agg o)->Am.gx h d=some (f,k)->RT w (Own M h blk) h blk V d u->u.cells.size=f.length∧∀j x,f[j]? = some x->bn x=true∧RP w m x (u.cells.getD j undef):=by
  intro d q c n;have:∃i,Am.dU h d=some (i,k)∧f=[i]:=by
   have e:Am.gx h d=match Am.dU h d with|some (i,k)=>some ([i],k)|none=>none:=by
    cases d<;>first|rfl|exact absurd rfl (q _)
   rw[e]at c;split at c
   ·rename_i i A g;simp only[aiA,Prod.mk.injEq]at c;obtain⟨rfl,rfl⟩:=c;exact⟨i,g,rfl⟩
   ·cases c
  obtain⟨i,g,rfl⟩:=this;obtain⟨h2,p⟩:=v.dU g s n;rw[h2.cells p];refine⟨rfl,fun j x l =>?_⟩;cases j with
  | zero=>simp only[List.getElem?_cons_zero,aiA]at l;subst l;exact⟨p,by simpa using h2⟩
  | succ j=>simp at l
 cases d with
 | agg o =>
  simp only[Am.gx,aiA,Prod.mk.injEq]at c;obtain⟨rfl,rfl⟩:=c;have r:RP w (Own M h blk) (.agg o) u:=n;cases r with
  | agg o us g h2 p =>
   refine⟨by simp[Value.cells,g],fun j x l=>⟨p x (aiT l),?_⟩⟩;have:=(h2 j x l).keep y;simpa [Value.cells] using this
 | _=>exact one _ (fun _ h=>by cases h) c n
end
def rC (g o j:Nat):(⟨g,o,none⟩:Addr).add j=⟨g,o+j,none⟩:=by unfold Addr.add;split<;>simp_all
def At (w:World) (M:Nat->Prop) (g o:Nat) (a:List D):Prop:=∀j x,a[j]? = some x->bn x=true∧∃v,w.cell? ⟨g,o+j,none⟩=some v∧RP w M x v
def At.drop {w:World} {M:Nat->Prop} {g o:Nat} {a:List D} (h:At w M g o a) (k:Nat):At w M g (o+k) (a.drop k):=by
 intro j x b;rw[aiI]at b;obtain⟨c,v,d,e⟩:=h _ _ b;exact⟨c,v,by rw[aiM];exact d,e⟩
def At.take {w:World} {M:Nat->Prop} {g o:Nat} {b:List D} (h:At w M g o b) (k:Nat):At w M g o (b.take k):=by
 intro j x a;rw[aiH]at a;split at a
 ·exact h _ _ a
 ·cases a
def At.CS {w:World} {M:Nat->Prop} {g o:Nat} {b:List D} (h:At w M g o b) :
  ∃d:List Value,d.length=b.length∧(∀j u,d[j]? = some u->w.cell? ⟨g,o+j,none⟩=some u)∧(∀j x,b[j]? = some x->RP w M x (d.getD j undef))∧(∀x∈b,bn x=true):=by
 refine⟨(List.range b.length).map fun j=>(w.cell? ⟨g,o+j,none⟩).getD undef,by simp,fun j u c =>?_,fun j x c =>?_,fun x i =>?_⟩
 ·obtain⟨a,e⟩:=aiU.1 c;simp only[aiV,aiW]at a;simp only[List.getElem_map,aiX]at e;obtain⟨_,v,f,_⟩:=h j _ (aiE a);rw[f]at e ⊢;simpa using e
 ·have a:j<b.length:=(aiU.1 c).1;obtain⟨_,v,f,k⟩:=h j x c;have:((List.range b.length).map fun j=>(w.cell? ⟨g,o+j,none⟩).getD undef).getD j undef=v:=by
   simp[List.getD,aio,a,f]
  rw[this];exact k
 ·obtain⟨j,c⟩:=aiN i;exact (h j x c).1
section
variable {P:Program} {T:Nat->Option Ty}
def nw {a:Nat} {τ:Ty} (b:eJ P a τ) (w:World):(isAgg a).run P w=.ok τ.ds.uk w:=by
 obtain⟨d,i,z,c,e,f,g,h,j,k⟩:=b.get;rw[<- e];simp only[isAgg,aiY,run_underlying c,Result.andThen_ok]<;>cases d<;>rfl
def run_sizeOf {a:Nat} {τ:Ty} (b:eJ P a τ) (w:World):(sizeOf a).run P w=.ok τ.size w:=by
 obtain⟨d,i,z,f,g,c,e,h,j,k⟩:=b.get;simp[Go.sizeOf,typeInfo,c,e]
def ko {a:Nat} {τ:Ty} (b:eJ P a τ) (w:World):∃z,(zeroValue a).run P w=.ok z w∧z.cells=τ.zero.toArray:=by
 obtain⟨d,i,z,g,h,c,j,k,e,f⟩:=b.get;exact⟨z,by simp[zeroValue,typeInfo,c,e],f⟩
def lO {b:Nat} {τ:Ty} (c:eJ P b τ) (w:World) (g o:Nat) (us:List Value) (e:us.length=τ.size) (d:∀j u,us[j]? = some u->w.cell? ⟨g,o+j,none⟩=some u)
  (f:τ.ds.uk=false->us.length=1):(loadVar b ⟨g,o,none⟩).run P w=.ok (if τ.ds.uk then .agg us.toArray else us.getD 0 undef) w:=by
 simp only[loadVar,aiY,nw c,Result.andThen_ok];cases h:τ.ds.uk with
 | true =>
  have:=run_loadCells_list (P:=P) w ⟨g,o,none⟩ us (fun j v i=>by rw[rC];exact d j v i);rw[e]at this;simp[run_sizeOf c,this]
 | false =>
  have a:=f h
  match us,a with
  | [u],_ =>
   have:=d 0 u rfl;simp only[Nat.add_zero]at this;simp[run_load,this]
variable {N:Nat} {M:Nat->Prop} {L:kx} {w0:World} {blk:Nat->Option (Nat×Nat)} {V:Nat->Nat->Prop} {t:Nat->D} {h:Nat->Option Row} {a:Act} {w:World} {e:Nat} {o:Oper} {Γ:Env}
def bd (N:Nat) (M:Nat->Prop) (L:kx) (w0:World) (V:Nat->Nat->Prop) (t:Nat->D) (h:Nat->Option Row) (a:Act) (e:Nat) (c:Option Nat) (E:ca) (v:Value) (d:World):Prop :=
 ∃b,Inv N M L w0 b (fun x n=>V x n∨(c=some x∧n=e)) t (aR h E.hw) a d ∧
  RT d (Own M (aR h E.hw) b) (aR h E.hw) b (fun x n=>V x n∨(c=some x∧n=e)) E.val v
def bd.ec (g:Inv N M L w0 blk V t h a w) {d:D} {v:Value} {b:Option Nat} (i:RT w (Own M h blk) h blk V d v):bd N M L w0 V t h a e b ⟨d,[]⟩ v w :=
 ⟨blk,g.weaken fun _ _ h =>.inl h,i.mono ⟨fun _ c f=>⟨c,f,rfl⟩,fun _ _ h =>.inl h,fun _ _ _ j c f=>⟨⟨j,c,f⟩,rfl,fun _ _=>rfl⟩⟩⟩
def bd.LU (f:Inv N M L w0 blk V t h a w) {d:D} {v:Value} {b:Option Nat} (c:List Nat) (g:RP w (Own M (aR h (kb h c)) blk) d v):bd N M L w0 V t h a e b ⟨d,kb h c⟩ v w :=
 ⟨blk,(f.freeze c).weaken fun _ _ h =>.inl h,bR g⟩
def aN {v:Value} {w':World} {Φ:Value->World->Prop} (b:(execOp a.eval o).run P w=.ok (.value v) w') (c:Φ v w'):eE P o a w Φ := .inl ⟨v,w',b,c⟩
def Jo (c:Inv N M L w0 blk V t h a w) {x:Operand} (b:o.op=.move x∨o.op=.assign x):eE P o a w (bd N M L w0 V t h a e o.dst ⟨ev t x,[]⟩):=by
 refine aN (v:=a.eval x) (w':=w) ?_ (bd.ec c (c.ev x));rcases b with b|b<;>simp[execOp,b]
def Di (p:Inv N M L w0 blk V t h a w) {z:Nat} {x:Operand} {E:ca} (K:o.op=.assign x) (O:∀d,o.dst=some d->j0 N V d e) (b:dt T z e o.dst h (ev t x)=some E):eE P o a w (bd N M L w0 V t h a e o.dst E):=by
 have Q:=p.ev x;have f:E=⟨ev t x,[]⟩->eE P o a w (bd N M L w0 V t h a e o.dst E):=fun h=>by subst h;exact Jo p (.inr K)
 generalize ev t x=q at *;have i:(execOp a.eval o).run P w=.ok (.value (a.eval x)) w:=by simp[execOp,K]
 cases q with
 | buf y v s c n =>
  simp only[dt]at b;split at b
  ·rename_i d r j B;split at b
   ·simp only[aiA]at b;exact f b.symm
   ·rename_i C;simp only[Bool.not_eq_true]at C;simp only[aiA]at b;subst b;obtain⟨D,R⟩:=cz B;have k:=p.Yz (w':=w) (h1:=forget h (some y)) (old:=some y) (d:=d) (e:=e) (ty:=r.ty) (lst:=r.lst) (fz:=r.fz) (hfz:=C) (go:=blk y) (cs:=r.cells) rfl rfl rfl (air _) (fun _ _ _=>rfl)
     (fun S l=>by cases l;exact⟨r,D,C⟩) rfl (O d j) (by
      have:=(p.rows y r D).2;cases G:blk y with
      | none=>rw[G]at this;exact this
      | some g =>
       rw[G]at this;have H:=this.2;unfold ez at H;rw[iZ B]at H;obtain⟨F,U,W,X⟩:=H;exact⟨.inr ⟨y,g,rfl,G,rfl⟩,F,U,W,X⟩)
    have Y:({ r with v:=e } : Row)=⟨e,r.ty,r.cells,r.fz,r.lst,false⟩:=by rw[<- iZ B]
    rw[Y];refine aN i ⟨b6 blk d (blk y),?_,?_⟩
    ·show Inv _ _ _ _ _ _ _ (b6 (b6 h y none) d (some _)) _ _;refine k.weaken fun x v m =>?_;rcases m with m|⟨rfl,rfl⟩
     ·exact .inl m
     ·exact .inr ⟨j,rfl⟩
    ·refine⟨.inr ⟨j,rfl⟩,fun Z _ _ =>?_⟩;rw[ax];exact Q.2 r D R
  ·split at b
   ·simp only[aiA]at b;exact f b.symm
   ·simp only[aiA]at b;subst b;exact aN i ⟨blk,p.weaken fun _ _ h =>.inl h,trivial⟩
 | sl nl tight n xs =>
  unfold dt at b;split at b
  ·rename_i I;cases I
  ·rename_i I;cases I;split at b
   ·rename_i d τ j hτ;split at b
    ·rename_i el aa;split at b
     ·rename_i φ hφ;simp only[aiA]at b;subst b;have hu:a.eval x=.slice none 0 0:=by
       have J:RP w (Own M h blk) (.sl true true 0 []) (a.eval x):=Q;generalize a.eval x=u at *;cases J with
       | sl A c nl tight n xs us h1 h2 h3 h4 h5 h6 h7 h8=>obtain⟨rfl,rfl⟩:=(h3 rfl).1 rfl;rfl
      have k:=p.Yz (w':=w) (h1:=forget h none) (old:=none) (d:=d) (e:=e) (ty:=el) (lst:=true) (fz:=false) (go:=none) (cs:=[]) rfl rfl rfl (air _) (fun _ _ _=>rfl)
       (fun S l=>by cases l) rfl (O d j) rfl
      refine aN i ⟨b6 blk d none,?_,?_⟩
      ·refine k.weaken fun x v m =>?_;rcases m with m|⟨rfl,rfl⟩
       ·exact .inl m
       ·exact .inr ⟨j,rfl⟩
      ·refine⟨.inr ⟨j,rfl⟩,fun Z _ _ =>.inr ⟨ax _ _ _,rfl,none,hu⟩⟩
     ·cases b
    ·cases b
   ·cases b
  ·simp only[aiA]at b;exact f b.symm
 | _=>exact f (by simp only[dt,aiA]at b;exact b.symm)
def Zj (c:Inv N M L w0 blk V t h a w) {k:Nat} {q:Nat->Bool} {x:Operand} {E:ca} (f:o.op=.assign x) (i:∀d,o.dst=some d->j0 N V d e) (b:tC T q k e o.dst h (ev t x)=some E):eE P o a w (bd N M L w0 V t h a e o.dst E):=by
 have l:=c.ev x;unfold tC at b;split at b
 ·rename_i d g;split at b
  ·rw[<- g]at b;exact Di c f i b
  ·unfold nO at b;split at b
   ·rename_i n j m;simp only[aiA]at b;subst b;exact aN (v:=a.eval x) (w':=w) (by simp[execOp,f]) (bd.LU c j (c.rH m (c.gj j) l).jw)
   ·cases b
 ·rename_i g;rw[<- g]at b;exact Di c f i b
def ym {b:Bool} {u:Value} {h:Nat->Option Row} (a:RT w M h blk V (.bool b) u):u=.bool b:=by
 have c:RP w M (.bool b) u:=a;cases c;rfl
def nI {k:IntKind} {n:Int} {u:Value} {h:Nat->Option Row} (a:RT w M h blk V (.int k n) u):u=.int k n:=by
 have b:RP w M (.int k n) u:=a;cases b;rfl
def EL {s:ByteArray} {u:Value} {h:Nat->Option Row} (a:RT w M h blk V (.str s) u):u=.string s:=by
 have b:RP w M (.str s) u:=a;cases b;rfl
def Jp (d:Inv N M L w0 blk V t h a w) {c x y:Operand} {b:Bool} (g:o.op=.pick c x y) (i:ev t c=.bool b):eE P o a w (bd N M L w0 V t h a e o.dst ⟨ev t (if b then x else y),[]⟩):=by
 refine aN (v:=a.eval (if b then x else y)) (w':=w) ?_ (bd.ec d (d.ev _));have f:=d.ev c;rw[i]at f;have j:=ym f;cases b<;>simp[execOp,g,j,asBool]
def sD (a:List Value) (f:(a.map pq).all bn=true) {w:World} {M:Nat->Prop} (j:Nat) (x:D) (b:(a.map pq)[j]? = some x):bn x=true∧RP w M x (a.toArray.getD j undef):=by
 have g:bn x=true:=by
  rw[aiC]at f;exact f x (aiT b)
 refine⟨g,?_⟩;rw[aio]at b;cases c:a[j]? with
 | none=>simp[c]at b
 | some v =>
  simp only[c,Option.map_some,aiA]at b;subst b;have e:a.toArray.getD j undef=v:=by simp[c]
  rw[e];have:=Yr w M (fun _=>none) (fun _=>none) (fun _ _=>True) v;generalize pq v=d at *;cases d<;>first|exact this|simp[bn]at g
def EK {d e:Nat} {g:Nat×Nat} {o:Nat} {b:Nat->Nat->Prop} {c:Nat->Option Row} {a:Nat->Option (Nat×Nat)} (f:b d e) (h:a d=some g):RT w M c a b (.ptr d e o) (.pointer (some ⟨g.1,g.2+o,none⟩)) :=
 ⟨f,fun _ _ _=>⟨g,h,rfl⟩⟩
def Sm {hint:Nat->Option Nat} (m:ji P T) (n:Inv N M L w0 blk V t h a w) {b d:Nat} {τ:Ty} (p:o.op=.alloc b) (c:o.dst=some d) (q:T b=some τ) (r:j0 N V d e) (s:(τ.zero.map pq).all bn=true) :
  eE P o a w (bd N M L w0 V t h a e o.dst ⟨match hint d with|some y =>.pm d e y|none =>.ptr d e 0,[(d,some ⟨e,b,τ.zero.map pq,false,false,false⟩)]⟩):=by
 obtain⟨z,f,i⟩:=ko (m b τ q) w;have k:=n.alloc (d:=d) (e:=e) (ty:=b) (lst:=false) (cs:=τ.zero.map pq) (vs:=τ.zero.toArray) r (by simp) (fun j x u=>sD τ.zero s j x u);refine aN (v := .pointer (some ⟨w.heap.size,0,none⟩)) (w':=w.alloc (.cells τ.zero.toArray b)) ?_ ⟨b6 blk d (some (w.heap.size,0)),?_,?_⟩
 ·simp[execOp,p,Instr.alloc,f,newVar,newRow,i]
 ·refine k.weaken fun x v l =>?_;rcases l with l|⟨rfl,rfl⟩
  ·exact .inl l
  ·exact .inr ⟨c,rfl⟩
 ·cases hint d with
  | none=>exact EK (g:=(w.heap.size,0)) (o:=0) (.inr ⟨c,rfl⟩) (ax _ _ _)
  | some y=>exact⟨.inr ⟨c,rfl⟩,fun _ _ _=>⟨(w.heap.size,0),ax _ _ _,rfl⟩⟩
def B1 {a:List Nat} {x:Nat} (b:a.contains x=false):aR h (kb h a) x=h x:=by
 rw[B0,if_neg (by simpa using b)]
def Zl (i:Inv N M L w0 blk V t h a w) {b d:Nat} {x:Operand} {c:List D} {f:List Nat} (m:o.op=.box b x) (l:o.dst=some d) (n:j0 N V d e) (p:gx h (ev t x)=some (c,f)) :
  eE P o a w (bd N M L w0 V t h a e o.dst ⟨.ptr d e 0,kb h f++[(d,some ⟨e,b,c,false,false,false⟩)]⟩):=by
 obtain⟨r,q⟩:=i.gx p (i.gj f) (i.ev x);have j:=(i.freeze f).alloc (d:=d) (e:=e) (ty:=b) (lst:=false) (cs:=c) (vs:=(a.eval x).cells) n (by omega) q;refine aN (v := .pointer (some ⟨w.heap.size,0,none⟩)) (w':=w.alloc (.cells (a.eval x).cells b)) ?_ ⟨b6 blk d (some (w.heap.size,0)),?_,?_⟩
 ·simp[execOp,m,Instr.box,newVar,newRow]
 ·show Inv _ _ _ _ _ _ _ (aR h (kb h f++[(d,some ⟨e,b,c,false,false,false⟩)])) _ _;rw[ie];refine j.weaken fun x v k =>?_;rcases k with k|⟨rfl,rfl⟩
  ·exact .inl k
  ·exact .inr ⟨l,rfl⟩
 ·exact EK (g:=(w.heap.size,0)) (o:=0) (.inr ⟨l,rfl⟩) (ax _ _ _)
def Inv.rowAt (f:Inv N M L w0 blk V t h a w) {x:Nat} {r:Row} {g:Nat×Nat} (i:h x=some r) (k:blk x=some g) (b:r.mp=false):At w (Own M h blk) g.1 g.2 r.cells:=by
 obtain⟨l,m,o,e⟩:=f.Gh i k b;intro j d c;have n:=(aiU.1 c).1;exact⟨(e j d c).1,l.getD (g.2+j) undef,aW m (by omega),(e j d c).2⟩
def RP.afF {M':Nat->Prop} {a:List D} {u:Value} (f:RP w M' (.ip a) u):∃c,u=.pointer (some c)∧(a≠[]->∃b o,c=⟨b,o,none⟩∧At w M' b o a):=by
 cases f with
 | ip a c us h6 h7 h8 =>
  refine⟨c,rfl,fun d =>?_⟩;obtain⟨b,o,rfl,_,_,g⟩:=h6 d;exact⟨b,o,rfl,fun j x e=>⟨h8 x (aiT e),us j,g j (aiU.1 e).1,h7 j x e⟩⟩
def sV (s:ji P T) (u:Inv N M L w0 blk V t h a w) {k:Nat} {p:Operand} {τ:Ty} {g c:Nat} {xs:List D} {d:D} (x:o.op=.load k p) (y:T k=some τ) (z:a.eval p=.pointer (some ⟨g,c,none⟩))
  (l:At w (Own M h blk) g c xs) (A:xs.length=τ.size) (f:kU τ xs=some d):eE P o a w (bd N M L w0 V t h a e o.dst ⟨d,[]⟩):=by
 obtain⟨j,m,B,q,C⟩:=l.CS;have b:τ.ds.uk=false->xs.length=1∧xs=[d]:=by
  intro n;simp only[kU,n,ai1,if_false]at f;split at f
  ·simp only[aiA]at f;subst f;exact⟨rfl,rfl⟩
  ·cases f
 have i:=lO (s k τ y) w g c j (by rw[m,A]) B (fun n=>by rw[m];exact (b n).1);refine aN (v:=if τ.ds.uk then .agg j.toArray else j.getD 0 undef) (w':=w) ?_ (bd.ec u ?_)
 ·simp[execOp,x,Instr.loadAt,Instr.sureAddr,z,i]
 ·apply bR;cases r:τ.ds.uk with
  | true =>
   simp only[kU,r,if_true,aiA]at f;subst f;exact .agg xs j m q C
  | false =>
   obtain⟨_,rfl⟩:=b r;exact q 0 d rfl
def LA (J:ji P T) (l:Inv N M L w0 blk V t h a w) {m:Nat} {p:Operand} {τ:Ty} {x c:Nat} {r:Row} {g:Nat×Nat} {d:D} (K:o.op=.load m p) (O:T m=some τ) (Q:a.eval p=.pointer (some ⟨g.1,g.2+c,none⟩))
  (C:h x=some r) (q:r.mp=false) (R:r.fz=true) (S:r.lst=false) (E:blk x=some g) (U:c+τ.size<=r.cells.length) (b:ad4 τ.ds.uk ((r.cells.drop c).take τ.size)=some d):eE P o a w (bd N M L w0 V t h a e o.dst ⟨d,[]⟩):=by
 have f:((r.cells.drop c).take τ.size).length=τ.size:=by simp;omega
 generalize z:(r.cells.drop c).take τ.size=cs at b f;unfold ad4 at b;split at b
 ·rename_i y v s A n;simp only[aiA]at b;have B:τ.size=1:=by simpa using f.symm
  have i:r.cells[c]? = some (.ali y v s A n):=by
   have:((r.cells.drop c).take τ.size)[0]? = some (.ali y v s A n):=by rw[z];rfl
   rw[cR,if_pos (by omega)]at this;simpa using this
  obtain⟨u,F,G⟩:=l.ali x r g C R S E c _ (.buf y v s A n) i rfl;have k:=lO (J m τ O) w g.1 (g.2+c) [u] (by simpa using B.symm) (fun j v i=>by
   cases j with
   | zero=>simp only[List.getElem?_cons_zero,aiA]at i;subst i;simpa using F
   | succ j=>simp at i) (fun _=>rfl)
  refine aN (v:=if τ.ds.uk then .agg [u].toArray else [u].getD 0 undef) (w':=w) ?_ (bd.ec l ?_)
  ·simp[execOp,K,Instr.loadAt,Instr.sureAddr,Q,k]
  ·cases H:τ.ds.uk with
   | false =>
    rw[H]at b;simp only[ai1,if_false]at b;subst b;exact G
   | true =>
    rw[H]at b;simp only[if_true]at b;subst b;obtain⟨_,Y,I,W⟩:=l.rowAt C E q c _ i;rw[F]at I;cases I;exact⟨u,rfl,W.qO rfl,G⟩
 ·cases b
def WN (n:ji P T) (k:Inv N M L w0 blk V t h a w) {s:Nat} {p:Operand} {τ:Ty} {E:ca} (A:o.op=.load s p) (u:T s=some τ) (f:ff τ h (ev t p)=some E):eE P o a w (bd N M L w0 V t h a e o.dst E):=by
 have D:=k.ev p;generalize ev t p=q at *;cases q with
 | ptr x v c =>
  simp only[ff]at f;split at f
  ·rename_i r F;split at f
   ·rename_i l;split at f
    ·rename_i d i;simp only[aiA]at f;subst f;obtain⟨y,H⟩:=cz F;obtain⟨g,I,B⟩:=D.2 r y H;have:=((k.rowAt y I (iZ F)).drop c).take τ.size;exact sV n k A u B this (by simp;omega) i
    ·cases f
   ·cases f
  ·cases f
 | ip xs =>
  simp only[ff]at f;split at f
  ·rename_i l;split at f
   ·rename_i d i;simp only[aiA]at f;subst f;obtain⟨R,G,J⟩:=RP.afF (M':=Own M h blk) D
    by_cases m:xs=[]
    ·subst m;have K:τ.size=0:=by simpa using l
     have z:τ.ds.uk=true:=by
      cases z:τ.ds.uk with
      | true=>rfl
      | false=>simp[kU,z]at i
     have C:=run_sizeOf (n s τ u) w;refine aN (v := .agg #[]) (w':=w) ?_ (bd.ec k ?_)
     ·simp[execOp,A,Instr.loadAt,Instr.sureAddr,G,loadVar,nw (n s τ u),z,C,K,loadCells,loadCellsFrom]
     ·simp only[kU,z,if_true,List.take_nil,aiA]at i;subst i;exact bR (.agg [] [] rfl (fun j x O=>by simp at O) (fun x y=>by simp at y))
    ·obtain⟨b,c,rfl,Q⟩:=J m;exact sV n k A u G (At.take Q _) (by simp;omega) i
   ·cases f
  ·cases f
 | _=>simp[ff]at f
def Ad {h:Nat->Option Row} {x v:Nat} {r:Row} {y s n:Nat} (a:uo h x v=some (r,y,s,n)):h x=some r∧r.v=v∧r.mp=true∧r.cells=[.ph y s n]:=by
 unfold uo at a;split at a
 ·rename_i e d;split at a
  ·rename_i c;split at a
   ·rename_i f g i b;simp only[aiA,Prod.mk.injEq]at a;obtain⟨rfl,rfl,rfl,rfl⟩:=a;exact⟨d,c.1,c.2,b⟩
   ·cases a
  ·cases a
 ·cases a
def Zo (X:ji P T) (z:Inv N M L w0 blk V t h a w) {J:Nat} {p:Operand} {τ:Ty} {x v y:Nat} {E:ca} (Y:o.op=.load J p) (Z:T J=some τ) (hp:RT w (Own M h blk) h blk V (.pm x v y) (a.eval p)) (k:zB τ h x v y (uo h x v)=some E):eE P o a w (bd N M L w0 V t h a e o.dst E):=by
 cases K:uo h x v with
 | none=>rw[K]at k;cases k
 | some q =>
  obtain⟨S,B,s,n⟩:=q;rw[K]at k;simp only[zB]at k;obtain⟨U,hv,O,Q⟩:=Ad K;split at k
  ·rename_i r F;split at k
   ·rename_i m;obtain⟨rfl,c2,c3,c4,c5,c6⟩:=m;simp only[aiA]at k;subst k;obtain⟨g,hg,G⟩:=hp.2 S U hv;obtain⟨_,u,R,h2⟩:=z.pha x S g U O hg 0 _ _ _ (by rw[Q];rfl);have l:=lO (X J τ Z) w g.1 (g.2+0) [u] (by simpa using c6.symm) (fun j v f=>by
     cases j with
     | zero=>simp only[List.getElem?_cons_zero,aiA]at f;subst f;simpa using R
     | succ j=>simp at f) (fun _=>rfl)
    have i:=z.gj [B];have hk:∀b,b<w.heap.size->¬Own M h blk b->b<w.heap.size∧¬Own M (aR h (kb h [B])) blk b∧w.heap[b]? = w.heap[b]?:=fun b R h2=>⟨R,fun hb=>h2 (i.le b hb),rfl⟩;have H:RP w (Own M (aR h (kb h [B])) blk) (.sl false false n r.cells) u:=by
     rcases h2 r F with⟨C,c,N',aa,I,rfl,g2,g3,g4,g5⟩|⟨I,rfl,A,rfl⟩
     ·obtain⟨arr,k1,k2,W⟩:=z.Gh F I c3;refine .sl (some ⟨C.1,C.2,none⟩) c false false n _ (fun j=>arr.getD (C.2+j) undef) g3 g4 (fun h=>by cases h) (fun h=>by cases h) (fun h=>by cases h) (fun _=>⟨C.1,C.2,rfl,z.lt F I,i.no B (by simp) r C F I,fun j f=>aW k1 (by omega)⟩) (fun j d f=>(W j d f).2.keep hk) (fun d D =>?_);obtain⟨j,f⟩:=aiN D;exact (W j d f).1
     ·have:=(z.rows B r F).2;rw[I]at this;have hc:r.cells=[]:=this;rw[hc];exact .sl A 0 false false 0 [] (fun _=>undef) (air _) (ais _) (fun h=>by cases h) (fun _=>⟨rfl,rfl⟩) (fun h=>by cases h) (fun h=>absurd rfl h) (fun j d f=>by simp at f) (fun d D=>by simp at D)
    simp only[Nat.add_zero]at l G;refine aN (v:=if τ.ds.uk then .agg [u].toArray else [u].getD 0 undef) (w':=w) ?_ (bd.LU z [B] ?_)
    ·simp[execOp,Y,Instr.loadAt,Instr.sureAddr,G,l]
    ·cases hA:τ.ds.uk with
     | false=>exact H
     | true =>
      refine .agg [_] [u] rfl (fun j d f =>?_) (fun d D =>?_)
      ·cases j with
       | zero=>simp only[List.getElem?_cons_zero,aiA]at f;subst f;exact H
       | succ j=>simp at f
      ·simp only[aiO]at D;subst D;rfl
   ·cases k
  ·cases k
def abY (A:ji P T) (n:Inv N M L w0 blk V t h a w) {D:Nat} {p:Operand} {τ:Ty} {E:ca} (B:o.op=.load D p) (C:T D=some τ) (b:rL τ h (ev t p)=some E):eE P o a w (bd N M L w0 V t h a e o.dst E):=by
 have F:=n.ev p;have f:=WN (P:=P) (o:=o) (e:=e) (E:=E) A n B C;generalize ev t p=q at *;cases q with
 | ptr x v c =>
  simp only[rL]at b;cases s:live h x v with
  | none=>rw[s]at b;cases b
  | some r =>
   rw[s]at b;simp only[tD]at b;split at b
   ·rename_i l;simp only[ai2,ai3]at l;split at b
    ·rename_i G;split at b
     ·rename_i d H;simp only[aiA]at b;subst b;obtain⟨z,I⟩:=cz s;obtain⟨g,J,k⟩:=F.2 r z I;exact LA A n B C k z (iZ s) l.1 l.2 J G H
     ·exact f b
    ·cases b
   ·exact f b
 | pm x v y =>
  simp only[rL]at b;split at b
  ·rename_i r s;split at b
   ·rename_i Q R K;split at b
    ·rename_i m;obtain⟨S,U,W,X⟩:=m;simp only[aiA]at b;subst b;obtain⟨z,I⟩:=cz s;obtain⟨g,J,k⟩:=F.2 r z I;obtain⟨u,Y,Z⟩:=n.ali x r g z S U J 0 (.alm Q R) (.mp Q R) (by rw[K];rfl) rfl;have i:=lO (A D τ C) w g.1 (g.2+0) [u] (by simpa using W.symm) (fun j v O=>by
      cases j with
      | zero=>simp only[List.getElem?_cons_zero,aiA]at O;subst O;simpa using Y
      | succ j=>simp at O) (fun _=>rfl)
     refine aN (v:=u) (w':=w) ?_ (bd.ec n Z);rw[X]at i;simp only[Nat.add_zero]at i k;simp[execOp,B,Instr.loadAt,Instr.sureAddr,k,i]
    ·cases b
   ·cases b
  ·exact Zo A n B C F b
 | _=>exact f b
def tw (a:Array Value) (b:List Value) (c j:Nat) (g:c+b.length<=a.size) :
  (a.toList.take c++b++a.toList.drop (c+b.length)).toArray.getD j undef=if j<c then a.getD j undef else if j<c+b.length then b.getD (j-c) undef else a.getD j undef:=by
 have d:min c a.size=c:=by omega
 simp only[aiw,List.getElem?_toArray,ai4]
 by_cases e:j<c
 ·rw[if_pos e,ai5 (by simp;omega),ai5 (by simp;omega),aiH,if_pos e];simp
 ·rw[if_neg e]
  by_cases f:j<c+b.length
  ·rw[if_pos f,ai5 (by simp;omega),ai6 (by simp;omega)];simp[d]
  ·rw[if_neg f,ai6 (by simp;omega),aiI];have:c+b.length+(j-(List.take c a.toList++b).length)=j:=by simp;omega
   rw[this];simp
def nn {cells a:List D} {c j:Nat} (f:c+a.length<=cells.length):(putCells cells c a)[j]? = if j<c then cells[j]? else if j<c+a.length then a[j-c]? else cells[j]?:=by
 have b:min c cells.length=c:=by omega
 unfold putCells
 by_cases d:j<c
 ·rw[if_pos d,ai5 (by simp;omega),ai5 (by simp;omega),aiH,if_pos d]
 ·rw[if_neg d]
  by_cases e:j<c+a.length
  ·rw[if_pos e,ai5 (by simp;omega),ai6 (by simp;omega)];simp[b]
  ·rw[if_neg e,ai6 (by simp;omega),aiI];congr 1;simp;omega
def kd {cells a:List D} {c:Nat} (b:c+a.length<=cells.length):(putCells cells c a).length=cells.length:=by
 simp[putCells];omega
def spliced {w:World} {M:Nat->Prop} {cells e:List D} {cur:Array Value} {f:List Value} {b c:Nat} (g:c+e.length<=cells.length) (h:f.length=e.length) (i:b+cells.length<=cur.size)
  (k:∀j d,cells[j]? = some d->bn d=true∧RP w M d (cur.getD (b+j) undef)) (l:∀j d,e[j]? = some d->bn d=true∧RP w M d (f.getD j undef)) (j:Nat) (d:D) (a:(putCells cells c e)[j]? = some d) :
  bn d=true∧RP w M d ((cur.toList.take (b+c)++f++cur.toList.drop (b+c+f.length)).toArray.getD (b+j) undef):=by
 rw[nn g]at a;rw[tw _ _ _ _ (by omega),h];split
 ·rename_i m;rw[if_pos (by omega)]at a;exact k j d a
 ·rename_i m;rw[if_neg (by omega)]at a;split
  ·rename_i n;rw[if_pos (by omega)]at a;have:b+j-(b+c)=j-c:=by omega
   rw[this];exact l _ d a
  ·rename_i n;rw[if_neg (by omega)]at a;exact k j d a
def Gg (b:Bool) (a:List D):(th b a).length=a.length:=by cases b<;>simp[th]
def Ts {w:World} {M:Nat->Prop} {c:List D} {e:List Value} {b:Bool} (f:∀j d,c[j]? = some d->bn d=true∧RP w M d (e.getD j undef)) (j:Nat) (d:D) (a:(th b c)[j]? = some d):bn d=true∧RP w M d (e.getD j undef):=by
 cases b with
 | false=>exact f j d a
 | true =>
  simp only[th,if_true,aio,aip]at a;obtain⟨x,g,rfl⟩:=a;obtain⟨h,i⟩:=f j x g;exact⟨by rw[od];exact h,i.canon⟩
def Sv (U:ji P T) (n:Inv N M L w0 blk V t h a w) {B:Nat} {p x:Operand} {τ:Ty} {E:ca} (W:o.op=.store B p x) (X:T B=some τ) (f:im τ h (ev t p) (ev t x)=some E):eE P o a w (bd N M L w0 V t h a e o.dst E):=by
 have Y:=n.ev p;have Z:=n.ev x;generalize ev t p=q at *;generalize ev t x=z at *;cases q with
 | ptr y v c =>
  simp only[im]at f;split at f
  ·rename_i r C;split at f
   ·rename_i A D hc;split at f
    ·rename_i l;obtain⟨c1,c2,c3,c4⟩:=l;simp only[aiA]at f;subst f;obtain⟨J,F⟩:=cz C;obtain⟨g,K,G⟩:=Y.2 r J F;have s:aR h (kb h D) y=some r:=by rw[B1 c4];exact J
     have u:=n.freeze D;obtain⟨u1,O⟩:=n.gx hc (n.gj D) Z;obtain⟨b,Q,R,h5⟩:=u.Gh s K (iZ C);have i:=run_storeCells_at P g.1 (g.2+c) r.ty (a.eval x).cells.toList 0 b w Q (by simp only[Array.length_toList];omega) (fun v F=>by
      obtain⟨j,m⟩:=aiN F;have H:=(aiU.1 m).1;simp only[Array.length_toList]at H;obtain⟨q1,S⟩:=O j _ (aiE (by omega));have:(a.eval x).cells.getD j undef=v:=by simp at m;simp[m]
      rw[this]at S;exact S.qO q1)
     rw[ai0]at i;have aa:(a.eval x).cells.toList.length=A.length:=by simp only[Array.length_toList];exact u1
     have k:(b.toList.take (g.2+c)++(a.eval x).cells.toList++b.toList.drop (g.2+c+(a.eval x).cells.toList.length)).toArray.size=b.size:=by
      simp;omega
     have ab:=Gg r.lst A;have hw:=u.write s c3 K (iZ C) (cs:=putCells r.cells c (th r.lst A)) Q k (by rw[k,kd (by omega)];exact R)
      (fun j d m=>spliced (by omega) (by omega) R h5 (Ts (fun j d m=>by simpa [List.getD] using O j d m)) j d m)
     refine .inr (.inl ⟨w.setRow g.1 (b.toList.take (g.2+c)++(a.eval x).cells.toList++b.toList.drop (g.2+c+(a.eval x).cells.toList.length)).toArray,?_,blk,?_,trivial⟩)
     ·have I:(a.eval x).cells.size=τ.size:=by omega
      simp[execOp,W,Instr.storeAt,Instr.sureAddr,G,storeVar,run_sizeOf (U B τ X),I,i]
     ·rw[ie];exact hw.weaken fun _ _ h =>.inl h
    ·cases f
   ·cases f
  ·cases f
 | _=>simp[im]at f
def Jq (U:ji P T) (O:Inv N M L w0 blk V t h a w) {B:Nat} {p x:Operand} {τ:Ty} {y:Nat} {r:Row} {g:Nat×Nat} {c d:D} {i:Value} (W:o.op=.store B p x) (X:T B=some τ) (Y:τ.size=1) (c3:r.cells.length=1) (Z:r.fz=false) (C:r.mp=false)
  (Q:h y=some r) (A:blk y=some g) (E:a.eval p=.pointer (some ⟨g.1,g.2+0,none⟩)) (hu:(a.eval x).cells = #[i]) (s:i.oneCell'=true) (hc:alD c=some d) (F:bn c=true) (G:∀R M',RP R M' c i) (H:RT w (Own M h blk) h blk V d i) :
  eE P o a w (bd N M L w0 V t h a e o.dst ⟨.und,[(y,some ⟨r.v,r.ty,[c],true,false,false⟩)]⟩):=by
 obtain⟨f,I,h4,h5⟩:=O.Gh Q A C;have k:=run_storeCells_at P g.1 (g.2+0) r.ty [i] 0 f w I (by simp;omega) (fun v S=>by
  simp only[aiO]at S;subst S;exact s)
 rw[ai0]at k;have l:f.size=(f.toList.take (g.2+0)++[i]++f.toList.drop (g.2+0+[i].length)).toArray.size:=by simp;omega
 have n:(f.toList.take (g.2+0)++[i]++f.toList.drop (g.2+0+[i].length)).toArray.getD g.2 undef=i:=by
  simp only[aiw];have:(f.toList.take g.2).length=g.2:=by simp;omega
  simp[ai8,this]
 generalize aa:(f.toList.take (g.2+0)++[i]++f.toList.drop (g.2+0+[i].length)).toArray=nv at k l n;have m:(w.setRow g.1 nv).heap[g.1]? = some (.cells nv r.ty (0,0)):=setRow_heap w g.1 f nv r.ty (0,0) I;have J:(w.setRow g.1 nv).heap.size=w.heap.size:=by simp[World.setRow]
 have hheap:∀b,b≠g.1->(w.setRow g.1 nv).heap[b]? = w.heap[b]?:=by
  intro b K;simp only[World.setRow,aiB];rw[if_neg (Ne.symm K)]
 have hw:=O.rewrite (fz:=true) (lst:=false) (cs:=[c]) (w':=w.setRow g.1 nv) Q Z rfl rfl rfl (by rw[J];exact air _) (fun b _ K=>hheap b (K g A)) (by
  rw[A];refine⟨by simp[World.shape?,m,I,l],nv,m,by simp;omega,fun j d q =>?_⟩;cases j with
  | zero =>
   simp only[List.getElem?_cons_zero,aiA]at q;subst q;rw[ai0,n];exact⟨F,G _ _⟩
  | succ j=>simp at q) (fun _ _ g' u j c' d' q z=>by
  rw[A]at u;cases u;cases j with
  | zero =>
   simp only[List.getElem?_cons_zero,aiA]at q;subst q;rw[hc]at z;cases z;refine⟨i,?_,H⟩;rw[ai0,aW m (by omega),n]
  | succ j=>simp at q)
 refine .inr (.inl ⟨w.setRow g.1 nv,?_,blk,?_,trivial⟩)
 ·simp[execOp,W,Instr.storeAt,Instr.sureAddr,E,storeVar,run_sizeOf (U B τ X),Y,hu,k]
 ·exact hw.weaken fun _ _ h =>.inl h
def WS (hT:ji P T) (O:Inv N M L w0 blk V t h a w) (hP:∀x v,V x v->x<N∨2*PK<=x) {ty:Nat} {p x:Operand} {τ:Ty} {y i s1 Q:Nat} {r q:Row} {g:Nat×Nat} {k:Value} (ho:o.op=.store ty p x) (hτ:T ty=some τ) (c1:τ.size=1) (c3:r.cells.length=1) (c4:r.fz=false) (R:r.mp=false)
  (hx:h y=some r) (ad:y<N) (hg:blk y=some g) (ae:a.eval p=.pointer (some ⟨g.1,g.2+0,none⟩)) (hu:(a.eval x).cells = #[k]) (S:k.oneCell'=true) (G:h i=some q) (U:q.fz=false) (au:q.lst=true) (ag:q.mp=false) (W:y≠i)
  (u:(∃l o' c N' t,blk i=some l∧k=.slice (some ⟨l.1,o',none⟩) Q c∧(0<c∨0=0->o'=l.2+0∧c*s1+o'=N')∧Q<=c∧c<=maxLen∧w.shape? l.1=some (t,N'))∨(blk i=none∧Q=0∧∃A,k=.slice A 0 0)) :
  eE P o a w (bd N M L w0 V t h a e o.dst ⟨.und,[(i,none),(PK+y,some ⟨0,q.ty,q.cells,false,true,false⟩),(y,some ⟨r.v,r.ty,[.ph (PK+y) s1 Q],false,false,true⟩)]⟩):=by
 obtain⟨f,h3,h4,h5⟩:=O.Gh hx hg R;have B:=run_storeCells_at P g.1 (g.2+0) r.ty [k] 0 f w h3 (by simp;omega) (fun v hv=>by
  simp only[aiO]at hv;subst hv;exact S)
 rw[ai0]at B;have C:f.size=(f.toList.take (g.2+0)++[k]++f.toList.drop (g.2+0+[k].length)).toArray.size:=by simp;omega
 have X:(f.toList.take (g.2+0)++[k]++f.toList.drop (g.2+0+[k].length)).toArray.getD g.2 undef=k:=by
  simp only[aiw];have:(f.toList.take g.2).length=g.2:=by simp;omega
  simp[ai8,this]
 generalize av:(f.toList.take (g.2+0)++[k]++f.toList.drop (g.2+0+[k].length)).toArray=nv at B C X;have E:(w.setRow g.1 nv).heap[g.1]? = some (.cells nv r.ty (0,0)):=setRow_heap w g.1 f nv r.ty (0,0) h3;have ah:(w.setRow g.1 nv).heap.size=w.heap.size:=by simp[World.setRow]
 have hheap:∀b,b≠g.1->(w.setRow g.1 nv).heap[b]? = w.heap[b]?:=by
  intro b m;simp only[World.setRow,aiB];rw[if_neg (Ne.symm m)]
 have ar:=O.big;have aw:PK=1000000:=rfl;have Y:y≠PK+y:=by omega
 have ai:∀v,¬V (PK+y) v:=fun v hv=>by have:=hP _ _ hv;omega
 have F:=(O.rows i q G).2;have H:∀b,Own M (forget h (some i)) blk b->Own M h blk b:=fun b m=>by
  rcases m with m|⟨z,r',l,Z,aj,ak,al⟩
  ·exact .inl m
  ·simp only[forget]at Z
   by_cases aa:z=i
   ·subst aa;rw[ax]at Z;cases Z
   ·rw[az _ _ aa]at Z;exact .inr ⟨z,r',l,Z,aj,ak,al⟩
 have hA:=O.YB (w':=w) (h1:=forget h (some i)) (old:=some i) (d:=PK+y) (r0:=⟨0,q.ty,q.cells,false,true,false⟩) (go:=blk i) (y0:=y) rfl rfl rfl (air _) (fun _ _ _=>rfl) (fun y' an=>by cases an;exact⟨q,G,U⟩) rfl rfl ad ai
  (fun r' I=>by
   simp only[forget]at I;rw[az _ _ W,hx]at I;cases I;exact R) (by
  cases m:blk i with
  | none=>rw[m]at F;exact F
  | some l =>
   obtain⟨ao,k1,k2,k3⟩:=O.Gh G m ag;refine⟨.inr ⟨i,l,rfl,m,rfl⟩,ao,k1,k2,fun j d K=>⟨(k3 j d K).1,(k3 j d K).2.keep fun b q1 q2=>⟨q1,?_,rfl⟩⟩⟩;rintro (hn|rfl)
   ·exact q2 (H b hn)
   ·exact q2 (.inr ⟨i,q,l,G,U,m,rfl⟩)) rfl
 have aq:b6 (forget h (some i)) (PK+y) (some (⟨0,q.ty,q.cells,false,true,false⟩:Row)) y=some r:=by
  rw[az _ _ Y];simp only[forget];rw[az _ _ W,hx]
 have J:b6 blk (PK+y) (blk i) y=some g:=by rw[az _ _ Y,hg]
 have hB:=hA.ke (r0:=⟨r.v,r.ty,[.ph (PK+y) s1 Q],false,false,true⟩) (w':=w.setRow g.1 nv) aq c4 rfl rfl rfl rfl (by rw[ah];exact air _) (fun b _ m=>hheap b (m g J)) (by
  rw[J];refine⟨by simp[World.shape?,E,h3,C],.inr ⟨fun d hd=>by simp only[aiO]at hd;subst hd;rfl,nv,E,by simp;omega,fun j d K =>?_⟩⟩;cases j with
  | zero=>simp only[List.getElem?_cons_zero,aiA]at K;subst K;trivial
  | succ j=>simp at K) (fun h=>by cases h) (fun _ l ab j x' s n hc=>by
  rw[J]at ab;cases ab;cases j with
  | succ j=>simp at hc
  | zero =>
  simp only[List.getElem?_cons_zero,aiA,D.ph.injEq]at hc;obtain⟨rfl,rfl,rfl⟩:=hc;refine⟨⟨by omega,.inl rfl⟩,k,by rw[ai0,aW E (by omega),X],fun r' _ =>?_⟩;rw[ax];rcases u with⟨l,o',c,N',t,k0,k1,k2,k3,k4,k5⟩|u
  ·obtain⟨k6,k7⟩:=k2 (.inr rfl);rw[ai0]at k6;subst k6;exact .inl ⟨l,c,N',t,k0,k1,k7,k3,k4,k5⟩
  ·exact .inr u)
 refine .inr (.inl ⟨w.setRow g.1 nv,?_,b6 blk (PK+y) (blk i),?_,trivial⟩)
 ·simp[execOp,ho,Instr.storeAt,Instr.sureAddr,ae,storeVar,run_sizeOf (hT ty τ hτ),c1,hu,B]
 ·exact hB.weaken fun _ _ h =>.inl h
def Zu (I:ji P T) (m:Inv N M L w0 blk V t h a w) (U:∀x v,V x v->x<N∨2*PK<=x) {W:Nat} {p x:Operand} {τ:Ty} {E:ca} (J:o.op=.store W p x) (K:T W=some τ) (b:il τ h (ev t p) (ev t x)=some E):eE P o a w (bd N M L w0 V t h a e o.dst E):=by
 have O:=m.ev p;have Q:=m.ev x;have u:=Sv (P:=P) (o:=o) (e:=e) (E:=E) I m J K;generalize ev t p=q at *;generalize ev t x=z at *;cases z with
 | box1 Z v1 s1 o1 n1 =>
  cases q with
  | ptr y v c =>
   simp only[il]at b;split at b
   ·rename_i r j;split at b
    ·rename_i d;obtain⟨A,rfl,B,C,X⟩:=d;simp only[aiA]at b;subst b;obtain⟨l,D⟩:=cz j;obtain⟨g,F,i⟩:=O.2 r l D;obtain⟨Y,s,f,n⟩:=Q;exact Jq I m J K A B C (iZ j) l F i (by rw[s];rfl) f rfl rfl (fun _ _ =>.ali _ _ _ _ _ _ f) (show RT w (Own M h blk) h blk V (.buf Z v1 s1 o1 n1) Y from n)
    ·cases b
   ·cases b
  | pm y v k =>
   simp only[il]at b;split at b
   ·rename_i r q j G;split at b
    ·rename_i d;obtain⟨A,rfl,B,C,X,R,c7,c8,c9,rfl,aa⟩:=d;simp only[aiA]at b;subst b;obtain⟨l,D⟩:=cz j;obtain⟨H,S⟩:=cz G;obtain⟨g,F,i⟩:=O.2 r l D;obtain⟨Y,s,f,n⟩:=Q;exact WS I m U J K A B C (iZ j) l (by have:=U _ _ O.1;omega) F i (by rw[s];rfl) f H R c7 (iZ G) c9 (n.2 q H S)
    ·cases b
   ·cases b
  | _=>simp[il]at b
 | mp y1 v1 =>
  cases q with
  | pm y v c =>
   simp only[il]at b;split at b
   ·rename_i r j;split at b
    ·rename_i d;obtain⟨A,c2,B,C,X,R⟩:=d;subst c2;simp only[aiA]at b;subst b;obtain⟨l,D⟩:=cz j;obtain⟨g,F,i⟩:=O.2 r l D;obtain⟨⟨ks,vs⟩,hm⟩:=Option.isSome_iff_exists.1 R;obtain⟨g2,_,_,_,_,_,_,s,_⟩:=m.PX hm Q;exact Jq I m J K A B C (iZ j) l F i (by rw[s];rfl) rfl rfl rfl (fun _ _ =>.alm _ _ _ rfl) (by rw[<- s];exact Q)
    ·cases b
   ·cases b
  | _=>simp[il]at b
 | _=>exact u b
end
section
variable {P:Program} {T:Nat->Option Ty} {N:Nat} {M:Nat->Prop} {L:kx} {w0:World} {blk:Nat->Option (Nat×Nat)} {V:Nat->Nat->Prop} {t:Nat->D} {h:Nat->Option Row} {a:Act} {w:World} {e:Nat} {o:Oper} {Γ:Env}
def iV {d:TypeDesc} {a:List (Nat×Nat)} (h:conv d=.struct a):∃F,d=.struct F∧(F.toList.map fun f=>(f.type,f.offset))=a:=by
 cases d<;>simp[conv]at h;exact⟨_,rfl,h⟩
def gz {d:TypeDesc} {e:Nat} (h:conv d=.slice e):d=.slice e:=by
 cases d<;>simp[conv]at h;rw[h]
def AL {d:TypeDesc} {n e:Nat} (h:conv d=.arr n e):d=.array n e:=by
 cases d<;>simp[conv]at h;rw[h.1,h.2]
def ue {d:TypeDesc} (h:conv d=.str):d=.string:=by
 cases d<;>simp[conv]at h;rfl
def yx {d:TypeDesc} (h:conv d=.bool):d=.bool:=by
 cases d<;>simp[conv]at h;rfl
def AM {d:TypeDesc} {k:IntKind} (h:conv d=.int k):d=.int k:=by
 cases d<;>simp[conv]at h;rw[h]
def under (b:ji P T) {a:Nat} {τ:Ty} (c:T a=some τ):∃d,P.underlying a=some d∧conv d=τ.ds:=by
 obtain⟨d,i,z,e,f,_⟩:=(b a τ c).get;exact⟨d,e,f⟩
def ON {F:Array Field} {c:List (Nat×Nat)} (g:(F.toList.map fun f=>(f.type,f.offset))=c) {i d a:Nat} (b:c[i]? = some (d,a)):∃f,F[i]? = some f∧f.type=d∧f.offset=a:=by
 rw[<- g,aio]at b;cases e:F[i]? with
 | none=>simp[e]at b
 | some f=>simp[e]at b;exact⟨f,rfl,b.1,b.2⟩
def RP.Vl {e:Nat->Prop} {a:List D} {g:Addr} {us:Nat->Value} (k:Nat) (h:a≠[]->∃b o,g=⟨b,o,none⟩∧b<w.heap.size∧¬e b∧∀j,j<a.length->w.cell? ⟨b,o+j,none⟩=some (us j))
  (i:∀j x,a[j]? = some x->RP w e x (us j)) (h8:∀x∈a,bn x=true):RP w e (.ip (a.drop k)) (.pointer (some (g.add k))):=by
 refine .ip _ _ (fun j=>us (k+j)) (fun f =>?_) (fun j x d =>?_) (fun x l=>h8 x (ai9 l))
 ·have c:a≠[]:=by rintro rfl;simp at f
  obtain⟨b,o,rfl,m,n,p⟩:=h c;refine⟨b,o+k,rC _ _ _,m,n,fun j d =>?_⟩;rw[aiL]at d;rw[aiM];exact p (k+j) (by omega)
 ·rw[aiI]at d;exact i _ _ d
def Zr (i:Inv N M L w0 blk V t h a w) {x:Operand} {E:ca} (k:o.op=.nilCheck x) (b:oN h (ev t x)=some E):eE P o a w (bd N M L w0 V t h a e o.dst E):=by
 have f:=i.ev x;generalize u:ev t x=q at *;cases q with
 | ptr y v c =>
  simp only[oN]at b;split at b
  ·rename_i r m;simp only[aiA]at b;subst b;obtain⟨n,p⟩:=rZ m;obtain⟨g,z,d⟩:=f.2 r n p;refine aN (v := .pointer (some ⟨g.1,g.2+c,none⟩)) (w':=w) ?_ (bd.ec i ?_)
   ·simp[execOp,k,d]
   ·rw[<- d];exact f
  ·cases b
 | ip xs =>
  simp only[oN,aiA]at b;subst b;have j:=f;obtain⟨s,l,_⟩:=RP.afF (M':=Own M h blk) f;refine aN (v := .pointer (some s)) (w':=w) ?_ (bd.ec i ?_)
  ·simp[execOp,k,l]
  ·rw[<- l];exact j
 | _=>simp[oN]at b
def Fi (R:ji P T) (H:Inv N M L w0 blk V t h a w) {x:Operand} {S i:Nat} {τ:Ty} {E:ca} (W:o.op=.fieldAddr S x i) (X:T S=some τ) (b:gh T τ h i (ev t x)=some E) :
  eE P o a w (bd N M L w0 V t h a e o.dst E):=by
 have D:=H.ev x;have z:∀(I:Addr) (fs:List (Nat×Nat)) (p j:Nat) (φ:Ty),τ.ds=.struct fs->fs[i]? = some (p,j)->T p=some φ->φ.size≠0->a.eval x=.pointer (some I) ->
   (execOp a.eval o).run P w=.ok (.value (.pointer (some (I.add j)))) w:=by
  intro I fs p j φ l A B C G;obtain⟨d,Y,U⟩:=under R X;rw[l]at U;obtain⟨F,rfl,Z⟩:=iV U;obtain⟨f,hf,rfl,rfl⟩:=ON Z A;have J:=run_sizeOf (P:=P) (R _ _ B) w;simp[execOp,W,Instr.fieldAt,run_underlying Y,hf,G,Instr.sureAddr,fieldPlace,J,C]
 generalize hq:ev t x=q at *;cases q with
 | ptr y v c =>
  simp only[gh]at b;split at b
  ·rename_i r fs K l;split at b
   ·rename_i p j A;split at b
    ·rename_i φ B;split at b
     ·cases b
     ·rename_i C;simp only[aiA]at b;subst b;obtain⟨O,G⟩:=rZ K;obtain⟨g,Q,m⟩:=D.2 r O G;refine aN (z _ fs p j φ l A B C m) (bd.ec H ⟨D.1,fun r' h1 h2=>⟨g,Q,by rw[rC,aiM]⟩⟩)
    ·cases b
   ·cases b
  ·cases b
 | pm y v k =>
  simp only[gh]at b;split at b
  ·rename_i q fs K l;split at b
   ·rename_i p A;split at b
    ·rename_i φ B;split at b
     ·cases b
     ·rename_i C;simp only[aiA]at b;subst b;obtain⟨ry,y',s,n⟩:=q;obtain⟨O,G,_,_⟩:=Ad K;obtain⟨g,Q,m⟩:=D.2 ry O G;refine aN (z _ fs p 0 φ l A B C m) (bd.ec H ⟨D.1,fun r' h1 h2=>⟨g,Q,by rw[rC,ai0]⟩⟩)
    ·cases b
   ·cases b
  ·cases b
 | ip xs =>
  simp only[gh]at b;split at b
  ·rename_i fs l;split at b
   ·rename_i p j A;split at b
    ·rename_i φ B;split at b
     ·cases b
     ·rename_i C;simp only[aiA]at b;subst b;have m:RP w (Own M h blk) (.ip xs) (a.eval x):=D;generalize hu:a.eval x=u at *;cases m with
      | ip xs I us h6 h7 h8=>exact aN (z _ fs p j φ l A B C rfl) (bd.ec H (bR (RP.Vl j h6 h7 h8)))
    ·cases b
   ·cases b
  ·cases b
 | _=>simp[gh]at b
def wg (g:ji P T) {x h:Operand} {j el n c:Nat} {τ φ:Ty} {k:IntKind} {i:Int} {l:Addr} (p:o.op=.indexAddr j x h) (q:T j=some τ) (b:τ.ds=.slice el) (r:T el=some φ)
  (s:0<=i∧i<n) (t:a.eval x=.slice (some l) n c) (e:a.eval h=.int k i):(execOp a.eval o).run P w=.ok (.value (.pointer (some (l.add (i.toNat*φ.size))))) w:=by
 obtain⟨d,u,m⟩:=under g q;rw[b]at m;have:=gz m;subst this;have f:=run_sizeOf (P:=P) (g _ _ r) w;simp only[execOp,p,Instr.indexAt,t,e,asIntOf,aiY,Sem.run_pure,Result.andThen_ok,run_underlying u];rw[if_pos s];simp[f]
def Ef (f:ji P T) {x g:Operand} {h el n:Nat} {τ φ:Ty} {k:IntKind} {i:Int} {j:Addr} (m:o.op=.indexAddr h x g) (p:T h=some τ) (b:τ.ds=.arr n el) (q:T el=some φ)
  (r:0<=i∧i<n) (s:a.eval x=.pointer (some j)) (c:a.eval g=.int k i):(execOp a.eval o).run P w=.ok (.value (.pointer (some (j.add (i.toNat*φ.size))))) w:=by
 obtain⟨d,t,l⟩:=under f p;rw[b]at l;have:=AL l;subst this;have e:=run_sizeOf (P:=P) (f _ _ q) w;simp only[execOp,m,Instr.indexAt,s,c,asIntOf,aiY,Sem.run_pure,Result.andThen_ok,run_underlying t,Instr.sureAddr];rw[if_pos r];simp[e]
def Fj (G:ji P T) (p:Inv N M L w0 blk V t h a w) {x F:Operand} {U:Nat} {τ:Ty} {E:ca} (H:o.op=.indexAddr U x F) (I:T U=some τ) (d:cF T τ h (ev t x) (ev t F)=some E) :
  eE P o a w (bd N M L w0 V t h a e o.dst E):=by
 have B:=p.ev x;have J:=p.ev F;generalize ev t x=q at *;generalize ev t F=z at *;cases z with
 | int k i =>
  have j:=nI J;cases q with
  | sl nl tight n xs =>
   simp only[cF]at d;split at d
   ·rename_i el f;split at d
    ·rename_i φ C;split at d
     ·rename_i l;simp only[aiA]at d;subst d;have m:RP w (Own M h blk) (.sl nl tight n xs) (a.eval x):=B;generalize Y:a.eval x=u at *;cases m with
      | sl A c nl tight n xs us W X h3 h4 h5 h6 h7 h8 =>
       cases A with
       | none=>have:=(h4 rfl).1;omega
       | some ad=>exact aN (wg G H I f C l Y j) (bd.ec p (bR (RP.Vl _ (fun K=>by
         obtain⟨b,o,Z,D⟩:=h6 K;cases Z;exact⟨b,o,rfl,D⟩) h7 h8)))
     ·cases d
    ·cases d
   ·cases d
  | buf y v s c n =>
   simp only[cF]at d;split at d
   ·rename_i r el O f;split at d
    ·rename_i φ C;split at d
     ·rename_i l;obtain⟨hs,l⟩:=l;simp only[aiA]at d;subst d;obtain⟨Q,R⟩:=rZ O;rcases B.2 r Q R with⟨g,o',c',N',t',g0,g1,g2,g3,_⟩|⟨_,h0,_⟩
      ·have S:=(g2 (.inl (by omega))).1;subst S;exact aN (wg G H I f C l g1 j) (bd.ec p ⟨B.1,fun r' W X=>⟨g,g0,by rw[rC,hs,aiM]⟩⟩)
      ·omega
     ·cases d
    ·cases d
   ·cases d
  | ptr y v c =>
   simp only[cF]at d;split at d
   ·rename_i r n el O f;split at d
    ·rename_i φ C;split at d
     ·rename_i l;simp only[aiA]at d;subst d;obtain⟨Q,R⟩:=cz O;obtain⟨g,hg,m⟩:=B.2 r Q R;exact aN (Ef G H I f C l m j) (bd.ec p ⟨B.1,fun r' W X=>⟨g,hg,by rw[rC,aiM]⟩⟩)
     ·cases d
    ·cases d
   ·cases d
  | _=>simp[cF]at d
 | _=>cases q<;>simp[cF]at d
end
section
variable {P:Program} {T:Nat->Option Ty} {N:Nat} {M:Nat->Prop} {L:kx} {w0:World} {blk:Nat->Option (Nat×Nat)} {V:Nat->Nat->Prop} {t:Nat->D} {h:Nat->Option Row} {a:Act} {w:World} {e:Nat} {o:Oper} {Γ:Env}
def Re (g:ji P T) {m a:Nat} {φ:Ty} (h:T m=some φ) {e:List D} {b:List Value} {d:D} {n:Nat->Prop} (p:b.length=e.length) (o:∀j x,e[j]? = some x->RP w n x (b.getD j undef)) (h3:∀x∈e,bn x=true)
  (c:VP φ e a=some d):∃v,(part m b.toArray a).run P w=.ok v w∧RP w n d v:=by
 unfold VP at c;split at c
 ·rename_i i;split at c
  ·rename_i q;simp only[aiA]at c;subst c;refine⟨.agg (b.toArray.extract a (a+φ.size)),by simp[part,nw (g _ _ h),i,run_sizeOf (g _ _ h)],?_⟩;have r:b.toArray.extract a (a+φ.size)=((b.drop a).take φ.size).toArray:=by
    apply Array.ext';simp[Array.toList_extract,List.extract]
   rw[r];refine .agg _ _ (by simp[p]) (fun j x f =>?_) (fun x s=>h3 x (ai9 (ajb s)));rw[cR]at f;split at f
   ·rename_i k;have:=o _ x f;have t:((b.drop a).take φ.size).getD j undef=b.getD (a+j) undef:=by
     simp only[ai4,cR,if_pos k]
    rw[t];exact this
   ·cases f
  ·cases c
 ·rename_i i;have l:φ.ds.uk=false:=by simpa using i
  have u:=(aiU.1 c).1;have y:=o a d c;refine⟨b.getD a undef,?_,y⟩;have:b.toArray[a]? = some (b.getD a undef):=by
   simp[List.getD,aiE (show a<b.length by omega)]
  simp[part,nw (g _ _ h),l,this]
def Sq (m:ji P T) (n:Inv N M L w0 blk V t h a w) {x:Operand} {p i:Nat} {τ:Ty} {E:ca} (s:o.op=.field p x i) (y:T p=some τ) (b:A1 T τ i (ev t x)=some E):eE P o a w (bd N M L w0 V t h a e o.dst E):=by
 have z:=n.ev x;generalize ev t x=q at *;cases q with
 | agg xs =>
  simp only[A1]at b;split at b
  ·rename_i J c;split at b
   ·rename_i K A B;split at b
    ·rename_i φ C;split at b
     ·rename_i d D;simp only[aiA]at b;subst b;have g:RP w (Own M h blk) (.agg xs) (a.eval x):=z;generalize G:a.eval x=u at *;cases g with
      | agg xs us h1 h2 h3 =>
       obtain⟨v,j,k⟩:=Re m C h1 h2 h3 D;obtain⟨O,l,r⟩:=under m y;rw[c]at r;obtain⟨F,rfl,H⟩:=iV r;obtain⟨f,I,rfl,rfl⟩:=ON H B;refine aN (v:=v) (w':=w) ?_ (bd.ec n (bR k));simp[execOp,s,Instr.field,run_underlying l,I,G,asAgg,j]
     ·cases b
    ·cases b
   ·cases b
  ·cases b
 | _=>simp[A1]at b
def Sr (r:ji P T) (l:Inv N M L w0 blk V t h a w) {x m:Operand} {D:Nat} {τ:Ty} {E:ca} (F:o.op=.index D x m) (I:T D=some τ) (c:mc T τ (ev t x) (ev t m)=some E) :
  eE P o a w (bd N M L w0 V t h a e o.dst E):=by
 have G:=l.ev x;have y:=l.ev m;generalize ev t x=q at *;generalize ev t m=z at *;obtain⟨U,g,p⟩:=under r I;cases z with
 | int k i =>
  have j:=nI y;cases q with
  | str s =>
   have J:=EL G;simp only[mc]at c;split at c
   ·rename_i f;rw[f]at p;have:=ue p;subst this;split at c
    ·rename_i K;split at c
     ·rename_i b O;simp only[aiA]at c;subst c;refine aN (v := .int .u8 b.toNat) (w':=w) ?_ (bd.ec l (bR (.int _ _)));simp only[execOp,F,Instr.index,j,J,asIntOf,aiY,Sem.run_pure,Result.andThen_ok,run_underlying g];rw[if_pos K,O];rfl
     ·cases c
    ·cases c
   ·cases c
  | agg xs =>
   simp only[mc]at c;split at c
   ·rename_i n el f;rw[f]at p;have:=AL p;subst this;split at c
    ·rename_i φ H;split at c
     ·rename_i Q;split at c
      ·rename_i d R;simp only[aiA]at c;subst c;have A:RP w (Own M h blk) (.agg xs) (a.eval x):=G;generalize S:a.eval x=u at *;cases A with
       | agg xs us h1 h2 h3 =>
        obtain⟨v,B,C⟩:=Re r H h1 h2 h3 R;refine aN (v:=v) (w':=w) ?_ (bd.ec l (bR C));simp only[execOp,F,Instr.index,j,S,asIntOf,aiY,Sem.run_pure,Result.andThen_ok,run_underlying g];rw[if_pos Q];simp[run_sizeOf (r _ _ H),B]
      ·cases c
     ·cases c
    ·cases c
   ·cases c
  | _=>simp[mc]at c
 | _=>cases q<;>simp[mc]at c
def oS {d:D} {n:Nat} (h:sd d=some n):∃k,d=.int k n:=by
 cases d with
 | int k i =>
  simp only[sd]at h;split at h
  ·simp only[aiA]at h;exact⟨k,by rw[<- h];congr 1;omega⟩
  ·cases h
 | _=>simp[sd]at h
def run_sliceBound (k:IntKind) (n y:Nat) (c:BoundsCode) (a:n<=y):(Instr.sliceBound (.int k n) y c).run P w=.ok n w:=by
 have b:(n:Int)<=(y:Int):=by omega
 simp[Instr.sliceBound,asIntOf,b]
def vO (b:Bool) {n cap l k:Nat} {f g:Option D} {vlo vhi:Option Value} (A:n<=cap) (c:zt n f g=some (l,k))
  (o:∀d,f=some d->∃v,vlo=some v∧∀k n,d=.int k n->v=.int k n) (h:f=none->vlo=none)
  (p:∀d,g=some d->∃v,vhi=some v∧∀k n,d=.int k n->v=.int k n) (i:g=none->vhi=none) :
  (Instr.sliceBounds b n cap vlo vhi none).run P w=.ok (l,k,cap) w∧l<=k∧k<=n:=by
 unfold zt at c;split at c
 ·rename_i j m r s;split at c
  ·rename_i a;simp only[aiA,Prod.mk.injEq]at c;obtain⟨rfl,rfl⟩:=c;refine⟨?_,a.1,a.2⟩;have t:(g=none∧vhi=none∧j=n)∨∃q,vhi=some (.int q (j:Nat)):=by
    cases g with
    | none=>simp at r;exact .inl ⟨rfl,i rfl,r.symm⟩
    | some d =>
     obtain⟨q,rfl⟩:=oS r;obtain⟨v,u,e⟩:=p _ rfl;exact .inr ⟨q,by rw[u,e _ _ rfl]⟩
   have x:(f=none∧vlo=none∧m=0)∨∃q,vlo=some (.int q (m:Nat)):=by
    cases f with
    | none=>simp at s;exact .inl ⟨rfl,h rfl,s.symm⟩
    | some d =>
     obtain⟨q,rfl⟩:=oS s;obtain⟨v,u,e⟩:=o _ rfl;exact .inr ⟨q,by rw[u,e _ _ rfl]⟩
   rcases t with⟨_,rfl,rfl⟩|⟨y,rfl⟩<;>rcases x with⟨_,rfl,rfl⟩|⟨z,rfl⟩
   ·simp[Instr.sliceBounds]
   ·simp[Instr.sliceBounds,run_sliceBound z m _ _ a.1]
   ·simp[Instr.sliceBounds,run_sliceBound y j cap _ (by omega)]
   ·simp[Instr.sliceBounds,run_sliceBound y j cap _ (by omega),run_sliceBound z m _ _ a.1]
  ·cases c
 ·cases c
def Q8 (b:Bool) {n cap l k m:Nat} {e:Option D} {u:D} {vlo:Option Value} {vhi x:Value} {q:IntKind} (a:zt n e (some u)=some (l,k)) (A:x=.int q m) (f:m<=cap) (g:k<=m)
  (i:∀d,e=some d->∃v,vlo=some v∧∀k n,d=.int k n->v=.int k n) (h:e=none->vlo=none)
  (j:∀k n,u=.int k n->vhi=.int k n):(Instr.sliceBounds b n cap vlo (some vhi) (some x)).run P w=.ok (l,k,m) w∧l<=k∧k<=n:=by
 unfold zt at a;split at a
 ·rename_i y o B p;split at a
  ·rename_i c;simp only[aiA,Prod.mk.injEq]at a;obtain⟨rfl,rfl⟩:=a;refine⟨?_,c.1,c.2⟩;obtain⟨z,rfl⟩:=oS B;have r:=j _ _ rfl;subst r A;have s:(e=none∧vlo=none∧o=0)∨∃q,vlo=some (.int q (o:Nat)):=by
    cases e with
    | none=>simp at p;exact .inl ⟨rfl,h rfl,p.symm⟩
    | some d =>
     obtain⟨q,rfl⟩:=oS p;obtain⟨v,C,t⟩:=i _ rfl;exact .inr ⟨q,by rw[C,t _ _ rfl]⟩
   rcases s with⟨_,rfl,rfl⟩|⟨E,rfl⟩
   ·simp[Instr.sliceBounds,run_sliceBound q m cap _ f,run_sliceBound z y m _ g]
   ·simp[Instr.sliceBounds,run_sliceBound q m cap _ f,run_sliceBound z y m _ g,run_sliceBound E o _ _ c.1]
  ·cases a
 ·cases a
def Inv.evo (c:Inv N M L w0 blk V t h a w) (x:Option Operand):(∀d,x.map (Am.ev t)=some d->∃v,x.map a.eval=some v∧∀k n,d=.int k n->v=.int k n)∧(x.map (Am.ev t)=none->x.map a.eval=none):=by
 cases x with
 | none=>exact⟨fun d b=>by simp at b,fun _=>rfl⟩
 | some x =>
  refine⟨fun d b=>⟨a.eval x,rfl,fun k n e =>?_⟩,fun b=>by simp at b⟩;simp only[Option.map_some,aiA]at b;have:=c.ev x;rw[b,e]at this;exact nI this
def RP.cut {r:Nat->Prop} {A:Option Addr} {c n l k m s:Nat} {nl tight d a:Bool} {g:List D} (u:RP w r (.sl nl tight n g) (.slice A n c)) (v:l<=k) (y:k<=n) (z:k<=m) (B:m<=c) (C:a=true->m=k) (i:d=true->nl=true∧tight=true∧a=true) :
  RP w r (.sl d a (k-l) ((g.drop (l*s)).take ((k-l)*s))) (.slice (if m=l then A else A.map (·.add (l*s))) (k-l) (m-l)):=by
 cases u with
 | sl A c nl tight n g us h1 h2 h3 h4 h5 h6 h7 h8 =>
  refine .sl _ _ d a _ _ (fun j=>us (l*s+j)) (by omega) (by omega) (fun h =>?_) (fun h =>?_) (fun o=>by rw[C o]) (fun f =>?_) (fun j x e =>?_) (fun x E=>h8 x (ai9 (ajb E)))
  ·obtain⟨F,G,H⟩:=i h;obtain⟨rfl,rfl⟩:=(h3 F).1 G;refine⟨fun _=>⟨by simp,by omega⟩,fun q=>by rw[H]at q;cases q⟩
  ·have I:A=none:=by
    cases A with
    | none=>rfl
    | some ad=>split at h<;>simp at h
   have:=h4 I;omega
  ·have p:g≠[]:=by rintro rfl;simp at f
   have J:l<k:=by
    rcases ajc l k with t|t
    ·exact t
    ·have:k-l=0:=by omega
     simp[this]at f
   obtain⟨b,K,rfl,L,M,N⟩:=h6 p;rw[if_neg (by omega)];refine⟨b,K+l*s,by simp[rC],L,M,fun j e =>?_⟩;simp only[aiK,aiL]at e;have:=N (l*s+j) (by omega);rw[<- aiM]at this;exact this
  ·rw[cR]at e;split at e
   ·exact h7 _ x e
   ·cases e
def Su (W:ji P T) (I:Inv N M L w0 blk V t h a w) {x:Operand} {X hi mx:Option Operand} {ty:Nat} {τ:Ty} {E:ca} (Y:o.op=.slice ty x X hi mx) (hτ:T ty=some τ)
  (b:ik T τ h (ev t x) (X.map (ev t)) (hi.map (ev t)) (mx.map (ev t))=some E):eE P o a w (bd N M L w0 V t h a e o.dst E):=by
 have Z:=I.ev x;obtain⟨j,p⟩:=I.evo X;obtain⟨z,J⟩:=I.evo hi;obtain⟨ag,S⟩:=I.evo mx;generalize ev t x=q at *;obtain⟨dd,B,U⟩:=under W hτ;have an:X.map a.eval=X.map a.eval:=rfl;cases q with
 | str s =>
  have hs:=EL Z;simp only[ik]at b;split at b
  ·rename_i l k C f Q;rw[C]at U;have:=ue U;subst this;simp only[aiA]at b;subst b;obtain⟨d,_,_⟩:=vO (P:=P) (w:=w) false (air _) Q j p z J;have i:=S f;refine aN (v := .string (s.extract l k)) (w':=w) ?_ (bd.ec I (bR (.str _)));simp only[execOp,Y,Instr.sliceAt,aiY,run_underlying B,Result.andThen_ok,Instr.slice,hs,i];simp[d]
  ·cases b
 | sl nl tight n xs =>
  have D:RP w (Own M h blk) (.sl nl tight n xs) (a.eval x):=Z;have ah:∃A c,a.eval x=.slice A n c∧n<=c∧(tight=true->c=n):=by
   generalize a.eval x=u at *;cases D with
   | sl A c nl tight n xs us h1 h2 h3 h4 h5 h6 h7 h8=>exact⟨A,c,rfl,h1,h5⟩
  obtain⟨A,c,hu,ai,K⟩:=ah;rw[hu]at D;simp only[ik]at b;split at b
  ·rename_i el C;rw[C]at U;have:=gz U;subst this;split at b
   ·rename_i φ l k hφ Q;split at b
    ·rename_i f;simp only[aiA]at b;subst b;obtain⟨d,F,G⟩:=vO (P:=P) (w:=w) true ai Q j p z J;have i:=S f;refine aN (v := .slice (if c=l then A else A.map (·.add (l*φ.size))) (k-l) (c-l)) (w':=w) ?_ (bd.ec I (bR (D.cut F G (by omega) (air _) (fun ht =>?_) (fun R =>?_))))
     ·simp only[execOp,Y,Instr.sliceAt,aiY,run_underlying B,Result.andThen_ok,Instr.slice,hu,i];simp[d,run_sizeOf (W _ _ hφ)]
     ·simp only[ai2,beq_iff_eq]at ht;rw[K ht.1,ht.2]
     ·simp only[ai2]at R;refine⟨R.1,R.2,?_⟩;have ao:c=0∧n=0:=by
       cases D with
       | sl A c nl tight n xs us h1 h2 h3 h4 h5 h6 h7 h8=>have:=((h3 R.1).1 R.2).2;omega
      simp only[ai2,beq_iff_eq];exact⟨R.2,by omega⟩
    ·rename_i md f;split at b
     ·rename_i m hd hm aa;split at b
      ·rename_i H;simp only[aiA]at b;subst b;obtain⟨q,rfl⟩:=oS hm;obtain⟨vm,aj,ab⟩:=ag _ f;obtain⟨vh,ak,ad⟩:=z _ aa;rw[aa]at Q;obtain⟨d,F,G⟩:=Q8 (P:=P) (w:=w) true (cap:=c) Q (ab _ _ rfl) (by omega) H.1 j p ad;refine aN (v := .slice (if m=l then A else A.map (·.add (l*φ.size))) (k-l) (m-l)) (w':=w) ?_ (bd.ec I (bR (D.cut F G H.1 (by omega) (fun ht=>by simpa using ht) (fun R=>by cases R))));simp only[execOp,Y,Instr.sliceAt,aiY,run_underlying B,Result.andThen_ok,Instr.slice,hu,aj,ak];simp[d,run_sizeOf (W _ _ hφ)]
      ·cases b
     ·cases b
   ·cases b
  ·cases b
 | buf y v s c0 n =>
  simp only[ik]at b;split at b
  ·rename_i r el hl C f;rw[C]at U;have:=gz U;subst this;split at b
   ·rename_i φ l k hφ Q;split at b
    ·rename_i hs;obtain⟨hs,aq⟩:=hs;simp only[aiA]at b;subst b;obtain⟨hx,hv⟩:=cz hl;have i:=S f;rcases Z.2 r hx hv with⟨g,o',c,N',t',g0,g1,g2,g3,g4,g5⟩|⟨g0,g1,A,g2⟩
     ·obtain⟨d,F,G⟩:=vO (P:=P) (w:=w) true g3 Q j p z J;refine aN (v := .slice (if c=l then (some ⟨g.1,o',none⟩) else (some ⟨g.1,o'+l*φ.size,none⟩)) (k-l) (c-l)) (w':=w) ?_ (bd.ec I ⟨Z.1,fun r' h1 h2 =>.inl ?_⟩)
      ·simp only[execOp,Y,Instr.sliceAt,aiY,run_underlying B,Result.andThen_ok,Instr.slice,g1,i];simp[d,run_sizeOf (W _ _ hφ),rC]
      ·by_cases ae:c=l
       ·rw[if_pos ae];refine⟨g,o',c-l,N',t',g0,rfl,fun hh =>?_,by omega,by omega,g5⟩;rcases hh with hh|hh
        ·omega
        ·have O:l*s=0:=by omega
         have:l=0:=by
          rcases Nat.mul_eq_zero.1 O with h'|h'
          ·exact h'
          ·omega
         subst this;obtain⟨q1,q2⟩:=g2 (.inr (by omega));rw[Nat.sub_zero,O];exact⟨by omega,q2⟩
       ·rw[if_neg ae];refine⟨g,o'+l*φ.size,c-l,N',t',g0,rfl,fun hh =>?_,by omega,by omega,g5⟩;obtain⟨q1,q2⟩:=g2 (.inl (by omega));have ar:l*s<=c*s:=ajd _ (by omega);rw[hs,Nat.sub_mul];exact⟨by omega,by omega⟩
     ·subst g1;obtain⟨d,F,G⟩:=vO (P:=P) (w:=w) (cap:=0) true (air _) Q j p z J;have al:k=0:=by omega
      have O:l=0:=by omega
      subst al O;refine aN (v := .slice A 0 0) (w':=w) ?_ (bd.ec I ⟨Z.1,fun r' h1 h2 =>.inr ⟨g0,rfl,A,rfl⟩⟩);simp only[execOp,Y,Instr.sliceAt,aiY,run_underlying B,Result.andThen_ok,Instr.slice,g2,i];simp[d,run_sizeOf (W _ _ hφ)]
    ·cases b
   ·cases b
  ·cases b
 | _=>simp[ik]at b
end
section
variable {P:Program} {T:Nat->Option Ty} {N:Nat} {M:Nat->Prop} {L:kx} {w0:World} {blk:Nat->Option (Nat×Nat)} {V:Nat->Nat->Prop} {t:Nat->D} {h:Nat->Option Row} {a:Act} {w:World} {e:Nat} {o:Oper} {Γ:Env}
def Ro (b us:Array Value) (a:Nat) (d:a+us.size<=b.size) :
  us.zipIdx.foldl (fun cs (p:Value×Nat)=>cs.setIfInBounds (a+p.2) p.1) b=(b.toList.take a++us.toList++b.toList.drop (a+us.toList.length)).toArray:=by
 have key:∀(l:List Value) (k:Nat) (c:Array Value),a+k+l.length<=c.size ->
   (l.zipIdx k).foldl (fun cs (p:Value×Nat)=>cs.setIfInBounds (a+p.2) p.1) c=(c.toList.take (a+k)++l++c.toList.drop (a+k+l.length)).toArray:=by
  intro l
  induction l with
  | nil=>intro k c _;simp
  | cons v l e =>
   intro k c f;simp only[List.zipIdx_cons,List.foldl_cons];simp only[List.length_cons]at f;rw[e (k+1) _ (by simp;omega)];have:=list_seg_step c.toList (a+k) v l (by simp;omega);simp only[Array.toList_setIfInBounds];congr 1
 have:=key us.toList 0 b (by simp;omega);rw[ai0]at this;rw[<- this,<- Array.foldl_toList,Array.toList_zipIdx]
def aaT {w:World} {M:Nat->Prop} {cells e:List D} {a:Array Value} {f:List Value} {c:Nat} (g:c+e.length<=cells.length) (h:f.length=e.length) (k:cells.length<=a.size)
  (l:∀j d,cells[j]? = some d->bn d=true∧RP w M d (a.getD j undef)) (m:∀j d,e[j]? = some d->bn d=true∧RP w M d (f.getD j undef)) (j:Nat) (d:D) (i:(putCells cells c e)[j]? = some d) :
  bn d=true∧RP w M d ((a.toList.take c++f++a.toList.drop (c+f.length)).toArray.getD j undef):=by
 have:=spliced (cur:=a) (b:=0) g h (by omega) (fun j d i=>by rw[ajf];exact l j d i) m j d i;simp only[ajf]at this;exact this
def NP {w:World} {M:Nat->Prop} {a:List D} {f:Nat->Value} (c:∀(j:Nat) d,a[j]? = some d->bn d=true∧RP w M d (f j)) (j:Nat) (d:D) (b:(a.map canon)[j]? = some d):bn d=true∧RP w M d (f j):=by
 rw[aio,aip]at b;obtain⟨x,e,rfl⟩:=b;obtain⟨g,h⟩:=c j x e;exact⟨by rw[od];exact g,h.canon⟩
def Inv.jK (q:Inv N M L w0 blk V t h a w) {f:Nat->Option (Nat×Nat)} {r:Nat->Prop} : ∀ {parts:List (Nat×Operand)} {cells c:List D} {o:List Nat} {cur:Array Value},
  jK h f cells (parts.map fun p=>(p.1,Am.ev t p.2))=some (c,o)->qy M h blk o r->cells.length=cur.size->(∀j d,cells[j]? = some d->bn d=true∧RP w r d (cur.getD j undef)) ->
  ∃b,Instr.fill f cur (parts.map fun p=>(p.1,a.eval p.2))=some b∧c.length=b.size∧c.length=cells.length∧∀j d,c[j]? = some d->bn d=true∧RP w r d (b.getD j undef)
 | [],cells,c,o,cur,e,s,m,u=>by
  simp only[ajg,Am.jK,aiA,Prod.mk.injEq]at e;obtain⟨rfl,rfl⟩:=e;exact⟨cur,rfl,m,rfl,u⟩
 | (i,x)::parts,cells,c,o,cur,e,s,m,u=>by
  simp only[aix,Am.jK]at e;split at e
  ·rename_i g n z B C E;split at e
   ·rename_i F;split at e
    ·rename_i A G H;simp only[aiA,Prod.mk.injEq]at e;obtain⟨rfl,rfl⟩:=e;obtain⟨I,J⟩:=q.gx E s.left (q.ev x);have v:(a.eval x).cells.toList.length=z.length:=by simp only[Array.length_toList];exact I
     have k:g+z.length<=cells.length:=by omega
     obtain⟨b,K,O,P,Q⟩:=q.jK (cur:=(cur.toList.take g++(a.eval x).cells.toList++cur.toList.drop (g+(a.eval x).cells.toList.length)).toArray) H s.right
      (by rw[kd k];simp;omega)
      (fun j d y=>aaT k v (by omega) u (fun j d y=>by simpa [List.getD] using J j d y) j d y)
     refine⟨b,?_,O,by rw[P,kd k],Q⟩;rw[<- K];simp only[aix,Instr.fill,C];have l:(decide ((a.eval x).cells.size≠n)||decide (g+(a.eval x).cells.size>cur.size))=false:=by simp;omega
     rw[if_neg (by simpa using l)];congr 1;exact Ro cur (a.eval x).cells g (by omega)
    ·cases e
   ·cases e
  ·cases e
def ot (b:ji P T):∀(F:List Field),(∀f∈F,(T f.type).isSome=true)->(F.mapM fun f=>(do pure (f.offset,<- Go.sizeOf f.type):Sem (Nat×Nat))).run P w=.ok (F.map fun f=>(f.offset,((T f.type).map (·.size)).getD 0)) w
 | [],_=>by simp
 | f::F,hF=>by
  have c:=hF f (by simp);cases a:T f.type with
  | none=>simp[a]at c
  | some φ =>
   have d:=ot b F (fun g e=>hF g (by simp[e]));simp only[List.mapM_cons,aiY,run_sizeOf (b _ _ a),Result.andThen_ok,Sem.run_pure,aix,a,Option.map_some,Option.getD_some];rw[d];rfl
def zx (n:ji P T) (q:Inv N M L w0 blk V t h a w) {r:Nat} {parts:Array (Nat×Operand)} {τ:Ty} {E:ca} (S:o.op=.build r parts) (I:T r=some τ) (k:ij T τ h (parts.toList.map fun p=>(p.1,ev t p.2))=some E) :
  eE P o a w (bd N M L w0 V t h a e o.dst E):=by
 obtain⟨Z,s,J⟩:=under n I;unfold ij at k;split at k
 ·rename_i U u;rw[u]at J;obtain⟨F,rfl,K⟩:=iV J;split at k
  ·rename_i b;simp only[ai2]at b;split at k
   ·rename_i x m W;simp only[aiA]at k;subst k;obtain⟨z,y,A⟩:=ko (n r τ I) w;obtain⟨c,O,i2,i3,Q⟩:=q.jK W (q.gj m) (cur:=τ.zero.toArray) (by simp) (fun j d l=>sD τ.zero b.2 j d l);have g:∀f∈F.toList,(T f.type).isSome=true:=by
     intro f B;have:=b.1;rw[aiC]at this;exact this (f.type,f.offset) (by rw[<- K];exact aiq.2 ⟨f,B,rfl⟩)
    have C:(fun i=>(F.map fun f=>(f.offset,((T f.type).map (·.size)).getD 0))[i]?)=fieldAt T U:=by
     funext i;simp only[fieldAt,<- K,aio,Array.getElem?_map];rw[aji];cases D:F[i]? with
     | none=>rfl
     | some f =>
      have:=g f (by simpa using ajj D);cases R:T f.type with
      | none=>simp[R]at this
      | some φ=>simp[R]
    refine aN (v := .agg c) (w':=w) ?_ ?_
    ·have X:=ot (P:=P) (w:=w) n F.toList g;have G:(F.mapM fun f=>(do pure (f.offset,<- Go.sizeOf f.type):Sem (Nat×Nat))).run P w=.ok (F.map fun f=>(f.offset,((T f.type).map (·.size)).getD 0)) w:=by
      rw[ajk,Sem.run_map,X];simp only[Result.andThen_ok];congr 1;apply Array.ext';simp
     rw[<- C]at O;simp only[execOp,S,Instr.build,aiY,y,Result.andThen_ok,run_underlying s,G,A,ajl];rw[O];rfl
    ·have:(⟨.agg x,kb h m⟩:ca)=⟨.agg x,kb h m⟩:=rfl;have H:c=c.toList.toArray:=by simp
     rw[H];refine bd.LU q m (.agg x _ (by simp;omega) (fun j d l =>?_) (fun d Y =>?_))
     ·have:=(Q j d l).2;simpa [List.getD] using this
     ·obtain⟨j,l⟩:=aiN Y;exact (Q j d l).1
   ·cases k
  ·cases k
 ·cases k
def Zk (C:ji P T) (H:Inv N M L w0 blk V t h a w) {q:Nat->Bool} {ty:Nat} {parts:Array (Nat×Operand)} {τ:Ty} {E:ca} (ho:o.op=.build ty parts) (I:T ty=some τ) (k:rJ q T τ h o.dst (parts.toList.map fun p=>(p.1,ev t p.2))=some E) :
  eE P o a w (bd N M L w0 V t h a e o.dst E):=by
 unfold rJ at k;split at k
 ·split at k
  ·exact zx C H ho I k
  ·split at k
   ·rename_i fs x v s o' n J b;split at k
    ·rename_i y;obtain⟨k1,k2,k3,k4⟩:=y;simp only[aiA]at k;subst k;obtain⟨dd,K,hc⟩:=under C I;rw[J]at hc;obtain⟨F,rfl,hF⟩:=iV hc;obtain⟨u,O,B⟩:∃u,parts.toList=[u]∧(u.1,ev t u.2)=(0,D.buf x v s o' n):=by
      cases m:parts.toList with
      | nil=>rw[m]at b;cases b
      | cons u l =>
       rw[m]at b;simp only[aix,aiP,List.map_eq_nil_iff]at b;exact⟨u,by rw[b.2],b.1⟩
     simp only[Prod.mk.injEq]at B;have Z:=H.ev u.2;rw[B.2]at Z;have Q:∃r,pM h x v=some r:=by
      simp only[alive]at k1;exact Option.isSome_iff_exists.1 k1
     obtain⟨r,Q⟩:=Q;obtain⟨hx,hv⟩:=rZ Q;obtain⟨A,c,hu⟩:∃A c,a.eval u.2=.slice A n c:=by
      rcases Z.2 r hx hv with⟨g,ag,c,N',t',g0,g1,_⟩|⟨_,g1,A,g2⟩
      ·exact⟨_,_,g1⟩
      ·subst g1;exact⟨_,_,g2⟩
     obtain⟨z,R,S⟩:=ko (C ty τ I) w;have j:∀f∈F.toList,(T f.type).isSome=true:=by
      intro f U;rw[aiC]at k2;exact k2 (f.type,f.offset) (by rw[<- hF];exact aiq.2 ⟨f,U,rfl⟩)
     have m:(fun i=>(F.map fun f=>(f.offset,((T f.type).map (·.size)).getD 0))[i]?)=fieldAt T fs:=by
      funext i;simp only[fieldAt,<- hF,aio,Array.getElem?_map];rw[aji];cases W:F[i]? with
      | none=>rfl
      | some f =>
       have:=j f (by simpa using ajj W);cases hφ:T f.type with
       | none=>simp[hφ]at this
       | some φ=>simp[hφ]
     have i1:Instr.fill (fieldAt T fs) τ.zero.toArray (parts.toList.map fun p=>(p.1,a.eval p.2))=some #[a.eval u.2]:=by
      rw[O];simp only[aix,ajg,Instr.fill,B.1,k3,hu];obtain⟨G,X⟩:∃G,τ.zero=[G]:=by
       match ad:τ.zero,k4 with
       | [G],_=>exact⟨G,rfl⟩
      rw[X];rfl
     refine aN (v := .agg #[a.eval u.2]) (w':=w) ?_ (bd.ec H ⟨_,rfl,by rw[hu];rfl,Z⟩);have hm:=ot (P:=P) (w:=w) C F.toList j;have Y:(F.mapM fun f=>(do pure (f.offset,<- Go.sizeOf f.type):Sem (Nat×Nat))).run P w=.ok (F.map fun f=>(f.offset,((T f.type).map (·.size)).getD 0)) w:=by
      rw[ajk,Sem.run_map,hm];simp only[Result.andThen_ok];congr 1;apply Array.ext';simp
     rw[<- m]at i1;simp only[execOp,ho,Instr.build,aiY,R,Result.andThen_ok,run_underlying K,Y,S,ajl];rw[i1];rfl
    ·cases k
   ·rename_i fs x v s o' n J b;split at k
    ·rename_i y;obtain⟨k1,k2,k3,k4⟩:=y;simp only[aiA]at k;subst k;obtain⟨dd,K,hc⟩:=under C I;rw[J]at hc;obtain⟨F,rfl,hF⟩:=iV hc;obtain⟨u,O,B⟩:∃u,parts.toList=[u]∧(u.1,ev t u.2)=(0,D.box1 x v s o' n):=by
      cases m:parts.toList with
      | nil=>rw[m]at b;cases b
      | cons u l =>
       rw[m]at b;simp only[aix,aiP,List.map_eq_nil_iff]at b;exact⟨u,by rw[b.2],b.1⟩
     simp only[Prod.mk.injEq]at B;have Z:=H.ev u.2;rw[B.2]at Z;obtain⟨u',hu,aa,ae⟩:=Z;obtain⟨z,R,S⟩:=ko (C ty τ I) w;have j:∀f∈F.toList,(T f.type).isSome=true:=by
      intro f U;rw[aiC]at k2;exact k2 (f.type,f.offset) (by rw[<- hF];exact aiq.2 ⟨f,U,rfl⟩)
     have m:(fun i=>(F.map fun f=>(f.offset,((T f.type).map (·.size)).getD 0))[i]?)=fieldAt T fs:=by
      funext i;simp only[fieldAt,<- hF,aio,Array.getElem?_map];rw[aji];cases W:F[i]? with
      | none=>rfl
      | some f =>
       have:=j f (by simpa using ajj W);cases hφ:T f.type with
       | none=>simp[hφ]at this
       | some φ=>simp[hφ]
     have i1:Instr.fill (fieldAt T fs) τ.zero.toArray (parts.toList.map fun p=>(p.1,a.eval p.2))=some #[u']:=by
      rw[O];simp only[aix,ajg,Instr.fill,B.1,k3,hu];obtain⟨G,X⟩:∃G,τ.zero=[G]:=by
       match ad:τ.zero,k4 with
       | [G],_=>exact⟨G,rfl⟩
      rw[X];rfl
     refine aN (v := .agg #[u']) (w':=w) ?_ (bd.ec H ⟨u',rfl,aa,ae⟩);have hm:=ot (P:=P) (w:=w) C F.toList j;have Y:(F.mapM fun f=>(do pure (f.offset,<- Go.sizeOf f.type):Sem (Nat×Nat))).run P w=.ok (F.map fun f=>(f.offset,((T f.type).map (·.size)).getD 0)) w:=by
      rw[ajk,Sem.run_map,hm];simp only[Result.andThen_ok];congr 1;apply Array.ext';simp
     rw[<- m]at i1;simp only[execOp,ho,Instr.build,aiY,R,Result.andThen_ok,run_underlying K,Y,S,ajl];rw[i1];rfl
    ·cases k
   ·unfold cE at k;split at k
    ·rename_i cs hw hb;simp only[aiA]at k;subst k;refine (zx (e:=e) C H ho I hb).mono fun v w' hA =>?_;obtain⟨ab,h1,h2⟩:=hA;exact⟨ab,h1,bR (RP.jw (d := .agg cs) h2)⟩
    ·cases k
 ·exact zx C H ho I k
def xY (zs:List Value) (n:Nat) (j:Nat) (b:j<n*zs.length):(((Array.range (n*zs.length)).map fun i=>zs.toArray[i % zs.toArray.size]!).getD j undef)=zs.getD (j % zs.length) undef:=by
 have c:0<zs.length:=by
  rcases aiJ zs.length with a|a
  ·rw[a]at b;omega
  ·exact a
 have d:j % zs.length<zs.length:=ajm _ c;simp[b,d,List.getD]
def En (a:List D):∀(n j:Nat) (d:D),(oY n a)[j]? = some d->j<n*a.length∧a[j % a.length]? = some d
 | 0,j,d,h=>by simp[oY]at h
 | n+1,j,d,h=>by
  have e:oY (n+1) a=a++oY n a:=by simp[oY,List.replicate_succ]
  rw[e]at h
  by_cases b:j<a.length
  ·rw[ai5 b]at h;refine⟨?_,by rw[ajo b];exact h⟩;rw[ajp];omega
  ·rw[ai6 (by omega)]at h;obtain⟨f,c⟩:=En a n (j-a.length) d h;refine⟨by rw[ajp];omega,?_⟩;rw[Nat.mod_eq_sub_mod (by omega)];exact c
def s5 (n:Nat) (a:List D):(oY n a).length=n*a.length:=by
 simp[oY]
def uU {d e s n c:Nat} {g:Nat×Nat} {f:Nat} {b:Array Value} {h:Nat->Nat->Prop} {i:Nat->Option Row} {a:Nat->Option (Nat×Nat)} (j:h d e) (k:a d=some g) (l:w.heap[g.1]? = some (.cells b f (0,0))) (m:n<=c) (o:c<=maxLen) (p:c*s+g.2=b.size) :
  RT w M i a h (.buf d e s 0 n) (.slice (some ⟨g.1,g.2,none⟩) n c) :=
 ⟨j,fun _ _ _ =>.inl ⟨g,g.2,c,b.size,f,k,rfl,fun _=>⟨rfl,p⟩,m,o,by simp[World.shape?,l]⟩⟩
def Tx (n:Nat) (a:List D):oY n (a.map canon)=(oY n a).map canon:=by simp[oY,List.map_flatten]
def D4 (s:ji P T) (u:Inv N M L w0 blk V t h a w) {y len d:Nat} {parts:Array (Nat×Operand)} {τ:Ty} {E:ca} (X:o.op=.buildSlice y len parts) (Q:o.dst=some d) (Y:j0 N V d e) (Z:T y=some τ)
  (b:eL T τ h e d len (parts.toList.map fun p=>(p.1,ev t p.2))=some E):eE P o a w (bd N M L w0 V t h a e o.dst E):=by
 obtain⟨dd,A,R⟩:=under s Z;unfold eL at b;split at b
 ·rename_i el B;rw[B]at R;have:=gz R;subst this;split at b
  ·rename_i φ S;split at b
   ·rename_i c;obtain⟨c1,c2,c3,C⟩:=c;split at b
    ·rename_i D r hf;split at b
     ·rename_i aa;simp only[aiA]at b;subst b;obtain⟨z,F,G⟩:=ko (s el φ S) w;have m:(len*φ.size=0->((Array.range (len*φ.size)).map fun i=>φ.zero.toArray[i % φ.zero.toArray.size]!) = #[]):=by intro l;simp[l]
      obtain⟨cur',H,i2,i3,i4⟩:=u.jK hf (u.gj r) (cur:=(Array.range (len*φ.size)).map fun i=>φ.zero.toArray[i % φ.zero.toArray.size]!)
       (by rw[s5];simp[C]) (fun j x I=>by
        obtain⟨U,W⟩:=En _ _ _ _ I;simp only[aiV]at U W;rw[<- C,xY φ.zero len j U];have:=sD (w:=w) (M:=Own M (aR h (kb h r)) blk) φ.zero c3 _ x W;simpa [List.getD] using this)
      have J:=(u.freeze r).alloc (d:=d) (e:=e) (ty:=el) (lst:=true) (cs:=D.map canon) (vs:=cur') Y (by rw[aiV];omega) (fun j x I=>NP (f:=fun j=>cur'.getD j undef) i4 j x I);refine aN (v := .slice (some ⟨w.heap.size,0,none⟩) len len) (w':=w.alloc (.cells cur' el)) ?_ ⟨b6 blk d (some (w.heap.size,0)),?_,?_⟩
      ·have n:¬len*φ.size>2 ^ 24:=by omega
       simp only[execOp,X,Instr.buildSlice,aiY,run_underlying A,Result.andThen_ok,run_sizeOf (s _ _ S),if_neg n]
       by_cases l:len*φ.size=0
       ·have k:=m l;rw[k]at H;have K:((Array.range (len*φ.size)).map fun i=>(#[]:Array Value)[i % (#[]:Array Value).size]!) = #[]:=by simp[l]
        simp only[if_pos l,aiY,Sem.run_pure,Result.andThen_ok,ajl];rw[K,H];simp[newRow]
       ·simp only[if_neg l,aiY,F,Result.andThen_ok,Sem.run_pure,G,ajl];rw[H];simp[newRow]
      ·show Inv _ _ _ _ _ _ _ (aR h (kb h r++[(d,some ⟨e,el,D.map canon,false,true,false⟩)])) _ _;rw[ie];refine J.weaken fun x v O =>?_;rcases O with O|⟨rfl,rfl⟩
       ·exact .inl O
       ·exact .inr ⟨Q,rfl⟩
      ·have q:cur'.size=len*φ.size:=by
        rw[<- i2,i3,s5];simp[C]
       refine uU (g:=(w.heap.size,0)) (.inr ⟨Q,rfl⟩) (ax _ _ _) (heap_alloc_new w _) (air _) ?_ (by rw[q];simp);have:len<=len*φ.size:=Nat.le_mul_of_pos_right _ c2;simp only[maxLen];omega
     ·cases b
    ·cases b
   ·cases b
  ·cases b
 ·cases b
def yC {a:Nat->Prop} {d:D} {n:Nat} {u:Value} (b:sd d=some n) (c:RT w a h blk V d u):∃k,u=.int k n:=by
 obtain⟨k,rfl⟩:=oS b;exact⟨k,nI c⟩
def WQ (O:ji P T) (y:Inv N M L w0 blk V t h a w) {u d:Nat} {l c:Operand} {τ:Ty} {E:ca} (Z:o.op=.makeSlice u l c) (Q:o.dst=some d) (hV:j0 N V d e) (hτ:T u=some τ)
  (b:sY T τ e d (ev t l) (ev t c)=some E):eE P o a w (bd N M L w0 V t h a e o.dst E):=by
 have A:=y.ev l;have B:=y.ev c;obtain⟨dd,C,R⟩:=under O hτ;unfold sY at b;split at b
 ·rename_i el D;rw[D]at R;have:=gz R;subst this;split at b
  ·rename_i φ n k hφ hn hk;split at b
   ·rename_i q;obtain⟨F,S,c3,c4,c5,U⟩:=q;simp only[aiA]at b;subst b;obtain⟨q1,hl⟩:=yC hn A;obtain⟨q2,G⟩:=yC hk B;obtain⟨d',i,z,g1,g2,g3,W,g5,g6,g7⟩:=(O el φ hφ).get;have hb:(i.bytes:Int)*(k:Int)<=281474976710656:=by
     have:((i.bytes*k:Nat):Int)<=281474976710656:=by
      rw[g5,ajq];omega
     rwa [ajr]at this
    have r:(k:Int)<=9223372036854775807:=by
     simp only[maxLen]at S;omega
    have p:=run_make (P:=P) w u el i z C g3 g6 q1 q2 n k (by omega) (by omega) hb r;simp only[Int.toNat_natCast]at p;have m:∀j x,(oY n (φ.zero.map pq))[j]? = some x->bn x=true∧RP w (Own M h blk) x ((madeCells z.cells (k*i.size)).getD j undef):=by
     intro j x H;obtain⟨X,Y⟩:=En _ _ _ _ H;simp only[aiV]at X Y;have I:j<k*φ.zero.length:=aiu X (ajd _ F);have:=sD (w:=w) (M:=Own M h blk) φ.zero c5 _ x Y;refine⟨this.1,?_⟩;have he:(madeCells z.cells (k*i.size)).getD j undef=φ.zero.toArray.getD (j % φ.zero.length) undef:=by
      rw[g7,W,<- U];have:=xY φ.zero k j I;simpa [madeCells,List.getD] using this
     rw[he];exact this.2
    have s:(madeCells z.cells (k*i.size)).size=k*φ.size:=by simp[madeCells,W]
    have J:=y.alloc (d:=d) (e:=e) (ty:=el) (lst:=true) (cs:=oY n ((φ.zero.map pq).map canon)) (vs:=madeCells z.cells (k*i.size)) hV (by rw[s5,s];simp only[aiV,U];exact ajd _ F) (fun j x H=>NP (f:=fun j=>(madeCells z.cells (k*i.size)).getD j undef) m j x (by rw[<- Tx];exact H));refine aN (v := .slice (some ⟨w.heap.size,0,none⟩) n k) (w':=w.alloc (.cells (madeCells z.cells (k*i.size)) el)) ?_ ⟨b6 blk d (some (w.heap.size,0)),?_,?_⟩
    ·simp[execOp,Z,hl,G,p]
    ·refine J.weaken fun x v K =>?_;rcases K with K|⟨rfl,rfl⟩
     ·exact .inl K
     ·exact .inr ⟨Q,rfl⟩
    ·exact uU (g:=(w.heap.size,0)) (.inr ⟨Q,rfl⟩) (ax _ _ _) (heap_alloc_new w _) F S (by rw[s];simp)
   ·cases b
  ·cases b
 ·cases b
def aaG {a:BinOp} {ty:Nat} {k:IntKind} {x y:Int} {d:D} (c:mB a=false) (h:jl a k x y=some d):∃v,(binOp a ty (.int k x) (.int k y)).run P w=.ok v w∧RP w M d v:=by
 cases a with
 | shl=>simp[mB]at c
 | shr=>simp[mB]at c
 | quo =>
  simp only[jl]at h;split at h
  ·cases h
  ·rename_i b;simp only[aiA]at h;subst h;exact⟨_,by simp[binOp,Op.intDiv,b],.int _ _⟩
 | rem =>
  simp only[jl]at h;split at h
  ·cases h
  ·rename_i b;simp only[aiA]at h;subst h;exact⟨_,by simp[binOp,Op.intDiv,b],.int _ _⟩
 | add=>simp only[jl,aiA]at h;subst h;exact⟨_,by simp[binOp,Op.intArith],.int _ _⟩
 | sub=>simp only[jl,aiA]at h;subst h;exact⟨_,by simp[binOp,Op.intArith],.int _ _⟩
 | mul=>simp only[jl,aiA]at h;subst h;exact⟨_,by simp[binOp,Op.intArith],.int _ _⟩
 | and=>simp only[jl,aiA]at h;subst h;exact⟨_,by simp[binOp,Op.intBits,EW],.int _ _⟩
 | or=>simp only[jl,aiA]at h;subst h;exact⟨_,by simp[binOp,Op.intBits,EW],.int _ _⟩
 | xor=>simp only[jl,aiA]at h;subst h;exact⟨_,by simp[binOp,Op.intBits,EW],.int _ _⟩
 | andNot=>simp only[jl,aiA]at h;subst h;exact⟨_,by simp[binOp,Op.intBits,EW],.int _ _⟩
 | eql=>simp only[jl,aiA]at h;subst h;exact⟨_,by simp[binOp,Op.intCmp],.bool _⟩
 | neq=>simp only[jl,aiA]at h;subst h;exact⟨_,by simp[binOp,Op.intCmp],.bool _⟩
 | lss=>simp only[jl,aiA]at h;subst h;exact⟨_,by simp[binOp,Op.intCmp],.bool _⟩
 | leq=>simp only[jl,aiA]at h;subst h;exact⟨_,by simp[binOp,Op.intCmp],.bool _⟩
 | gtr=>simp only[jl,aiA]at h;subst h;exact⟨_,by simp[binOp,Op.intCmp],.bool _⟩
 | geq=>simp only[jl,aiA]at h;subst h;exact⟨_,by simp[binOp,Op.intCmp],.bool _⟩
def TB {a:BinOp} {ty:Nat} {k k':IntKind} {x y:Int} {d:D} (b:mB a=true) (h:Ap a k x y=some d):∃v,(binOp a ty (.int k x) (.int k' y)).run P w=.ok v w∧RP w M d v:=by
 unfold Ap at h;split at h
 ·cases h
 ·rename_i c;cases a<;>simp only[mB,ai1]at b<;>simp only[aiA]at h<;>subst h<;>exact⟨_,by simp[binOp,Op.shift,c],.int _ _⟩
def aaI {a:BinOp} {ty:Nat} {x y:ByteArray} {d:D} (h:Ix a x y=some d):∃v,(binOp a ty (.string x) (.string y)).run P w=.ok v w∧RP w M d v:=by
 cases a with
 | add =>
  simp only[Ix]at h;split at h
  ·cases h
  ·rename_i b;simp only[aiA]at h;subst h;refine⟨_,?_,.str _⟩;simp only[binOp,Op.stringOp];rw[if_neg b];rfl
 | eql=>simp only[Ix,aiA]at h;subst h;exact⟨_,by simp[binOp,Op.stringOp],.bool _⟩
 | neq=>simp only[Ix,aiA]at h;subst h;exact⟨_,by simp[binOp,Op.stringOp],.bool _⟩
 | lss=>simp only[Ix,aiA]at h;subst h;exact⟨_,by simp[binOp,Op.stringOp],.bool _⟩
 | leq=>simp only[Ix,aiA]at h;subst h;exact⟨_,by simp[binOp,Op.stringOp],.bool _⟩
 | gtr=>simp only[Ix,aiA]at h;subst h;exact⟨_,by simp[binOp,Op.stringOp],.bool _⟩
 | geq=>simp only[Ix,aiA]at h;subst h;exact⟨_,by simp[binOp,Op.stringOp],.bool _⟩
 | _=>simp[Ix]at h
end
end Go.Proofs.YtokgehacmjmfkaaGreat.Am
