import Derived.WalkKit
import Derived.Orders
import Derived.Maps.AppendAt
import Derived.Laws.OwnMore
import Derived.Laws.CopyRow
import Derived.Laws.Concat
import Derived.Laws.Cover3
import Derived.WalkSmall
import Derived.MapKept
import Derived.ArgAppend
import Derived.Deep.LoopGhost
import Derived.Maps.RangeRun
import Derived.Test.YtobnihfgnbnncaaGreatChecked
import Derived.KernelRfl
import GoSem.Claim
import Derived.RowKit
import Derived.Sort.Grow
import Derived.OpenShut
import Derived.Deep.Slices
import Derived.WideKeyArgs
import Derived.SizedLaws
import Derived.ProofKit
import Derived.Below
import Derived.Handed
import Derived.Lib.ItoaMem
import Derived.Lib.SlicesCompact
import Derived.Shelf.Sort.Plain
import Derived.Shelf.Slices.In.SortNone
import Derived.Ground.NamesProg
import Derived.Shelf.SlIterI.Sorted
import Derived.Shelf.SlGeneric
import Derived.Ground.GgzProg
import Derived.Shelf.SlSortCmp.NoneTotal
import Derived.Ground.SlsfProg
import Derived.Test.YtobnihfgnbnncaaGreatProg
import Derived.Shelf.Spec.SlicesInsertGrow
import Derived.RangeFuncBox
import Derived.RangeFuncNested
import Derived.RangeFuncLeaves
import Derived.Shelf.Abstract
import Derived.OwnWalkIn
import Derived.TacticsInMore
import Derived.LoopNIn
import Derived.LoopIn
import Derived.Test.YtobnihfgnbnncaaGreatRows
import Derived.Lib.LaidTab
import Derived.Lib.ItoaNum
import Derived.LaidMore
import Derived.LaidHandle
import Derived.MakeChecks
import Derived.Stop.LaidErr
import Derived.Lib.SlicesDelete
import Derived.Shelf.RegionOpenPlain
import Derived.Deep.RegionLaw
import Derived.Lib.Walk
import Derived.Shelf.GgSortFunc.InsertionK
import Derived.Shelf.SlSortCmp.Insertion
import Derived.Lib.Small
import Derived.StillTailTactics
set_option linter.unusedSimpArgs false
set_option linter.unusedVariables false
set_option linter.defProp false
noncomputable section
open Go.Proofs.Tryz
namespace Go.Proofs.YtobnihfgnbnncaaGreat
def am2:=@World.cell?_of_block
def am3:=@List.getElem?_map.{0,0}
def am4:=@Option.map_eq_some_iff.{0,0}
def am5:=@List.mem_map.{0,0}
def am6:=@Nat.le_refl
def am7:=@Nat.zero_le
def am8:=@Nat.le_trans
def am9:=@Nat.lt_of_lt_of_le
def ana:=@Array.getD_eq_getD_getElem?.{0}
def anb:=@List.map_cons.{0,0}
def anc:=@List.mem_cons.{0}
def ane:=@Option.map_some.{0,0}
def anf:=@Option.some.injEq.{0}
def ang:=@Array.getElem?_modify.{0}
def anh:=@List.all_eq_true.{0}
def ani:=@List.getElem_mem.{0}
def anj:=@List.getElem?_eq_getElem.{0}
def ank:=@List.mem_append_left.{0}
def anl:=@List.mem_append_right.{0}
def anm:=@Nat.eq_zero_or_pos
def ann:=@List.length_take.{0}
def ano:=@List.length_drop.{0}
def anp:=@Nat.add_assoc
def anq:=@List.getElem?_of_mem.{0}
def anr:=@List.mem_singleton.{0}
def ans:=@List.cons.injEq.{0}
def ant:=@List.getElem?_drop.{0}
def anu:=@List.getElem?_cons_zero.{0}
def anv:=@List.mem_of_getElem?.{0}
def anw:=@List.getElem?_take.{0}
def anx:=@List.getElem?_eq_some_iff.{0}
def anz:=@List.length_map.{0,0}
def anA:=@List.length_range
def anB:=@Sem.run_bind
def anC:=@Result.andThen_ok
def anD:=@Bool.false_eq_true
def anE:=@Nat.add_zero
def anF:=@Bool.and_eq_true
def anG:=@List.getD_eq_getElem?_getD.{0}
def anH:=@Array.length_toList.{0}
def anI:=@List.mem_of_mem_drop.{0}
def anJ:=@Sem.run_pure
def anK:=@List.mem_of_mem_take.{0}
def anL:=@Nat.lt_or_ge
def anM:=@Nat.mul_le_mul_right
def anN:=@List.foldl_cons.{0,0}
def anO:=@List.length_cons.{0}
def anP:=@List.map_nil.{0,0}
def anQ:=@Option.getD_some.{0}
def anR:=@Array.mapM_eq_mapM_toList.{0,0,0}
def anS:=@Array.toList_map.{0,0}
def anT:=@Nat.mod_lt
def anU:=@List.replicate_succ.{0}
def anV:=@List.getElem?_append_left.{0}
def anW:=@Nat.mod_eq_of_lt
def anX:=@List.getElem?_append_right.{0}
def anY:=@Int.toNat_natCast
def anZ:=@List.idxOf_cons.{0}
def an0:=@List.contains_cons.{0}
def an1:=@Bool.false_or
def an2:=@List.getD_cons_zero.{0}
def an3:=@List.getD_cons_succ.{0}
def an4:=@List.getElem?_cons_succ.{0}
def an5:=@Nat.zero_add
def an6:=@Array.getElem?_eq_some_iff.{0}
def an7:=@List.length_append.{0}
def an8:=@List.length_nil.{0}
def an9:=@Array.getElem?_toList.{0}
def aoa:=@Nat.sub_self
def aob:=@Array.getElem?_eq_getElem.{0}
def aoc:=@Array.ext.{0}
def aod:=@List.eq_nil_of_length_eq_zero.{0}
def aoe:=@List.size_toArray.{0}
def aof:=@List.map_append.{0,0}
def aog:=@List.mem_flatMap.{0,0}
def aoh:=@List.mem_append.{0}
def aoi:=@List.mem_cons_self.{0}
def aoj:=@List.mem_cons_of_mem.{0}
def aok:=@List.toList_toArray.{0}
def aol:=@Array.toList_append.{0}
def aom:=@List.map_congr_left.{0,0}
def aon:=@List.not_mem_nil.{0}
def aoo:=@Option.bind_some.{0,0}
def aop:=@List.mem_filter.{0}
def aoq:=@List.pairwise_cons.{0}
def aor:=@Bool.not_true
def aos:=@List.mem_range
def aot:=@List.pairwise_lt_range
def aou:=@Nat.zero_lt_one
def aov:=@Nat.le_of_ble_eq_true
def aow:=@List.drop_append.{0}
def aox:=@List.drop_eq_nil_of_le.{0}
def aoy:=@List.nil_append.{0}
def aoz:=@Nat.succ_mul
def aoA:=@Nat.add_sub_cancel
def aoB:=@List.drop_drop.{0}
def aoC:=@List.take_append_drop.{0}
def aoD:=@Nat.zero_mul
def aoE:=@List.drop_zero.{0}
def aoF:=@List.take_of_length_le.{0}
def aoG:=@Nat.div_lt_of_lt_mul
def aoH:=@List.length_pos_iff.{0}
def aoI:=@List.append_nil.{0}
def aoJ:=@List.cons_append.{0}
def aoK:=@List.append_assoc.{0}
def aoL:=@List.drop_succ_cons.{0}
def aoM:=@List.take_succ_cons.{0}
def aoN:=@List.append_inj.{0}
def aoO:=@List.drop_eq_getElem_cons.{0}
def aoP:=@List.take_zero.{0}
def aoQ:=@Nat.add_sub_cancel_left
def aoR:=@List.take_append_of_le_length.{0}
def aoS:=@List.drop_append_of_le_length.{0}
def aoT:=@Option.isSome_some.{0}
def aoU:=@Bool.true_and
def aoV:=@Nat.one_ne_zero
def aoW:=@List.length_set.{0}
def aoX:=@Nat.min_eq_left
def aoY:=@List.take_length.{0}
def aoZ:=@List.ext_getElem?.{0}
def ao0:=@Option.some.inj.{0}
def ao1:=@Nat.mul_pos
def ao2:=@Nat.div_add_mod
def ao3:=@List.pairwise_map.{0,0}
def ao4:=@List.pairwise_iff_getElem.{0}
def ao5:=@List.getElem_of_mem.{0}
def ao6:=@Int.mul_le_mul_of_nonneg_left
def ao7:=@Int.mul_add
def ao8:=@Int.mul_assoc
def ao9:=@Nat.and_two_pow_sub_one_eq_mod
def apa:=@Int.ediv_nonneg
def apb:=@Int.ediv_lt_of_lt_mul
def apc:=@Int.emod_lt_of_pos
def apd:=@Int.mul_ediv_add_emod
def ape:=@Int.mul_nonneg
def apf:=@Int.mul_le_mul
def apg:=@Int.mul_le_mul_of_nonneg_right
def aph:=@Nat.div_eq_of_lt
def api:=@Int.mul_zero
def apj:=@Int.add_zero
def apk:=@Int.natCast_mul
def apl:=@Int.natAbs_mul
def apm:=@List.getLast?_eq_some_getLast.{0}
def apn:=@Int.sign_eq_one_of_pos
def apo:=@Nat.pos_of_ne_zero
def apq:=@Nat.gcd_le_right
def apr:=@Rat.divInt_ofNat
def aps:=@Int.sign_eq_neg_one_of_neg
def apt:=@Nat.le_of_not_lt
def apu:=@List.head?_drop.{0}
def apv:=@List.getElem?_mapIdx.{0,0}
def apw:=@List.take_succ_eq_append_getElem.{0}
def apx:=@Nat.mul_le_mul
def apy:=@List.filter_append.{0}
def apz:=@List.range_succ
def apA:=@Rat.mul_nonneg
def apB:=@List.filter_cons_of_pos.{0}
def apC:=@List.length_filter_le.{0}
def apD:=@Nat.pow_le_pow_right
def apE:=@Bool.true_eq_false
def apF:=@Rat.divInt_eq_div
def apG:=@Array.replicate_succ.{0}
def apH:=@Array.replicate_zero.{0}
def apI:=@List.push_toArray.{0}
def apJ:=@List.append_toArray.{0}
def apK:=@Addr.add_lit
def apL{α:Type}{a:α}:a=a:=Eq.trans rfl rfl
end Go.Proofs.YtobnihfgnbnncaaGreat
namespace Go.Proofs.YtobnihfgnbnncaaGreat.Am
open Go.RowKit
abbrev eE:=Int×Option Int
def oY:eE->Value
 | (n,none) =>.int .i64 n
 | (a,some b) =>.agg #[.int .i64 a,.int .i64 b]
def LU(k:eE):Bool:=k.2.isSome
theorem ael{k c:eE}(h:oY k=oY c):k=c:=by
 obtain⟨a,x⟩:=k;obtain⟨b,y⟩:=c;cases x<;>cases y<;>simp[oY]at h
 ·subst h;rfl
 simp_all
inductive D where
 | int (k:IntKind) (n:Int)
 | bool (b:Bool)
 | str (s:ByteArray)
 | sl (nl tight:Bool) (n:Nat) (xs:List D)
 | ptr (x v o:Nat)
 | ip (xs:List D)
 | buf (x v s o n:Nat)
 | agg (xs:List D)
 | tup (xs:List D)
 | fn (f:Nat)
 | clo (f k:Nat) (caps:List D)
 | ali (x v s o n:Nat)
 | box1 (x v s o n:Nat)
 | mp (x v:Nat)
 | mpc (ks:List eE) (vs:List D)
 | alm (x v:Nat)
 | pm (x v y:Nat)
 | ph (x s n:Nat)
 | nx (n:Nat) (xs:List D)
 | nr (ty s nv:Nat) (cs:List D)
 | und
 | skp
structure Row where
 v:Nat
 ty:Nat
 cells:List D
 fz:Bool
 lst:Bool
 mp:Bool:=false
def bH:D->Bool
 | .int _ _ | .bool _ | .str _ | .sl _ _ _ _ | .ali _ _ _ _ _ | .mpc _ _ | .alm _ _=>true
 | _=>false
def canon:D->D
 | .sl _ _ n xs =>.sl false false n xs
 | d=>d
def kJ:D->D
 | .sl _ _ n xs =>.sl false false n xs
 | .agg xs =>.agg (xs.map canon)
 | d=>d
def cq{α:Type}(f:Nat->α)(i:Nat)(v:α):Nat->α:=fun j=>if j=i then v else f j
inductive Ds where
 | int (k:IntKind)|bool|str
 | struct (fs:List (Nat×Nat))
 | slice (e:Nat)
 | arr (n e:Nat)
 | map (k e:Nat)
 | other
structure Ty where
 ds:Ds
 size:Nat
 bytes:Nat
 zero:List Value
 eqok:Bool:=false
def conv:TypeDesc->Ds
 | .int k =>.int k
 | .bool =>.bool
 | .string =>.str
 | .struct F =>.struct (F.toList.map fun f=>(f.type,f.offset))
 | .slice e =>.slice e
 | .array n e =>.arr n e
 | .map k e =>.map k e
 | _ =>.other
def sf:Value->D
 | .int k n =>.int k n
 | .bool b =>.bool b
 | .string s =>.str s
 | .slice none 0 0 =>.sl true true 0 []
 | .map none =>.mpc [] []
 | _ =>.und
def Ds.xt:Ds->Bool
 | .struct _ | .arr _ _=>true
 | _=>false
def ev(t:Nat->D):Operand->D
 | .tmp i=>t i
 | .const v=>sf v
 | .global _ =>.und
 | .func f =>.fn f
def WG:Value->Bool
 | .agg _=>true
 | _=>false
structure eY(P:Program)(t:Nat)(τ:Ty):Prop where
 desc:(P.underlying t).map conv=some τ.ds
 info:(P.info? t).map (fun i=>(i.size,i.bytes,i.zero.map fun z=>z.cells.toList))=some (τ.size,τ.bytes,some τ.zero)
 agg:(P.info? t).map (fun i=>i.zero.map WG)=some (some τ.ds.xt)
 eqs:τ.eqok=true->P.stoodInHeld t=false∧P.eqGuardType P.depth t=false∧(match P.underlying t with|some (.struct F)=>F.all (fun f=>f.name != "_")|_=>true)=true
def km(P:Program)(T:Nat->Option Ty):Prop:=∀t τ,T t=some τ->eY P t τ
inductive RP(w:World)(M:Nat->Prop):D->Value->Prop
 | int (k:IntKind) (n:Int):RP w M (.int k n) (.int k n)
 | bool (b:Bool):RP w M (.bool b) (.bool b)
 | str (s:ByteArray):RP w M (.str s) (.string s)
 | sl (A:Option Addr) (c:Nat) (nl tight:Bool) (n:Nat) (xs:List D) (us:Nat->Value) (h1:n<=c) (h2:c<=maxLen) (h3:nl=true->(tight=true->A=none∧c=0)∧(tight=false->A≠none)) (h4:A=none->n=0∧c=0)
   (h5:tight=true->c=n) (h6:xs≠[]->∃b o,A=some ⟨b,o,none⟩∧b<w.heap.size∧¬M b∧∀j,j<xs.length->w.cell? ⟨b,o+j,none⟩=some (us j))
   (h7:∀j x,xs[j]? = some x->RP w M x (us j)) (h8:∀x∈xs,bH x=true):RP w M (.sl nl tight n xs) (.slice A n c)
 | ip (xs:List D) (ad:Addr) (us:Nat->Value) (h6:xs≠[]->∃b o,ad=⟨b,o,none⟩∧b<w.heap.size∧¬M b∧∀j,j<xs.length->w.cell? ⟨b,o+j,none⟩=some (us j))
   (h7:∀j x,xs[j]? = some x->RP w M x (us j)) (h8:∀x∈xs,bH x=true):RP w M (.ip xs) (.pointer (some ad))
 | agg (xs:List D) (us:List Value) (h1:us.length=xs.length) (h2:∀j x,xs[j]? = some x->RP w M x (us.getD j undef)) (h3:∀x∈xs,bH x=true):RP w M (.agg xs) (.agg us.toArray)
 | tup (xs:List D) (us:List Value) (h1:us.length=xs.length) (h2:∀j x,xs[j]? = some x->RP w M x (us.getD j undef)):RP w M (.tup xs) (.tuple us.toArray)
 | fn (f:Nat):RP w M (.fn f) (.func (.func f) #[] #[])
 | ali (x v s o n:Nat) (u:Value) (h1:u.oneCell'=true):RP w M (.ali x v s o n) u
 | alm (x v:Nat) (u:Value) (h1:u.oneCell'=true):RP w M (.alm x v) u
 | mpc (ks:List eE) (vs:List D) (mb:Option Nat) (us:Nat->Value) (h1:vs.length=ks.length) (h2:mb=none->ks=[])
   (h3:∀b,mb=some b->b<w.heap.size∧¬M b∧∃(ents:Array MapEntry)(clock:Nat),w.heap[b]? = some (.map ents clock)∧ents.size=ks.length∧∀j k,ks[j]? = some k->∃e:MapEntry,ents[j]? = some e∧e.key=oY k∧e.val=us j)
   (h4:∀j x,vs[j]? = some x->RP w M x (us j)):RP w M (.mpc ks vs) (.map mb)
 | clo (f k:Nat) (xs:List D) (us:List Value) (h1:us.length=xs.length) (h2:∀j x,xs[j]? = some x->RP w M x (us.getD j undef)):RP w M (.clo f k xs) (.func (.func f) (us.take k).toArray (us.drop k).toArray)
def RP.keep{w l:World}{M B:Nat->Prop}(C:∀b,b<w.heap.size->¬M b->b<l.heap.size∧¬B b∧l.heap[b]? = w.heap[b]?){d:D}{u:Value}(h:RP w M d u):RP l B d u:=by
 induction h with
 | int k n=>exact .int k n
 | bool b=>exact .bool b
 | str s=>exact .str s
 | sl A c nl tight n xs us h1 h2 h3 h4 h5 h6 h7 h8 e =>
  refine .sl A c nl tight n xs us h1 h2 h3 h4 h5 (fun g =>?_) e h8;obtain⟨b,o,m,i,p,q⟩:=h6 g;obtain⟨r,t,y⟩:=C b i p;exact⟨b,o,m,r,t,fun j z=>(am2 (a:=⟨b,o+j,none⟩) y).trans (q j z)⟩
 | ip xs ad us h6 h7 h8 e =>
  refine .ip xs ad us (fun g =>?_) e h8;obtain⟨b,o,m,i,p,q⟩:=h6 g;obtain⟨r,t,y⟩:=C b i p;exact⟨b,o,m,r,t,fun j z=>(am2 (a:=⟨b,o+j,none⟩) y).trans (q j z)⟩
 | agg xs us h1 h2 h3 e=>exact .agg xs us h1 e h3
 | tup xs us h1 h2 e=>exact .tup xs us h1 e
 | fn f=>exact .fn f
 | ali x v s o n u h1=>exact .ali x v s o n u h1
 | alm x v u h1=>exact .alm x v u h1
 | mpc ks vs mb us h1 h2 h3 h4 e =>
  refine .mpc ks vs mb us h1 h2 (fun b i =>?_) e;grind
 | clo f E xs us h1 h2 e=>exact .clo f E xs us h1 e
def RP.canon{w:World}{M:Nat->Prop}{d:D}{u:Value}(h:RP w M d u):RP w M (canon d) u:=by
 cases h with
 | sl A c nl tight n xs us h1 h2 h3 a h5 e g i=>exact .sl A c false false n xs us h1 h2 (fun h=>by cases h) a (fun h=>by cases h) e g i
 | int k n=>exact .int k n
 | bool b=>exact .bool b
 | str s=>exact .str s
 | ip xs ad us e g i=>exact .ip xs ad us e g i
 | agg xs us h1 h2 h3=>exact .agg xs us h1 h2 h3
 | tup xs us h1 h2=>exact .tup xs us h1 h2
 | fn f=>exact .fn f
 | ali x v s o n u h1=>exact .ali x v s o n u h1
 | alm x v u h1=>exact .alm x v u h1
 | mpc ks vs mb us h1 h2 h3 a=>exact .mpc ks vs mb us h1 h2 h3 a
 | clo f j xs us h1 h2=>exact .clo f j xs us h1 h2
theorem qq(d:D):bH (canon d)=bH d:=by cases d<;>rfl
def RP.kJ{w:World}{M:Nat->Prop}{d:D}{u:Value}(h:RP w M d u):RP w M (kJ d) u:=by
 cases h with
 | agg xs us h1 h2 h3 =>
  refine .agg _ us (by simpa using h1) (fun j x m =>?_) (fun x p =>?_)
  ·rw[am3,am4]at m;obtain⟨y,a,rfl⟩:=m;exact (h2 j y a).canon
  ·obtain⟨y,a,rfl⟩:=am5.1 p;rw[qq];exact h3 y a
 | sl A c nl tight n xs us h1 h2 h3 e h5 g i l=>exact .sl A c false false n xs us h1 h2 (fun h=>by cases h) e (fun h=>by cases h) g i l
 | int k n=>exact .int k n
 | bool b=>exact .bool b
 | str s=>exact .str s
 | ip xs ad us g i l=>exact .ip xs ad us g i l
 | tup xs us h1 h2=>exact .tup xs us h1 h2
 | fn f=>exact .fn f
 | ali x v s o n u h1=>exact .ali x v s o n u h1
 | alm x v u h1=>exact .alm x v u h1
 | mpc ks vs mb us h1 h2 h3 e=>exact .mpc ks vs mb us h1 h2 h3 e
 | clo f q xs us h1 h2=>exact .clo f q xs us h1 h2
def RC(w:World)(M:Nat->Prop)(h:Nat->Option Row)(blk:Nat->Option (Nat×Nat))(V:Nat->Nat->Prop):D->Value->Prop
 | .ptr x v o,u=>V x v∧∀r,h x=some r->r.v=v->∃g,blk x=some g∧u=.pointer (some ⟨g.1,g.2+o,none⟩)
 | .mp x v,u=>V x v∧∀r,h x=some r->r.v=v->∃g,blk x=some g∧u=.map (some g.1)
 | .pm x v _,u=>V x v∧∀r,h x=some r->r.v=v->∃g,blk x=some g∧u=.pointer (some ⟨g.1,g.2+0,none⟩)
 | d,u=>RP w M d u
def RT(w:World)(M:Nat->Prop)(h:Nat->Option Row)(blk:Nat->Option (Nat×Nat))(V:Nat->Nat->Prop):D->Value->Prop
 | .ptr x v o,u=>V x v∧∀r,h x=some r->r.v=v->∃g,blk x=some g∧u=.pointer (some ⟨g.1,g.2+o,none⟩)
 | .buf x v s o n,u=>V x v∧∀r,h x=some r->r.v=v ->
   (∃g o' c N t,blk x=some g∧u=.slice (some ⟨g.1,o',none⟩) n c∧(0<c∨o=0->o'=g.2+o∧c*s+o'=N)∧n<=c∧c<=maxLen∧w.shape? g.1=some (t,N))∨(blk x=none∧n=0∧∃A,u=.slice A 0 0)
 | .clo f e xs,u=>∃a:List Value,u=.func (.func f) (a.take e).toArray (a.drop e).toArray∧a.length=xs.length∧∀(j:Nat) x,xs[j]? = some x->RC w M h blk V x (a.getD j undef)
 | .mp x v,u=>V x v∧∀r,h x=some r->r.v=v->∃g,blk x=some g∧u=.map (some g.1)
 | .pm x v _,u=>V x v∧∀r,h x=some r->r.v=v->∃g,blk x=some g∧u=.pointer (some ⟨g.1,g.2+0,none⟩)
 | .box1 x v s o n,u=>∃b:Value,u=.agg #[b]∧b.oneCell'=true∧V x v∧∀r,h x=some r->r.v=v ->
   (∃g o' c N t,blk x=some g∧b=.slice (some ⟨g.1,o',none⟩) n c∧(0<c∨o=0->o'=g.2+o∧c*s+o'=N)∧n<=c∧c<=maxLen∧w.shape? g.1=some (t,N))∨(blk x=none∧n=0∧∃A,b=.slice A 0 0)
 | .und,_=>True
 | .skp,u=>u=undef
 | d,u=>RP w M d u
def Own(M:Nat->Prop)(h:Nat->Option Row)(blk:Nat->Option (Nat×Nat))(b:Nat):Prop:=M b∨∃x r g,h x=some r∧r.fz=false∧blk x=some g∧g.1=b
def acy(w:World)(M:Nat->Prop)(g:Nat×Nat)(r:Row):Prop :=
 ∃a:Array Value,w.heap[g.1]? = some (.cells a r.ty (0,0))∧g.2+r.cells.length<=a.size∧∀j d,r.cells[j]? = some d->bH d=true∧RP w M d (a.getD (g.2+j) undef)
def af9(w:World)(M:Nat->Prop)(g:Nat×Nat)(c:List eE)(f:List D):Prop :=
 ∃(a:Array MapEntry)(b:Nat),w.heap[g.1]? = some (.map a b)∧a.size=c.length∧MapKept.Stamped a b∧∃d:Nat->Value,(∀j k,c[j]? = some k->∃e:MapEntry,a[j]? = some e∧e.key=oY k∧e.val=d j)∧∀j x,f[j]? = some x->RP w M x (d j)
def QW(w:World)(M:Nat->Prop)(g:Nat×Nat)(m:Nat)(f:List eE)(n:List D):Prop :=
 g.2=0∧∃(b:Nat)(d:Array MapEntry)(a:Nat)(seen:Array Nat)(c l:List Nat)(h:Nat->Value),w.heap[g.1]? = some (.mapIter (some b) a seen a)∧b<w.heap.size∧¬M b∧w.heap[b]? = some (.map d a)∧MapKept.Stamped d a ∧
  c.length=m-900000∧c.length<=1∧(c++l).length=f.length∧l.Nodup∧(∀i,i∈l↔∃e:MapEntry,d[i]? = some e∧seen.contains e.born=false)∧(∀i,i∈c->∃e:MapEntry,d[i]? = some e∧seen.back? = some e.born) ∧
  (∀j k,f[j]? = some k->∃(i:Nat)(e:MapEntry),(c++l)[j]? = some i∧d[i]? = some e∧e.key=oY k∧e.val=h j)∧∀j x,n[j]? = some x->RP w M x (h j)
def Db(w:World)(M:Nat->Prop)(g:Nat×Nat)(r:Row):Prop :=
 ∃a b,r.cells=[.mpc a b]∧b.length=a.length∧(r.ty<900000->af9 w M g a b)∧(900000<=r.ty->QW w M g r.ty a b)
def phC:D->Bool
 | .ph _ _ _ | .und | .int _ _ | .bool _ | .str _ | .sl _ _ _ _=>true
 | _=>false
def HM(w:World)(M:Nat->Prop):D->Value->Prop
 | .ph _ _ _,_=>True
 | .und,_=>True
 | d,u=>RP w M d u
def HN(w:World)(M:Nat->Prop)(g:Nat×Nat)(r:Row):Prop:=(∀d∈r.cells,phC d=true)∧∃a:Array Value,w.heap[g.1]? = some (.cells a r.ty (0,0))∧g.2+r.cells.length<=a.size∧∀j d,r.cells[j]? = some d->HM w M d (a.getD (g.2+j) undef)
def fp(w:World)(M:Nat->Prop)(g:Nat×Nat)(r:Row):Prop :=
 match r.mp with
 | true=>Db w M g r∨HN w M g r
 | false=>acy w M g r
def X5(L:Nat->Prop)(w0 w:World)(M:Nat->Prop)(g:Option (Nat×Nat))(r:Row):Prop :=
 match g with
 | some g=>(w0.heap.size<=g.1∨L g.1)∧fp w M g r
 | none=>r.cells=[]
def afz:Option Nat:=none
def ajb:Array Value:=((List.range 20).map fun i=>Value.int .u64 ((10 ^ i:Nat):Int)).toArray
structure X8(w:World)(M:Nat->Prop)(b:Nat):Prop where
 lt:b<w.heap.size
 no:¬M b
 is:∃ty fr,w.heap[b]? = some (.cells ajb ty fr)
def X8.less{w:World}{M1 a:Nat->Prop}{b:Nat}(h:X8 w M1 b)(c:∀b,a b->M1 b):X8 w a b:=⟨h.lt,fun d=>h.no (c _ d),h.is⟩
def aav(w:World)(M:Nat->Prop):Prop:=∀b,afz=some b->X8 w M b
def aav.keep{w a:World}{M c:Nat->Prop}(d:∀b,b<w.heap.size->¬M b->b<a.heap.size∧¬c b∧a.heap[b]? = w.heap[b]?)(h:aav w M):aav a c:=fun b e=>by
 obtain⟨f,g,i,j,k⟩:=h b e;obtain⟨l,m,n⟩:=d b f g;exact⟨l,m,i,j,n.trans k⟩
structure fb(L:Nat->Prop)(w0 w:World):Prop where
 os:w.os=w0.os
 tape:w.tape=w0.tape
 output:w.output=w0.output
 size:w0.heap.size<=w.heap.size
 block:∀k,k<w0.heap.size->¬L k->w.heap[k]? = w0.heap[k]?
def alD:D->Option D
 | .ali x v s o n=>some (.buf x v s o n)
 | .alm x v=>some (.mp x v)
 | _=>none
abbrev mc:=Option (Option (Nat×Nat)×(Nat->Prop))
def LB(L:mc)(b:Nat):Prop:=∃p,L=some p∧((∃g:Nat×Nat,p.1=some g∧b=g.1)∨p.2 b)
def PL(a:Option (Nat×Nat)):mc:=some (a,fun _=>False)
def tq{b:Nat}:¬LB none b:=fun⟨_,h,_⟩=>by cases h
def OS{a:Option (Nat×Nat)}{b:Nat}:LB (PL a) b↔∃g,a=some g∧b=g.1 :=
 ⟨fun⟨p,c,d⟩=>by cases c;simp_all,fun h=>⟨_,rfl,.inl h⟩⟩
def PK:Nat:=1000000
def NK(y j:Nat):Nat:=PK*(j+2)+y
def VC(y j x:Nat):Prop:=y<PK∧(x=PK+y∨x=NK y j)
def PhR(w:World)(h:Nat->Option Row)(blk:Nat->Option (Nat×Nat))(x s n:Nat)(u:Value):Prop:=∀r,h x=some r ->
 (∃g c a b,blk x=some g∧u=.slice (some ⟨g.1,g.2,none⟩) n c∧c*s+g.2=a∧n<=c∧c<=maxLen∧w.shape? g.1=some (b,a))∨(blk x=none∧n=0∧∃A,u=.slice A 0 0)
structure lE(N:Nat)(V:Nat->Nat->Prop)(d e:Nat):Prop where
 no:¬V d e
 lt:d<N
structure Inv(N:Nat)(M:Nat->Prop)(L:mc)(w0:World)(blk:Nat->Option (Nat×Nat))(V:Nat->Nat->Prop)(t:Nat->D)(h:Nat->Option Row)(a:Act)(w:World):Prop where
 tab:aav w (Own M h blk)
 below:fb (LB L) w0 w
 mlt:∀b,M b->b<w0.heap.size
 cg:∀b,LB L b->¬M b
 pin:∀go,L=some go->V 0 0∧∀r,h 0=some r->r.v=0->blk 0=go.1∧∀g,go.1=some g->w.shape? g.1=w0.shape? g.1
 defers:a.defers=[]
 tsz:a.tmps.size=N
 slots:∀i,RT w (Own M h blk) h blk V (t i) (a.tmps.getD i undef)
 rows:∀x r,h x=some r->(x<N->V x r.v)∧X5 (LB L) w0 w (Own M h blk) (blk x) r
 inj:∀x y r s g g',h x=some r->h y=some s->blk x=some g->blk y=some g'->g.1=g'.1->x=y
 ali:∀y r g,h y=some r->r.fz=true->r.lst=false->blk y=some g->∀j c d,r.cells[j]? = some c->alD c=some d->∃u,w.cell? ⟨g.1,g.2+j,none⟩=some u∧RT w (Own M h blk) h blk V d u
 big:N<=PK
 pha:∀y r g,h y=some r->r.mp=true->blk y=some g->∀j x s n:Nat,r.cells[j]? = some (D.ph x s n)->VC y j x∧∃u,w.cell? ⟨g.1,g.2+j,none⟩=some u∧PhR w h blk x s n u
def kF:D->List Nat
 | .ptr x _ _=>[x]
 | .box1 x _ _ _ _=>[x]
 | .mp x _=>[x]
 | .pm x _ y=>[x,y]
 | .buf x _ _ _ _=>[x]
 | _=>[]
def nm:D->List Nat
 | .clo _ _ xs=>xs.flatMap kF
 | d=>kF d
def live(h:Nat->Option Row)(x v:Nat):Option Row :=
 match h x with
 | some r=>if r.v=v∧r.mp=false then some r else none
 | none=>none
def sC(h:Nat->Option Row)(x v:Nat):Option Row :=
 match h x with
 | some r=>if r.v=v then some r else none
 | none=>none
def xe(h:Nat->Option Row)(x v:Nat):Option (Row×Nat×Nat×Nat) :=
 match h x with
 | some r=>if r.v=v∧r.mp=true then (match r.cells with | [.ph y s n]=>some (r,y,s,n)|_=>none) else none
 | none=>none
def nP(h:Nat->Option Row)(x v:Nat):Option (List eE×List D) :=
 match h x with
 | some r=>if r.v=v∧r.mp=true∧r.ty<900000 then (match r.cells with | [.mpc a b]=>some (a,b)|_=>none) else none
 | none=>none
def ze(r:Row):Bool :=
 match r.mp,r.cells with
 | true,[.mpc _ _]=>decide (r.ty<900000)
 | true,_=>false
 | false,_=>true
def CH(h:Nat->Option Row)(x v:Nat):Option Row :=
 match h x with
 | some r=>if r.v=v∧r.mp=true∧ze r=true then some r else none
 | none=>none
def DO(d:D)(h:Nat->Option Row)(x v:Nat):Option Row :=
 match d with
 | .mp _ _=>CH h x v
 | _=>live h x v
def content(h:Nat->Option Row):D->Option (Nat×List D)
 | .sl _ _ n xs=>some (n,xs)
 | .buf x v s o n =>
  match live h x v with
  | some r=>if o+n*s<=r.cells.length then some (n,(r.cells.drop o).take (n*s)) else none
  | none=>none
 | _=>none
def eS(h:Nat->Option Row):D->Option (D×List Nat)
 | .int k n=>some (.int k n,[])
 | .bool b=>some (.bool b,[])
 | .str s=>some (.str s,[])
 | .sl a b n xs=>some (.sl a b n xs,[])
 | .buf x v s o n =>
  match live h x v with
  | some r=>if o+n*s<=r.cells.length then some (.sl false false n ((r.cells.drop o).take (n*s)),[x]) else none
  | none=>none
 | _=>none
def ir(h:Nat->Option Row):D->Option (List D×List Nat)
 | .agg xs=>some (xs,[])
 | d =>
  match eS h d with
  | some (a,fr)=>some ([a],fr)
  | none=>none
def b7(h:Nat->Option Row):D->Option (D×List Nat)
 | .ptr x v o =>
  match live h x v with
  | some r=>if o<=r.cells.length then some (.ip (r.cells.drop o),[x]) else none
  | none=>none
 | .agg xs=>some (.agg (xs.map canon),[])
 | .ip xs=>some (.ip xs,[])
 | .fn f=>some (.fn f,[])
 | .box1 x v s o n =>
  match eS h (.buf x v s o n) with
  | some (a,fr)=>some (.agg [canon a],fr)
  | none=>none
 | .mp x v =>
  match nP h x v with
  | some (ks,vs)=>some (.mpc ks vs,[x])
  | none=>none
 | .mpc ks vs=>some (.mpc ks vs,[])
 | .pm x v y =>
  match live h x v with
  | some r =>
   match r.cells with
   | [.alm b c] =>
    if r.fz=true∧r.lst=false∧b=y then
     match nP h y c with
     | some (ks,vs)=>some (.ip [.mpc ks vs],[x,y])
     | none=>none
    else none
   | _=>none
  | none=>none
 | d =>
  match eS h d with
  | some (a,fr)=>some (canon a,fr)
  | none=>none
def eF(h:Nat->Option Row):List D->Option (List D×List Nat)
 | []=>some ([],[])
 | d::c =>
  match b7 h d with
  | some (e,fr) =>
   match eF h c with
   | some (a,b)=>some (e::a,fr++b)
   | none=>none
  | none=>none
def cO(h:Nat->Option Row):D->Option (D×List Nat)
 | .clo f a b =>
  match eF h b with
  | some (c,fr)=>some (.clo f a c,fr)
  | none=>none
 | d=>b7 h d
def cc(h:Nat->Option Row):List D->Option (List D×List Nat)
 | []=>some ([],[])
 | d::c =>
  match cO h d with
  | some (e,fr) =>
   match cc h c with
   | some (a,b)=>some (e::a,fr++b)
   | none=>none
  | none=>none
def y9(r:Row):Row :=
 match r.fz with
 | true=>r
 | false=>{ r with fz:=true,lst:=true }
def lJ(h:Nat->Option Row)(a:List Nat):List (Nat×Option Row):=a.map fun x=>(x,(h x).map y9)
structure cI where
 val:D
 hw:List (Nat×Option Row)
def aW(h:Nat->Option Row):List (Nat×Option Row)->Nat->Option Row
 | []=>h
 | (x,r)::l=>aW (cq h x r) l
def vX(b:Bool)(a:List D):List D:=if b then a.map canon else a
def putCells(cells:List D)(o:Nat)(a:List D):List D:=cells.take o++a++cells.drop (o+a.length)
def mE(τ:Ty)(a:List D):Option D :=
 if τ.ds.xt then some (.agg a) else match a with | [d]=>some d|_=>none
def aiC(b:Bool):List D->Option D
 | [.ali x v s o n]=>some (if b then .box1 x v s o n else .buf x v s o n)
 | _=>none
def gi(τ:Ty)(h:Nat->Option Row):D->Option cI
 | .ptr x v o =>
  match live h x v with
  | some r=>if o+τ.size<=r.cells.length then (match mE τ ((r.cells.drop o).take τ.size) with|some d=>some ⟨d,[]⟩|none=>none) else none
  | none=>none
 | .ip a=>if τ.size<=a.length then (match mE τ (a.take τ.size) with|some d=>some ⟨d,[]⟩|none=>none) else none
 | _=>none
def wz(τ:Ty)(h:Nat->Option Row)(x v o:Nat):Option Row->Option cI
 | some r =>
  if r.fz && !r.lst then
   if o+τ.size<=r.cells.length then
    match aiC τ.ds.xt ((r.cells.drop o).take τ.size) with
    | some d=>some ⟨d,[]⟩
    | none=>gi τ h (.ptr x v o)
   else none
  else gi τ h (.ptr x v o)
 | none=>none
def Cj(τ:Ty)(h:Nat->Option Row)(x v y:Nat):Option (Row×Nat×Nat×Nat)->Option cI
 | some (_,a,s,n) =>
  match h y with
  | some r=>if a=y∧y=PK+x∧r.mp=false∧r.lst=true∧r.cells.length=n*s∧τ.size=1 then some ⟨if τ.ds.xt then .agg [.sl false false n r.cells] else .sl false false n r.cells,lJ h [y]⟩ else none
  | none=>none
 | none=>none
def uD(τ:Ty)(h:Nat->Option Row):D->Option cI
 | .ptr x v o=>wz τ h x v o (live h x v)
 | .pm x v y =>
  match live h x v with
  | some r =>
   match r.cells with
   | [.alm a b]=>if r.fz=true∧r.lst=false∧τ.size=1∧τ.ds.xt=false then some ⟨.mp a b,[]⟩ else none
   | _=>none
  | none=>Cj τ h x v y (xe h x v)
 | d=>gi τ h d
def jz(τ:Ty)(h:Nat->Option Row):D->D->Option cI
 | .ptr x v o,d =>
  match live h x v with
  | some r =>
   match ir h d with
   | some (a,b)=>if a.length=τ.size∧o+τ.size<=r.cells.length∧r.fz=false∧b.contains x=false then some ⟨.und,lJ h b++[(x,some { r with cells:=putCells r.cells o (vX r.lst a) })]⟩ else none
   | none=>none
  | none=>none
 | _,_=>none
def jy(τ:Ty)(h:Nat->Option Row)(p d:D):Option cI :=
 match d with
 | .box1 y a s b n =>
  match p with
  | .ptr x v o =>
   match live h x v with
   | some r=>if τ.size=1∧o=0∧r.cells.length=1∧r.fz=false∧r.lst=false then some ⟨.und,[(x,some ⟨r.v,r.ty,[.ali y a s b n],true,false,false⟩)]⟩ else none
   | none=>none
  | .pm x v k =>
   match live h x v,live h y a with
   | some r,some q=>if τ.size=1∧b=0∧r.cells.length=1∧r.fz=false∧r.lst=false∧q.fz=false∧q.lst=true∧q.cells.length=n*s∧x≠y∧k=PK+x∧x<PK then
     some ⟨.und,[(y,none),(k,some ⟨0,q.ty,q.cells,false,true,false⟩),(x,some ⟨r.v,r.ty,[.ph k s n],false,false,true⟩)]⟩ else none
   | _,_=>none
  | _=>none
 | .mp c e =>
  match p with
  | .pm x v y =>
   match live h x v with
   | some r=>if τ.size=1∧c=y∧r.cells.length=1∧r.fz=false∧r.lst=false∧(nP h y e).isSome then some ⟨.und,[(x,some ⟨r.v,r.ty,[.alm c e],true,false,false⟩)]⟩ else none
   | none=>none
  | _=>none
 | d=>jz τ h p d
def rp(h:Nat->Option Row):D->Option cI
 | .ptr x v o=>match sC h x v with|some _=>some ⟨.ptr x v o,[]⟩|none=>none
 | .ip xs=>some ⟨.ip xs,[]⟩
 | _=>none
def iw(T:Nat->Option Ty)(τ:Ty)(h:Nat->Option Row)(i:Nat):D->Option cI
 | .ptr x v o =>
  match sC h x v,τ.ds with
  | some _,.struct b=>match b[i]? with
   | some (c,a)=>match T c with|some φ=>if φ.size=0 then none else some ⟨.ptr x v (o+a),[]⟩|none=>none
   | none=>none
  | _,_=>none
 | .pm x v k =>
  match xe h x v,τ.ds with
  | some _,.struct b=>match b[i]? with
   | some (c,0)=>match T c with|some φ=>if φ.size=0 then none else some ⟨.pm x v k,[]⟩|none=>none
   | _=>none
  | _,_=>none
 | .ip d =>
  match τ.ds with
  | .struct b=>match b[i]? with
   | some (c,a)=>match T c with|some φ=>if φ.size=0 then none else some ⟨.ip (d.drop a),[]⟩|none=>none
   | none=>none
  | _=>none
 | _=>none
def ZA(φ:Ty)(b:List D)(a:Nat):Option D :=
 if φ.ds.xt then (if a+φ.size<=b.length then some (.agg ((b.drop a).take φ.size)) else none) else b[a]?
def DD(T:Nat->Option Ty)(τ:Ty)(i:Nat):D->Option cI
 | .agg b =>
  match τ.ds with
  | .struct c=>match c[i]? with
   | some (e,a)=>match T e with|some φ=>(match ZA φ b a with|some d=>some ⟨d,[]⟩|none=>none)|none=>none
   | none=>none
  | _=>none
 | _=>none
def di(T:Nat->Option Ty)(τ:Ty)(h:Nat->Option Row):D->D->Option cI
 | .sl _ _ n a,.int _ i =>
  match τ.ds with
  | .slice el=>match T el with|some φ=>if 0<=i∧i<n then some ⟨.ip (a.drop (i.toNat*φ.size)),[]⟩ else none|none=>none
  | _=>none
 | .buf x v s o n,.int _ i =>
  match sC h x v,τ.ds with
  | some _,.slice el=>match T el with|some φ=>if φ.size=s∧0<=i∧i<n then some ⟨.ptr x v (o+i.toNat*s),[]⟩ else none|none=>none
  | _,_=>none
 | .ptr x v o,.int _ i =>
  match live h x v,τ.ds with
  | some _,.arr n el=>match T el with|some φ=>if 0<=i∧i<n then some ⟨.ptr x v (o+i.toNat*φ.size),[]⟩ else none|none=>none
  | _,_=>none
 | _,_=>none
def oh(T:Nat->Option Ty)(τ:Ty):D->D->Option cI
 | .str s,.int _ i =>
  match τ.ds with
  | .str=>if 0<=i then (match s[i.toNat]? with|some b=>some ⟨.int .u8 b.toNat,[]⟩|none=>none) else none
  | _=>none
 | .agg a,.int _ i =>
  match τ.ds with
  | .arr n el=>match T el with|some φ=>if 0<=i∧i<n then (match ZA φ a (i.toNat*φ.size) with|some d=>some ⟨d,[]⟩|none=>none) else none|none=>none
  | _=>none
 | _,_=>none
def uW:D->Option Nat
 | .int _ i=>if 0<=i then some i.toNat else none
 | _=>none
def Ce(n:Nat)(a b:Option D):Option (Nat×Nat) :=
 match (match b with|none=>some n|some d=>uW d),(match a with|none=>some 0|some d=>uW d) with
 | some h,some l=>if l<=h∧h<=n then some (l,h) else none
 | _,_=>none
def jx(T:Nat->Option Ty)(τ:Ty)(h:Nat->Option Row)(x:D)(b a c:Option D):Option cI :=
 match x with
 | .str s =>
  match τ.ds,c,Ce s.size b a with
  | .str,none,some (l,k)=>some ⟨.str (s.extract l k),[]⟩
  | _,_,_=>none
 | .sl nl tight n d =>
  match τ.ds with
  | .slice el =>
   match T el,Ce n b a with
   | some φ,some (l,k) =>
    match c with
    | none=>some ⟨.sl (nl&&tight) (tight&&k==n) (k-l) ((d.drop (l*φ.size)).take ((k-l)*φ.size)),[]⟩
    | some m=>match uW m,a with
     | some m,some _=>if k<=m∧m<=n then some ⟨.sl false (m==k) (k-l) ((d.drop (l*φ.size)).take ((k-l)*φ.size)),[]⟩ else none
     | _,_=>none
   | _,_=>none
  | _=>none
 | .buf y v s o n =>
  match live h y v,τ.ds,c with
  | some _,.slice el,none =>
   match T el,Ce n b a with
   | some φ,some (l,k)=>if φ.size=s∧0<s then some ⟨.buf y v s (o+l*s) (k-l),[]⟩ else none
   | _,_=>none
  | _,_,_=>none
 | _=>none
def lf(h:Nat->Option Row)(a:Nat->Option (Nat×Nat))(cells:List D):List (Nat×D)->Option (List D×List Nat)
 | []=>some (cells,[])
 | (i,d)::c =>
  match a i,ir h d with
  | some (e,b),some (g,fr) =>
   if g.length=b∧e+b<=cells.length then
    match lf h a (putCells cells e g) c with
    | some (out,f)=>some (out,fr++f)
    | none=>none
   else none
  | _,_=>none
def fieldAt(T:Nat->Option Ty)(b:List (Nat×Nat))(i:Nat):Option (Nat×Nat) :=
 match b[i]? with
 | some (c,a)=>match T c with|some φ=>some (a,φ.size)|none=>none
 | none=>none
def jw(T:Nat->Option Ty)(τ:Ty)(h:Nat->Option Row)(parts:List (Nat×D)):Option cI :=
 match τ.ds with
 | .struct a =>
  if (a.all fun f=>(T f.1).isSome)&&(τ.zero.map sf).all bH then
   match lf h (fieldAt T a) (τ.zero.map sf) parts with
   | some (cs,fr)=>some ⟨.agg cs,lJ h fr⟩
   | none=>none
  else none
 | _=>none
def alive(h:Nat->Option Row):D->Bool
 | .ptr x v _=>(sC h x v).isSome
 | .buf x v _ _ _=>(sC h x v).isSome
 | _=>true
def cE:Option cI->Option cI
 | some ⟨.agg cs,hw⟩=>some ⟨.agg (cs.map canon),hw⟩
 | _=>none
def uB(q:Nat->Bool)(T:Nat->Option Ty)(τ:Ty)(h:Nat->Option Row)(b:Option Nat)(parts:List (Nat×D)):Option cI :=
 match b with
 | some d =>
  if q d then jw T τ h parts else
   match τ.ds,parts with
   | .struct a,[(0,.buf x v s o n)]=>if (alive h (.buf x v s o n))∧(a.all fun f=>(T f.1).isSome)∧fieldAt T a 0=some (0,1)∧τ.zero.length=1 then some ⟨.box1 x v s o n,[]⟩ else none
   | .struct a,[(0,.box1 x v s o n)]=>if (alive h (.buf x v s o n))∧(a.all fun f=>(T f.1).isSome)∧fieldAt T a 0=some (0,1)∧τ.zero.length=1 then some ⟨.box1 x v s o n,[]⟩ else none
   | _,_=>cE (jw T τ h parts)
 | none=>jw T τ h parts
def rK(n:Nat)(a:List D):List D:=(List.replicate n a).flatten
def fG(T:Nat->Option Ty)(τ:Ty)(h:Nat->Option Row)(e d len:Nat)(parts:List (Nat×D)):Option cI :=
 match τ.ds with
 | .slice el =>
  match T el with
  | some φ =>
   if len*φ.size<=16777216∧0<φ.size∧(φ.zero.map sf).all bH=true∧φ.zero.length=φ.size then
    match lf h (fun i=>some (i*φ.size,φ.size)) (rK len (φ.zero.map sf)) parts with
    | some (b,a)=>if a.contains d=false then some ⟨.buf d e φ.size 0 len,lJ h a++[(d,some ⟨e,el,b.map canon,false,true,false⟩)]⟩ else none
    | none=>none
   else none
  | none=>none
 | _=>none
def vJ(T:Nat->Option Ty)(τ:Ty)(e d:Nat)(l c:D):Option cI :=
 match τ.ds with
 | .slice el =>
  match T el,uW l,uW c with
  | some φ,some l,some c =>
   if l<=c∧c<=maxLen∧c*φ.bytes<=140737488355328∧0<φ.size∧(φ.zero.map sf).all bH=true∧φ.zero.length=φ.size then
    some ⟨.buf d e φ.size 0 l,[(d,some ⟨e,el,rK l ((φ.zero.map sf).map canon),false,true,false⟩)]⟩
   else none
  | _,_,_=>none
 | _=>none
def lU(T:Nat->Option Ty)(τ:Ty)(h:Nat->Option Row)(e d:Nat)(s x:D):Option cI :=
 match τ.ds with
 | .slice el =>
  match T el,content h x with
  | some φ,some (m,a) =>
   if 0<φ.size∧φ.zero.length=φ.size then
    match s with
    | .sl c tight n b =>
     if tight=true∧n+m<=maxLen∧(n+m)*φ.bytes<=140737488355328∧b.length=n*φ.size∧a.length=m*φ.size then
      if m=0 then some ⟨.sl c tight n b,[]⟩ else some ⟨.buf d e φ.size 0 (n+m),[(d,some ⟨e,el,b++a,false,true,false⟩)]⟩
     else none
    | .buf y v z o n =>
     match live h y v with
     | some r =>
      if z=φ.size∧r.ty=el∧r.fz=false∧o+n*φ.size<=r.cells.length∧n+m<=maxLen∧(n+m)*φ.bytes<=140737488355328∧a.length=m*φ.size then
       some ⟨.buf d e φ.size 0 (n+m),[(y,none),(d,some ⟨e,el,(r.cells.drop o).take (n*φ.size)++a,false,true,false⟩)]⟩
      else none
     | none=>none
    | _=>none
   else none
  | _,_=>none
 | _=>none
def abd:D->Option eE
 | .int .i64 n=>some (n,none)
 | .agg [.int .i64 a,.int .i64 b]=>some (a,some b)
 | _=>none
def vP(z:D):List eE->List D->eE->D
 | k::a,v::b,n=>if k=n then v else vP z a b n
 | _,_,_=>z
def CT(a:List eE)(n:eE):List eE:=if a.contains n then a else a++[n]
def Hg(a:List eE)(b:List D)(n:eE)(d:D):List D:=if a.contains n then b.set (a.idxOf n) d else b++[d]
def Af(T:Nat->Option Ty)(κ:Ty):Option Bool :=
 match κ.ds with
 | .int .i64=>some false
 | .struct [(a,0),(b,1)]=>match T a,T b with
  | some α,some β=>match α.ds,β.ds with
   | .int .i64,.int .i64=>if κ.eqok then some true else none
   | _,_=>none
  | _,_=>none
 | _=>none
def Jz(T:Nat->Option Ty)(τ:Ty):Option (Bool×Ty) :=
 match τ.ds with
 | .map k el=>match T k,T el with
  | some κ,some φ=>match Af T κ with|some b=>some (b,φ)|none=>none
  | _,_=>none
 | _=>none
def rn(T:Nat->Option Ty)(a:Nat)(τ:Ty)(e d:Nat):Option cI :=
 match Jz T τ with
 | some _=>if 900000<=a then none else some ⟨.mp d e,[(d,some ⟨e,a,[.mpc [] []],false,true,true⟩)]⟩
 | none=>none
def mapOf(h:Nat->Option Row):D->Option (List eE×List D)
 | .mp x v=>nP h x v
 | .mpc ks vs=>some (ks,vs)
 | _=>none
def wP(b:Bool)(n:eE)(a:List eE):Bool:=LU n==b&&a.all fun k=>LU k==b
def jT(T:Nat->Option Ty)(τ:Ty)(h:Nat->Option Row)(m i:D)(d:Bool):Option cI :=
 match Jz T τ,mapOf h m,abd i with
 | some (b,φ),some (a,c),some n =>
  match mE φ (φ.zero.map sf) with
  | some z=>if wP b n a=true∧(φ.zero.map sf).all bH=true then some ⟨if d then .tup [vP (kJ z) a c n,.bool (a.contains n)] else vP (kJ z) a c n,[]⟩ else none
  | none=>none
 | _,_,_=>none
def BO(h:Nat->Option Row):D->Option (D×List Nat)
 | .agg xs=>some (.agg (xs.map canon),[])
 | d =>
  match eS h d with
  | some (a,fr)=>some (canon a,fr)
  | none=>none
def fh(T:Nat->Option Ty)(τ:Ty)(h:Nat->Option Row)(m i x:D):Option cI :=
 match Jz T τ,m,abd i,BO h x with
 | some (b,_),.mp y v,some n,some (d,c) =>
  match h y with
  | some r =>
   match nP h y v with
   | some (a,e)=>if wP b n a=true∧r.fz=false∧c.contains y=false then some ⟨.und,lJ h c++[(y,some ⟨r.v,r.ty,[.mpc (CT a n) (Hg a e n d)],false,true,true⟩)]⟩ else none
   | none=>none
  | none=>none
 | _,_,_,_=>none
def eqC:D->D->Option Bool
 | .int k a,.int c b=>if k=c then some (a==b) else none
 | .bool a,.bool b=>some (a==b)
 | .str a,.str b=>some (a==b)
 | _,_=>none
def eqL:List D->List D->Option Bool
 | [],[]=>some true
 | x::c,y::d=>match eqC x y,eqL c d with|some a,some b=>some (a&&b)|_,_=>none
 | _,_=>none
def UP:Ds->Bool
 | .int _ | .bool | .str=>true
 | _=>false
def kindOk:Ds->D->Bool
 | .int _,.int _ _=>true
 | .bool,.bool _=>true
 | .str,.str _=>true
 | _,_=>false
def oT(T:Nat->Option Ty):Nat->List (Nat×Nat)->List D->Bool
 | _,[],[]=>true
 | o,(a,off)::b,x::c=>off==o&&(match T a with|some φ=>kindOk φ.ds x|none=>false)&&oT T (o+1) b c
 | _,_,_=>false
def ag0(a tight:Bool)(n:Nat):Option Bool:=if 0<n then some false else if a then some tight else none
def eqD(T:Nat->Option Ty)(τ:Ty):D->D->Option Bool
 | .bool a,.bool b=>match τ.ds with | .bool=>some (a==b)|_=>none
 | .sl d tight n _,.sl true true 0 []=>match τ.ds with | .slice _=>ag0 d tight n|_=>none
 | .agg c,.agg e =>
  match τ.ds with
  | .struct f=>if τ.eqok&&oT T 0 f c then eqL c e else none
  | _=>none
 | _,_=>none
def HZ(c:BinOp)(k:IntKind)(x y:Int):Int :=
 let a:=BitVec.ofInt k.bits x
 let b:=BitVec.ofInt k.bits y
 match c with
 | .and=>k.wrap (a &&& b).toNat
 | .or=>k.wrap (a ||| b).toNat
 | .xor=>k.wrap (a ^^^ b).toNat
 | _=>k.wrap (a &&& ~~~b).toNat
def ku(a:BinOp)(k:IntKind)(x y:Int):Option D :=
 match a with
 | .add=>some (.int k (k.wrap (x+y)))
 | .sub=>some (.int k (k.wrap (x-y)))
 | .mul=>some (.int k (k.wrap (x*y)))
 | .quo=>if y=0 then none else some (.int k (k.wrap (x.tdiv y)))
 | .rem=>if y=0 then none else some (.int k (x.tmod y))
 | .and=>some (.int k (HZ .and k x y))
 | .or=>some (.int k (HZ .or k x y))
 | .xor=>some (.int k (HZ .xor k x y))
 | .andNot=>some (.int k (HZ .andNot k x y))
 | .eql=>some (.bool (x==y))
 | .neq=>some (.bool (x != y))
 | .lss=>some (.bool (x<y))
 | .leq=>some (.bool (x<=y))
 | .gtr=>some (.bool (x>y))
 | .geq=>some (.bool (x>=y))
 | _=>none
def LS(a:BinOp)(x y:ByteArray):Option D :=
 match a with
 | .add=>if ((x.size+y.size:Nat):Int)>IntKind.i64.max then none else some (.str (x++y))
 | .eql=>some (.bool (x.toList==y.toList))
 | .neq=>some (.bool !(x.toList==y.toList))
 | .lss=>some (.bool (Op.bytesLess x.toList y.toList))
 | .leq=>some (.bool (Op.bytesLess x.toList y.toList||x.toList==y.toList))
 | .gtr=>some (.bool !(Op.bytesLess x.toList y.toList||x.toList==y.toList))
 | .geq=>some (.bool !Op.bytesLess x.toList y.toList)
 | _=>none
def CY(a:BinOp)(k:IntKind)(x y:Int):Option D :=
 if y<0 then none else
 match a with
 | .shl=>some (.int k (k.wrap (x*2 ^ (min y.toNat k.bits))))
 | .shr=>some (.int k (x.fdiv (2 ^ (min y.toNat k.bits))))
 | _=>none
def oM:BinOp->Bool
 | .shl | .shr=>true
 | _=>false
def HY(T:Nat->Option Ty)(e:Nat)(d:BinOp)(a b:D):Option D :=
 match a,b with
 | .int k x,.int f y=>if oM d then CY d k x y else if k=f then ku d k x y else none
 | .str x,.str y=>LS d x y
 | a,b =>
  match T e with
  | some τ =>
   match d with
   | .eql=>match eqD T τ a b with|some c=>some (.bool c)|none=>none
   | .neq=>match eqD T τ a b with|some c=>some (.bool !c)|none=>none
   | _=>none
  | none=>none
def unD(a:UnOp):D->Option D
 | .int k n=>match a with
  | .neg=>some (.int k (k.wrap (0-n)))
  | .xor=>some (.int k (HZ .xor k (if k.signed then -1 else k.max) n))
  | _=>none
 | .bool b=>match a with | .not=>some (.bool !b)|_=>none
 | _=>none
mutual
def kP:D->Bool
 | .int _ _ | .bool _ | .str _=>true
 | .agg xs | .tup xs=>uK xs
 | _=>false
def uK:List D->Bool
 | []=>true
 | x::xs=>kP x&&uK xs
end
def G8:D->Option Nat
 | .str s=>some s.size
 | .sl _ _ n _=>some n
 | .buf _ _ _ _ n=>some n
 | _=>none
def CJ(f:Int->Int->Int)(k:IntKind):Int->List D->Option Int
 | x,[]=>some x
 | x,.int a y::r=>if k=a then CJ f k (f x y) r else none
 | _,_=>none
def eT(T:Nat->Option Ty)(h:Nat->Option Row)(e:Nat)(c:Option Nat)(b:Builtin)(f:List Nat)(a:List D):Option cI :=
 match b,f,a with
 | .len,t::_,[x] =>
  if alive h x then
   match T t,G8 x with
   | some τ,some n=>match τ.ds,x with
    | .str,.str _=>some ⟨.int .i64 n,[]⟩
    | .slice _,.sl _ _ _ _=>some ⟨.int .i64 n,[]⟩
    | .slice _,.buf _ _ _ _ _=>some ⟨.int .i64 n,[]⟩
    | _,_=>none
   | some τ,none=>match τ.ds,mapOf h x with
    | .map _ _,some (g,_)=>some ⟨.int .i64 (g.length:Nat),[]⟩
    | _,_=>none
   | _,_=>none
  else none
 | .append,[t,i],[s,x] =>
  if t=i then
   match T t,c with
   | some τ,some d=>lU T τ h e d s x
   | _,_=>none
  else none
 | .max,_,.int k x::r=>match CJ (fun x y=>if y>x then y else x) k x r with|some z=>some ⟨.int k z,[]⟩|none=>none
 | .min,_,.int k x::r=>match CJ (fun x y=>if y<x then y else x) k x r with|some z=>some ⟨.int k z,[]⟩|none=>none
 | _,_,_=>none
def vT:D->Bool
 | .buf _ _ _ _ _ | .clo _ _ _ | .und | .skp | .box1 _ _ _ _ _=>false
 | _=>true
inductive RK where
 | clean (d:D)
 | same (s o n:Nat)
 | fresh (ty s n:Nat) (cells:List D)
structure Grow where
 ty:Nat
 k:Nat
 bytes:Nat
 sem:List D->List D->Option (List D)
def JG(a b:Nat)(c:Bool):Option D->Option Row
 | some (.nx n xs)=>some ⟨b,a,xs,c,true,false⟩
 | _=>none
def NG(a:Bool)(o:Nat):List D->Option Row
 | [.nr ty s nv cs]=>JG ty nv a (cs.drop o).head?
 | _=>none
def vS(r:Row)(o:Nat):Option Row:=if r.mp then NG r.fz o r.cells else none
def gD:D->Bool
 | .int _ _ | .bool _ | .str _ | .sl _ _ _ _=>true
 | _=>false
def wT(y s o:Nat):D->D
 | .nx n _ =>.ph (NK y o) s n
 | d=>if gD d then d else .und
def mM{y s o:Nat}{d:D}(h:gD d=true):wT y s o d=d:=by
 cases d<;>first|rfl|cases h
def vg{y s o x a n:Nat}{d:D}(h:wT y s o d=.ph x a n):∃b,d=.nx n b∧x=NK y o∧a=s:=by
 cases d<;>simp[wT,gD]at h;simp_all
theorem oO(y s o:Nat)(d:D):phC (wT y s o d)=true:=by
 cases d<;>rfl
def skL(y:Nat):List D->List D
 | [.nr ty s nv cs]=>cs.mapIdx (wT y s)
 | cs=>cs
def HA(y:Nat)(r:Row):Row:=if r.mp then { r with cells:=skL y r.cells } else r
def ltB(a b:Nat):Decidable (a<b):=@Eq.rec Prop (¬b<=a) (fun p _=>Decidable p) instDecidableNot (a<b) (propext Nat.not_le)
def EH(h:Nat->Option Row)(k:Nat):Option Row:=@ite _ (k<2*PK) (ltB k (2*PK)) ((h k).map (HA k)) ((h (k % PK)).bind fun r=>vS r (k / PK-2))
def rt(k:Nat):Nat:=if k<2*PK then k else k % PK
structure amf where
 lnd:Nat->Option (Nat×(Nat->Nat->Nat->Nat->List D->List D->Option (D×List D))):=fun _=>none
 res:Nat->Option (List D->Option (Nat×Nat×Nat×Nat×Nat×List D)):=fun _=>none
structure Env where
 lends:Nat->Bool
 sem:Nat->Option (D×Row)->List D->Option (RK×Option Row)
 own:Nat->Bool
 hint:Nat->Option Nat:=fun _=>none
 ins:Nat->Option (Nat×Nat×Nat):=fun _=>none
 grw:Nat->Option Grow:=fun _=>none
 nst:Nat->Option (Nat×Nat×Nat):=fun _=>none
 nx:amf:={}
def zt(Γ:Env)(h:Nat->Option Row)(e:Nat)(b:Option Nat)(g:Nat)(a:List D):Option cI :=
 match cc h a with
 | some (c,f) =>
  match Γ.sem g none c with
  | some (.clean r,_)=>some ⟨r,if kP r then [] else lJ h f⟩
  | some (.fresh i s n cells,_) =>
   match b with
   | some d=>if f.contains d=false then some ⟨.buf d e s 0 n,(if uK cells then [] else lJ h f)++[(d,some ⟨e,i,cells,false,true,false⟩)]⟩ else none
   | none=>none
  | _=>none
 | none=>none
def uw(Γ:Env)(h:Nat->Option Row)(e:Nat)(f:Option Nat)(g x v:Nat)(d0:D)(a:List D):Option cI :=
 match DO d0 h x v with
 | some r =>
  if r.fz=false then
   match cc h a with
   | some (am1,b) =>
    if b.contains x=false then
     match Γ.sem g (some (d0,{ r with v:=0 })) am1 with
     | some (.clean c,some i)=>some ⟨c,lJ h b++[(x,some { i with v:=v })]⟩
     | some (.same s o n,some i)=>some ⟨.buf x v s o n,lJ h b++[(x,some { i with v:=v })]⟩
     | some (.fresh j s n cells,none) =>
      match f with
      | some d=>if b.contains d=false then some ⟨.buf d e s 0 n,lJ h b++[(x,none),(d,some ⟨e,j,cells,false,true,false⟩)]⟩ else none
      | none=>none
     | _=>none
    else none
   | none=>none
  else none
 | none=>none
def BP(h:Nat->Option Row)(p:Grow)(a:List D):Option cI :=
 match a with
 | .pm y v k::b =>
  match xe h y v,h k with
  | some (c,d,s,n),some r =>
   if d=k∧k=PK+y∧y<PK∧c.fz=false∧r.mp=false∧r.fz=false∧r.lst=true∧s=p.k∧r.ty=p.ty∧r.cells.length=n*p.k∧(n+1)*p.bytes<=140737488355328 then
    match p.sem r.cells b with
    | some cs=>some ⟨.int .i64 (n:Int),[(k,some ⟨r.v,p.ty,r.cells++cs,false,true,false⟩),(y,some ⟨c.v,c.ty,[.ph k p.k (n+1)],false,false,true⟩)]⟩
    | none=>none
   else none
  | _,_=>none
 | _=>none
def yO(h:Nat->Option Row)(e:Nat)(c:Option Nat)(p:Nat×Nat×Nat)(a:List D):Option cI :=
 match a with
 | [.buf x v s o n,.int .i64 i,.buf y f g j m] =>
  match live h x v,live h y f,c with
  | some r,some b,some d =>
   if r.fz=false∧b.fz=false∧r.lst=true∧b.lst=true∧x≠y∧s=p.2.1∧g=p.2.1∧r.ty=p.1∧b.ty=p.1∧o=0∧j=0∧r.cells.length=n*p.2.1∧b.cells.length=m*p.2.1∧0<=i∧i<=n∧0<m∧(n+m)*p.2.2<=140737488355328 then
    some ⟨.buf d e p.2.1 0 (n+m),[(y,none),(x,none),(d,some ⟨e,p.1,r.cells.take (i.toNat*p.2.1)++(b.cells++r.cells.drop (i.toNat*p.2.1)),false,true,false⟩)]⟩
   else none
  | _,_,_=>none
 | _=>none
def kD(Γ:Env)(h:Nat->Option Row)(e:Nat)(b:Option Nat)(f:D)(a:List D):Option cI :=
 match f with
 | .fn g =>
  match Γ.ins g with
  | some p=>yO h e b p a
  | none =>
  match Γ.grw g with
  | some p=>BP h p a
  | none =>
  if Γ.lends g then
   match a with
   | .buf x v s o n::rest=>uw Γ h e b g x v (.buf 0 0 s o n) rest
   | .ptr x v o::rest=>uw Γ h e b g x v (.ptr 0 0 o) rest
   | .mp x v::rest=>uw Γ h e b g x v (.mp 0 0) rest
   | _=>none
  else zt Γ h e b g a
 | .clo g d c=>if c.all vT then zt Γ h e b g (c.take d++(a++c.drop d)) else none
 | _=>none
def dY(T:Nat->Option Ty)(b e:Nat)(a:Option Nat)(h:Nat->Option Row)(x:D):Option cI :=
 match x with
 | .buf y v s o n =>
  match a,live h y v with
  | some d,some r=>if r.fz then some ⟨.buf y v s o n,[]⟩ else some ⟨.buf d e s o n,[(y,none),(d,some { r with v:=e })]⟩
  | _,_=>if (sC h y v).isSome then some ⟨.buf y v s o n,[]⟩ else some ⟨.und,[]⟩
 | .sl true true 0 [] =>
  match a,T b with
  | some d,some τ =>
   match τ.ds with
   | .slice el=>match T el with|some φ=>some ⟨.buf d e φ.size 0 0,[(d,some ⟨e,el,[],false,true,false⟩)]⟩|none=>none
   | _=>none
  | _,_=>none
 | x=>some ⟨x,[]⟩
def uA(h:Nat->Option Row):D->Option (D×List Nat)
 | .agg xs=>some (.agg xs,[])
 | d=>eS h d
def p6(h:Nat->Option Row)(x:D):Option cI :=
 match uA h x with
 | some (a,fr)=>some ⟨kJ a,lJ h fr⟩
 | none=>none
def wy(T:Nat->Option Ty)(q:Nat->Bool)(b e:Nat)(a:Option Nat)(h:Nat->Option Row)(x:D):Option cI :=
 match a with
 | some d=>if q d then dY T b e (some d) h x else p6 h x
 | none=>dY T b e none h x
def vr(T:Nat->Option Ty)(Γ:Env)(e:Nat)(o:Oper)(g:Operand->D)(h:Nat->Option Row):Option cI :=
 match o.op with
 | .move x=>some ⟨g x,[]⟩
 | .assign x=>wy T Γ.own o.type e o.dst h (g x)
 | .pick c a b=>match g c with | .bool true=>some ⟨g a,[]⟩ | .bool false=>some ⟨g b,[]⟩|_=>none
 | .alloc j=>match T j,o.dst with
  | some τ,some d=>if (τ.zero.map sf).all bH then some ⟨match Γ.hint d with|some y =>.pm d e y|none =>.ptr d e 0,[(d,some ⟨e,j,τ.zero.map sf,false,false,false⟩)]⟩ else none
  | _,_=>none
 | .box j x=>match o.dst,ir h (g x) with
  | some d,some (u,s)=>if s.contains d=false then some ⟨.ptr d e 0,lJ h s++[(d,some ⟨e,j,u,false,false,false⟩)]⟩ else none
  | _,_=>none
 | .load j p=>match T j with|some τ=>uD τ h (g p)|none=>none
 | .store j p x=>match T j with|some τ=>jy τ h (g p) (g x)|none=>none
 | .nilCheck x=>rp h (g x)
 | .fieldAddr j x i=>match T j with|some τ=>iw T τ h i (g x)|none=>none
 | .field j x i=>match T j with|some τ=>DD T τ i (g x)|none=>none
 | .indexAddr j x i=>match T j with|some τ=>di T τ h (g x) (g i)|none=>none
 | .index j x i=>match T j with|some τ=>oh T τ (g x) (g i)|none=>none
 | .slice j x v w z=>match T j with|some τ=>jx T τ h (g x) (v.map g) (w.map g) (z.map g)|none=>none
 | .build j parts=>match T j with|some τ=>uB Γ.own T τ h o.dst (parts.toList.map fun p=>(p.1,g p.2))|none=>none
 | .buildSlice j len parts=>match T j,o.dst with|some τ,some d=>fG T τ h e d len (parts.toList.map fun p=>(p.1,g p.2))|_,_=>none
 | .makeSlice j l c=>match T j,o.dst with|some τ,some d=>vJ T τ e d (g l) (g c)|_,_=>none
 | .binOp q j x y _=>match HY T j q (g x) (g y) with|some d=>some ⟨d,[]⟩|none=>none
 | .unOp q _ x=>match unD q (g x) with|some d=>some ⟨d,[]⟩|none=>none
 | .convert src r x=>match T r,T src,g x with
  | some τ,some _,.int _ n=>(match τ.ds with | .int k=>some ⟨.int k (k.wrap n),[]⟩|_=>none)
  | _,_,_=>none
 | .makeFunc A first caps=>match A with | .func f=>if (first.toList.map g++caps.toList.map g).all vT then some ⟨.clo f first.size (first.toList.map g++caps.toList.map g),[]⟩ else none|_=>none
 | .makeMap j none=>match T j,o.dst with|some τ,some d=>rn T j τ e d|_,_=>none
 | .lookup j m i B=>match T j with|some τ=>jT T τ h (g m) (g i) B|none=>none
 | .insert j m i x=>match T j with|some τ=>fh T τ h (g m) (g i) (g x)|none=>none
 | .mapUpdate j m i x=>match T j with|some τ=>fh T τ h (g m) (g i) (g x)|none=>none
 | .extract t i=>match g t with | .tup C=>(match C[i]? with|some d=>some ⟨d,[]⟩|none=>none)|_=>none
 | .call c=>match c.callee with
  | .value f=>kD Γ h e o.dst (g f) (c.args.toList.map g)
  | .builtin b=>eT T h e o.dst b c.argTypes.toList (c.args.toList.map g)
  | _=>none
 | _=>none
def jG(o:Oper)(a:Operand->D):List Nat :=
 match o.op with
 | .move _ | .pick _ _ _=>[]
 | .makeFunc _ _ _=>[]
 | op=>(op.operands.toList.flatMap fun x=>nm (a x))++o.dst.toList
theorem aA{α:Type}(f:Nat->α)(i:Nat)(v:α):cq f i v i=v:=by simp[cq]
theorem aG{α:Type}(f:Nat->α){i j:Nat}(v:α)(h:j≠i):cq f i v j=f j:=by simp[cq,h]
def afQ{α:Type}(f:Nat->α){i j:Nat}(v u:α)(h:i≠j):cq (cq f i v) j u=cq (cq f j u) i v:=by
 funext k;unfold cq;grind
def RP.tL{w:World}{M:Nat->Prop}{d:D}{u:Value}(h:RP w M d u)(a:bH d=true):u.oneCell'=true:=by
 cases h<;>simp_all [bH,Value.oneCell']
def RP.cells{w:World}{M:Nat->Prop}{d:D}{u:Value}(h:RP w M d u)(a:bH d=true):u.cells = #[u]:=by
 cases h with
 | ali x v s o n u h1=>cases u<;>simp_all [Value.oneCell',Value.cells]
 | alm x v u h1=>cases u<;>simp_all [Value.oneCell',Value.cells]
 | _=>simp_all [bH,Value.cells]
theorem cd{w:World}{M:Nat->Prop}{h:Nat->Option Row}{blk:Nat->Option (Nat×Nat)}{V:Nat->Nat->Prop}{d:D}{u:Value}(a:RP w M d u):RT w M h blk V d u:=by
 cases a with
 | int k n=>exact .int k n
 | bool b=>exact .bool b
 | str s=>exact .str s
 | sl A c nl tight n xs us h1 h2 h3 h4 h5 h6 h7 h8=>exact .sl A c nl tight n xs us h1 h2 h3 h4 h5 h6 h7 h8
 | ip xs ad us h6 h7 h8=>exact .ip xs ad us h6 h7 h8
 | agg xs us h1 h2 h3=>exact .agg xs us h1 h2 h3
 | tup xs us h1 h2=>exact .tup xs us h1 h2
 | fn f=>exact .fn f
 | ali x v s o n u h1=>exact .ali x v s o n u h1
 | mpc ks vs mb us h1 h2 h3 h4=>exact .mpc ks vs mb us h1 h2 h3 h4
 | alm x v u h1=>exact .alm x v u h1
 | clo f g xs us h1 h2 =>
  refine⟨us,rfl,h1,fun j x e =>?_⟩;have:=h2 j x e;cases x with
  | ptr x v o=>cases this
  | mp x v=>cases this
  | pm x v y=>cases this
  | _=>exact this
def acF(w:World)(M:Nat->Prop)(h:Nat->Option Row)(blk:Nat->Option (Nat×Nat))(V:Nat->Nat->Prop)(v:Value):RT w M h blk V (sf v) v:=by
 unfold sf;split
 ·exact .int _ _
 ·exact .bool _
 ·exact .str _
 ·exact .sl none 0 true true 0 [] (fun _=>undef) (am6 _) (am7 _) (fun _=>⟨fun _=>⟨rfl,rfl⟩,fun h=>by cases h⟩) (fun _=>⟨rfl,rfl⟩) (fun _=>rfl) (fun h=>absurd rfl h) (fun j x a=>by simp at a) (fun x a=>by simp at a)
 ·exact .mpc [] [] none (fun _=>undef) rfl (fun _=>rfl) (fun b c=>by cases c) (fun j x d=>by simp at d)
 ·trivial
structure LZ(w w':World)(M M':Nat->Prop)(h h':Nat->Option Row)(blk blk':Nat->Option (Nat×Nat))(V V':Nat->Nat->Prop):Prop where
 hk:∀b,b<w.heap.size->¬M b->b<w'.heap.size∧¬M' b∧w'.heap[b]? = w.heap[b]?
 hV:∀x v,V x v->V' x v
 hrow:∀x v,V x v->∀r',h' x=some r'->r'.v=v->(∃r,h x=some r∧r.v=v)∧blk' x=blk x∧∀g,blk x=some g->w'.shape? g.1=w.shape? g.1
def RC.mono{w l:World}{M m:Nat->Prop}{h n:Nat->Option Row}{blk b:Nat->Option (Nat×Nat)}{V p:Nat->Nat->Prop}(k:LZ w l M m h n blk b V p){d:D}{u:Value}
  (a:RC w M h blk V d u):RC l m n b p d u:=by
 cases d with
 | ptr x v o =>
  refine⟨k.hV _ _ a.1,fun c e f =>?_⟩;obtain⟨⟨r,g,i⟩,j,_⟩:=k.hrow x v a.1 c e f;rw[j];exact a.2 r g i
 | mp x v =>
  refine⟨k.hV _ _ a.1,fun c e f =>?_⟩;obtain⟨⟨r,g,i⟩,j,_⟩:=k.hrow x v a.1 c e f;rw[j];exact a.2 r g i
 | pm x v y =>
  refine⟨k.hV _ _ a.1,fun c e f =>?_⟩;obtain⟨⟨r,g,i⟩,j,_⟩:=k.hrow x v a.1 c e f;rw[j];exact a.2 r g i
 | _=>exact RP.keep k.hk a
def RT.mono{w A:World}{M B:Nat->Prop}{h C:Nat->Option Row}{blk b:Nat->Option (Nat×Nat)}{V E:Nat->Nat->Prop}(k:LZ w A M B h C blk b V E){d:D}{u:Value}
  (a:RT w M h blk V d u):RT A B C b E d u:=by
 cases d with
 | ptr x v o=>exact RC.mono (d:=.ptr x v o) k a
 | mp x v=>exact RC.mono (d:=.mp x v) k a
 | pm x v y=>exact RC.mono (d:=.pm x v y) k a
 | buf x v s o n =>
  refine⟨k.hV _ _ a.1,fun m e i =>?_⟩;obtain⟨⟨r,l,p⟩,q,F⟩:=k.hrow x v a.1 m e i;rw[q];rcases a.2 r l p with⟨g,G,c,N,t,H,I,J,K,L,O⟩|z
  ·grind
  ·exact .inr z
 | clo f U xs =>
  obtain⟨P,e,i,l⟩:=a;exact⟨P,e,i,fun j x Q=>(l j x Q).mono k⟩
 | box1 x v s o n =>
  obtain⟨R,S,T,a⟩:=a;refine⟨R,S,T,k.hV _ _ a.1,fun m e i =>?_⟩;obtain⟨⟨r,l,p⟩,q,F⟩:=k.hrow x v a.1 m e i;rw[q];rcases a.2 r l p with⟨g,G,c,N,t,H,I,J,K,L,O⟩|z
  ·simp_all
  ·exact .inr z
 | und=>trivial
 | skp=>exact a
 | _=>exact RP.keep k.hk a
theorem dy{w a:World}{b:Nat}(h:a.heap[b]? = w.heap[b]?):a.shape? b=w.shape? b:=by simp[World.shape?,h]
def fb.refl(L:Nat->Prop)(w:World):fb L w w:=⟨rfl,rfl,rfl,am6 _,fun _ _ _=>rfl⟩
theorem fb.trans{L L':Nat->Prop}{a b c:World}(h:fb L a b)(k:fb L' b c)(e:∀x,L' x->x<a.heap.size->L x):fb L a c :=
 ⟨k.os.trans h.os,k.tape.trans h.tape,k.output.trans h.output,am8 h.size k.size,fun i d hn=>(k.block i (am9 d h.size) (fun f=>hn (e i f d))).trans (h.block i d hn)⟩
def fb.xi{L:Nat->Prop}{w a:World}(h:Below w.heap.size w a):fb L w a:=⟨h.os,h.tape,h.output,h.size,fun k b _=>h.block k b⟩
def fb.below{L:Nat->Prop}{w a:World}(h:fb L w a)(c:∀b,¬L b):Below w.heap.size w a:=⟨h.os,h.tape,h.output,h.size,fun k d=>h.block k d (c k)⟩
def acy.keep{w a:World}{M c:Nat->Prop}{g:Nat×Nat}{r:Row}(h:acy w M g r)(i:a.heap[g.1]? = w.heap[g.1]?)(k:∀b,b<w.heap.size->¬M b->b<a.heap.size∧¬c b∧a.heap[b]? = w.heap[b]?):acy a c g r:=by
 obtain⟨l,m,n,e⟩:=h;exact⟨l,i.trans m,n,fun j d f=>⟨(e j d f).1,(e j d f).2.keep k⟩⟩
theorem Db.keep{w f:World}{M v:Nat->Prop}{g:Nat×Nat}{r r':Row}(h:Db w M g r)(z:r'.cells=r.cells)(i:r'.ty=r.ty)(y:f.heap[g.1]? = w.heap[g.1]?)(k:∀b,b<w.heap.size->¬M b->b<f.heap.size∧¬v b∧f.heap[b]? = w.heap[b]?):Db f v g r':=by
 obtain⟨A,B,C,D,E,F⟩:=h;refine⟨A,B,z.trans C,D,fun q =>?_,fun q =>?_⟩
 ·obtain⟨d,a,m,n,e,o,p,s⟩:=E (i ▸ q);exact⟨d,a,y.trans m,n,e,o,p,fun j x t=>(s j x t).keep k⟩
 ·rw[i];obtain⟨u,b,d,a,seen,c,l,o,m,n,p,s,e,G,H,I,J,K,L,N,O⟩:=F (i ▸ q);obtain⟨P,Q,R⟩:=k b n p;exact⟨u,b,d,a,seen,c,l,o,y.trans m,P,Q,R.trans s,e,G,H,I,J,K,L,N,fun j x t=>(O j x t).keep k⟩
def HM.keep{w a:World}{M c:Nat->Prop}{d:D}{u:Value}(h:HM w M d u)(e:∀b,b<w.heap.size->¬M b->b<a.heap.size∧¬c b∧a.heap[b]? = w.heap[b]?):HM a c d u:=by
 cases d with
 | ph _ _ _=>trivial
 | und=>trivial
 | _=>exact RP.keep e h
theorem HN.keep{w a:World}{M c:Nat->Prop}{g:Nat×Nat}{r r':Row}(h:HN w M g r)(e:r'.cells=r.cells)(n:r'.ty=r.ty)(o:a.heap[g.1]? = w.heap[g.1]?)(f:∀b,b<w.heap.size->¬M b->b<a.heap.size∧¬c b∧a.heap[b]? = w.heap[b]?):HN a c g r':=by
 obtain⟨i,k,p,l,m⟩:=h;exact⟨by rw[e];exact i,k,by simp_all,by rw[e];exact l,fun j d q=>(m j d (by simp_all)).keep f⟩
def fp.keep{w a:World}{M f:Nat->Prop}{g:Nat×Nat}{r r':Row}(h:fp w M g r)(i:r'.cells=r.cells)(p:r'.ty=r.ty)(l:r'.mp=r.mp)(q:a.heap[g.1]? = w.heap[g.1]?)(m:∀b,b<w.heap.size->¬M b->b<a.heap.size∧¬f b∧a.heap[b]? = w.heap[b]?):fp a f g r':=by
 unfold fp at h ⊢;rw[l];cases c:r.mp with
 | true =>
  grind[Db.keep,HN.keep]
 | false =>
  rw[c]at h;obtain⟨n,s,o,k⟩:=h;refine⟨n,by simp_all,by rw[i];exact o,fun j d e =>?_⟩;rw[i]at e;exact⟨(k j d e).1,(k j d e).2.keep m⟩
def fp.heap{w:World}{M:Nat->Prop}{g:Nat×Nat}{r:Row}(h:fp w M g r):g.1<w.heap.size:=by
 unfold fp at h;cases d:r.mp with
 | true =>
  rw[d]at h;rcases h with⟨m,n,_,_,i,j⟩|⟨_,k,f,_⟩
  ·by_cases q:r.ty<900000
   ·obtain⟨e,a,f,_⟩:=i q;grind
   ·obtain⟨_,b,e,a,seen,c,l,o,f,_⟩:=j (by omega);grind
  grind
 | false=>rw[d]at h;obtain⟨k,f,_⟩:=h;grind
def PhR.mono{w w':World}{h d:Nat->Option Row}{blk a:Nat->Option (Nat×Nat)}{x s n:Nat}{u:Value}(k:PhR w h blk x s n u)(e:∀b,d x=some b->(∃r,h x=some r)∧a x=blk x∧∀g,blk x=some g->w'.shape? g.1=w.shape? g.1):PhR w' d a x s n u:=by
 intro b f;obtain⟨⟨r,i⟩,j,m⟩:=e b f;rw[j];rcases k r i with⟨g,c,o,p,q,t,v,y,z,A⟩|l
 ·simp_all
 ·exact .inr l
def X5.keep{L:Nat->Prop}{w0 w w':World}{M a:Nat->Prop}{g:Option (Nat×Nat)}{r:Row}(h:X5 L w0 w M g r)(c:∀b,g=some b->w'.heap[b.1]? = w.heap[b.1]?)(d:∀b,b<w.heap.size->¬M b->b<w'.heap.size∧¬a b∧w'.heap[b]? = w.heap[b]?):X5 L w0 w' a g r:=by
 cases g with
 | none=>exact h
 | some g=>exact⟨h.1,h.2.keep rfl rfl rfl (c g rfl) d⟩
section
variable {N:Nat} {M:Nat->Prop} {L:mc} {w0:World} {blk:Nat->Option (Nat×Nat)} {V:Nat->Nat->Prop} {t:Nat->D} {h:Nat->Option Row} {a:Act} {w:World}
def Inv.ev(b:Inv N M L w0 blk V t h a w)(x:Operand):RT w (Own M h blk) h blk V (ev t x) (a.eval x):=by
 cases x with
 | tmp i=>exact b.slots i
 | const v=>exact acF _ _ _ _ _ v
 | global g=>trivial
 | func f=>exact RP.fn f
def Inv.Jr(b:Inv N M L w0 blk V t h a w){x:Nat}{r:Row}{g:Nat×Nat}(c:h x=some r)(d:blk x=some g)(e:r.mp=false):acy w (Own M h blk) g r:=by
 have:=(b.rows x r c).2;rw[d]at this;have:=this.2;unfold fp at this;simp_all
def Inv.rowIs(b:Inv N M L w0 blk V t h a w){x:Nat}{r:Row}{g:Nat×Nat}(c:h x=some r)(d:blk x=some g):fp w (Own M h blk) g r:=by
 have:=(b.rows x r c).2;rw[d]at this;exact this.2
def Inv.base(b:Inv N M L w0 blk V t h a w){x:Nat}{r:Row}{g:Nat×Nat}(c:h x=some r)(d:blk x=some g):w0.heap.size<=g.1∨LB L g.1:=by
 have:=(b.rows x r c).2;rw[d]at this;exact this.1
def Inv.lt(b:Inv N M L w0 blk V t h a w){x:Nat}{r:Row}{g:Nat×Nat}(c:h x=some r)(d:blk x=some g):g.1<w.heap.size:=by
 exact (b.rowIs c d).heap
def Inv.CS(c:Inv N M L w0 blk V t h a w){b:Nat}(d:Own M h blk b):b<w.heap.size:=by
 rcases d with d|⟨x,r,g,e,_,f,rfl⟩
 ·exact am9 (c.mlt b d) c.below.size
 ·exact c.lt e f
def Inv.notM(b:Inv N M L w0 blk V t h a w){x:Nat}{r:Row}{g:Nat×Nat}(c:h x=some r)(d:blk x=some g):¬M g.1:=by
 rcases b.base c d with h1|h1
 ·intro e;have:=b.mlt _ e;omega
 ·exact b.cg _ h1
def ad6(a:Array Value)(d i:Nat)(v:Value)(b:d<a.size):(a.setIfInBounds d v).getD i undef=if i=d then v else a.getD i undef:=by
 simp only[ana];grind
def Inv.put(b:Inv N M L w0 blk V t h a w){d:Nat}(e:d<N){x:D}{v:Value}(f:RT w (Own M h blk) h blk V x v):Inv N M L w0 blk V (cq t d x) h (a.put (some d) v) w where
 tab:=b.tab
 below:=b.below
 mlt:=b.mlt
 cg:=b.cg
 pin:=b.pin
 defers:=b.defers
 tsz:=by simp[Act.put,b.tsz]
 slots i:=by
  simp only[Act.put];rw[ad6 _ _ _ _ (by rw[b.tsz];exact e)]
  by_cases c:i=d
  ·subst c;simpa [cq] using f
  ·simpa [cq,c] using b.slots i
 rows:=b.rows
 inj:=b.inj
 ali:=b.ali
 pha:=b.pha
 big:=b.big
def Inv.weaken(b:Inv N M L w0 blk V t h a w){V':Nat->Nat->Prop}(hV:∀x v,V x v->V' x v):Inv N M L w0 blk V' t h a w where
 tab:=b.tab
 below:=b.below
 mlt:=b.mlt
 cg:=b.cg
 pin go k:=⟨hV _ _ (b.pin go k).1,(b.pin go k).2⟩
 defers:=b.defers
 tsz:=b.tsz
 slots i:=(b.slots i).mono ⟨fun _ e f=>⟨e,f,rfl⟩,hV,fun _ _ _ l e f=>⟨⟨l,e,f⟩,rfl,fun _ _=>rfl⟩⟩
 rows x r m:=⟨fun n=>hV _ _ ((b.rows x r m).1 n),(b.rows x r m).2⟩
 pha:=b.pha
 big:=b.big
 inj:=b.inj
 ali y r g o p q k j c d s z:=by
  obtain⟨u,e,f⟩:=b.ali y r g o p q k j c d s z;exact⟨u,e,f.mono ⟨fun _ e f=>⟨e,f,rfl⟩,hV,fun _ _ _ l e f=>⟨⟨l,e,f⟩,rfl,fun _ _=>rfl⟩⟩⟩
def Inv.later(e:Inv N M L w0 blk V t h a w){C:World}(hb:Below w.heap.size w C):Inv N M L w0 blk V t h a C where
 tab:=e.tab.keep fun b f l=>⟨am9 f hb.size,l,hb.block b f⟩
 below:=e.below.trans (fb.xi (L:=LB L) hb) (fun _ h _=>h)
 mlt:=e.mlt
 cg:=e.cg
 pin go k:=⟨(e.pin go k).1,fun r z D=>⟨((e.pin go k).2 r z D).1,fun g m=>by
  have f:=(e.pin go k).2 r z D;rw[<- f.2 g m];exact dy (hb.block _ (e.lt z (f.1.trans m)))⟩⟩
 defers:=e.defers
 tsz:=e.tsz
 slots i:=(e.slots i).mono ⟨fun b f l=>⟨am9 f hb.size,l,hb.block b f⟩,fun _ _ h=>h,
  fun x v _ o f l=>⟨⟨o,f,l⟩,rfl,fun g k=>dy (hb.block _ (e.lt f k))⟩⟩
 rows x r A:=⟨(e.rows x r A).1,(e.rows x r A).2.keep (fun g k=>hb.block _ (e.lt A k)) (fun b p E=>⟨am9 p hb.size,E,hb.block b p⟩)⟩
 inj:=e.inj
 big:=e.big
 pha y r g q hm k j x s n F:=by
  obtain⟨G,u,f,l⟩:=e.pha y r g q hm k j x s n F;exact⟨G,u,(am2 (a:=⟨g.1,g.2+j,none⟩) (hb.block _ (e.lt q k))).trans f,l.mono fun o p=>⟨⟨o,p⟩,rfl,fun O B=>dy (hb.block _ (e.lt p B))⟩⟩
 ali y r g q H I k j c d J K:=by
  obtain⟨u,f,l⟩:=e.ali y r g q H I k j c d J K;refine⟨u,(am2 (a:=⟨g.1,g.2+j,none⟩) (hb.block _ (e.lt q k))).trans f,l.mono ⟨fun b f l=>⟨am9 f hb.size,l,hb.block b f⟩,fun _ _ h=>h,
   fun x v _ o f l=>⟨⟨o,f,l⟩,rfl,fun g k=>dy (hb.block _ (e.lt f k))⟩⟩⟩
def Inv.drew(b:Inv N M L w0 blk V t h a w):Inv N M L w0 blk V t h a w.drew:=b.later ((Below.refl _ _).drew)
def Lc(l a:List (Nat×Option Row)):∀h:Nat->Option Row,aW h (l++a)=aW (aW h l) a:=by
 induction l with
 | nil=>intro h;rfl
 | cons p l b=>intro h;obtain⟨x,r⟩:=p;exact b _
theorem ju(h:Nat->Option Row)(l:List (Nat×Option Row))(x:Nat)(r:Option Row):aW h (l++[(x,r)])=cq (aW h l) x r:=by rw[Lc];rfl
theorem Ps(r:Row):(y9 r).fz=true:=by
 unfold y9;grind
theorem aiW(r:Row):(y9 r).v=r.v∧(y9 r).ty=r.ty∧(y9 r).cells=r.cells∧(y9 r).mp=r.mp∧((y9 r).lst=false->y9 r=r):=by
 unfold y9;grind
theorem VI(h:Nat->Option Row)(x:Nat):∀(a:List Nat)(g:Nat->Option Row),(∀y,y∉a->g y=h y∨g y=(h y).map y9) ->
  (x∈a->aW g (lJ h a) x=(h x).map y9)∧(x∉a->aW g (lJ h a) x=g x):=by
 intro a
 induction a with
 | nil=>intro g _;exact⟨fun b=>by simp at b,fun _=>rfl⟩
 | cons y a i =>
  intro g k;simp only[lJ,anb,aW];have d:∀z,z∉a->(cq g y ((h y).map y9)) z=h z∨(cq g y ((h y).map y9)) z=(h z).map y9:=by
   intro z l
   by_cases e:z=y
   ·subst e;right;simp[cq]
   simp_all[cq,if_false]
  obtain⟨j,f⟩:=i _ d;refine⟨fun b =>?_,fun b =>?_⟩
  ·by_cases c:x∈a
   ·exact j c
   ·have:x=y:=by simp_all
    subst this;exact (f c).trans (by simp[cq])
  ·simp only[anc,not_or]at b;exact (f b.2).trans (by simp[cq,b.1])
def Ez(h:Nat->Option Row)(a:List Nat)(x:Nat):aW h (lJ h a) x=if x∈a then (h x).map y9 else h x:=by
 grind[VI]
def Inv.freeze(f:Inv N M L w0 blk V t h a w)(C:List Nat):Inv N M L w0 blk V t (aW h (lJ h C)) a w:=by
 have o:∀x r',aW h (lJ h C) x=some r'->∃r,h x=some r∧r'.v=r.v∧r'.ty=r.ty∧r'.cells=r.cells∧(r'.fz=false->r.fz=false)∧(r'.lst=false->r'=r)∧r'.mp=r.mp:=by
  intro x r' l;rw[Ez]at l;split at l
  ·cases D:h x with
   | none=>simp[D]at l
   | some r =>
    grind[Option.some.injEq,aiW,Ps]
  simp_all
 have A:∀b,¬Own M h blk b->¬Own M (aW h (lJ h C)) blk b:=by
  intro b q p;rcases p with p|⟨x,r',g,l,E,k,rfl⟩
  ·exact q (.inl p)
  ·obtain⟨r,e,_,_,_,P,_⟩:=o x r' l;exact q (.inr ⟨x,r,g,e,P E,k,rfl⟩)
 exact {
  tab:=f.tab.keep fun b e d=>⟨e,A b d,rfl⟩
  below:=f.below
  mlt:=f.mlt
  cg:=f.cg
  pin:=fun J k=>⟨(f.pin J k).1,fun r' D hv=>by
   obtain⟨r,m,B,_⟩:=o 0 r' D;exact (f.pin J k).2 r m (by omega)⟩
  defers:=f.defers
  tsz:=f.tsz
  slots:=fun i=>(f.slots i).mono ⟨fun b e d=>⟨e,A b d,rfl⟩,fun _ _ h=>h,fun x v _ r' e d=>by
   grind⟩
  rows:=fun x r' l=>by
   obtain⟨r,m,B,Q,F,_,_,G⟩:=o x r' l;obtain⟨e,d⟩:=f.rows x r m;rw[B];refine⟨e,?_⟩;cases q:blk x with
   | none=>rw[q]at d;exact F.trans d
   | some g =>
    rw[q]at d;exact⟨d.1,d.2.keep F Q G rfl fun b K R=>⟨K,A b R,rfl⟩⟩
  inj:=fun x y r s g S l z k H T=>by
   obtain⟨r',m,_⟩:=o x r l;obtain⟨U,B,_⟩:=o y s z;exact f.inj x y r' U g S m B k H T
  big:=f.big
  pha:=fun y r' g z W k j x s n hc=>by
   obtain⟨r,m,_,_,F,_,_,G⟩:=o y r' z;obtain⟨X,u,e,d⟩:=f.pha y r g m (G.symm.trans W) k j x s n (by simp_all);exact⟨X,u,e,d.mono fun Y K=>by
    grind⟩
  ali:=fun y r' g z E O k j c Z hj I=>by
   obtain⟨r,m,_,_,_,_,g6,_⟩:=o y r' z;obtain rfl:=g6 O;obtain⟨u,e,d⟩:=f.ali y r' g m E O k j c Z hj I;exact⟨u,e,d.mono ⟨fun b e d=>⟨e,A b d,rfl⟩,fun _ _ h=>h,fun x v _ r' e d=>by
    grind⟩⟩ }
def forget(h:Nat->Option Row):Option Nat->Nat->Option Row
 | some y=>cq h y none
 | none=>h
def Inv.HS(p:Inv N M L w0 blk V t h a w){w':World}{h1:Nat->Option Row}{old:Option Nat}{d e:Nat}{r0:Row}{go:Option (Nat×Nat)}
  (ad:w'.os=w.os) (R:w'.tape=w.tape) (Z:w'.output=w.output) (S:w.heap.size<=w'.heap.size)
  (hblock:∀k,k<w.heap.size->(∀y g,old=some y->blk y=some g->k≠g.1)->w'.heap[k]? = w.heap[k]?)
  (q:∀y,old=some y->∃r,h y=some r∧r.fz=false) (aa:h1=forget h old) (hV:lE N V d e)
  (A:match go with
   | some g=>(w.heap.size<=g.1∨∃y F,old=some y∧blk y=some F∧g.1=F.1)∧fp w' (fun b=>Own M h1 blk b∨b=g.1) g r0
   | none=>r0.cells=[]) (al:r0.fz=false) (I:r0.v=e) (ao:r0.mp=true->∀g,go=some g->∀j x s n:Nat,r0.cells[j]? = some (D.ph x s n)->VC d j x∧∃u,w'.cell? ⟨g.1,g.2+j,none⟩=some u∧PhR w' (cq h1 d (some r0)) (cq blk d go) x s n u:=by (intro h;cases h)) :
  Inv N M L w0 (cq blk d go) (fun x v=>V x v∨(x=d∧v=e)) t (cq h1 d (some r0)) a w':=by
 have B:∀x r,h1 x=some r->h x=some r∧∀y,old=some y->x≠y:=by
  intro x r o;cases old with
  | none=>subst aa;simp_all
  | some y =>
   subst aa;simp_all[forget,cq,aG]
 have hne:∀x r g,h1 x=some r->blk x=some g->∀y F,old=some y->blk y=some F->g.1≠F.1:=by
  intro x r g o l y F m z C;obtain⟨s,J,_⟩:=q y m;exact (B x r o).2 y m (p.inj x y r s g F (B x r o).1 J l z C)
 have aq:∀x r g H,h1 x=some r->blk x=some g->go=some H->g.1≠H.1:=by
  intro x r g H o l ae C;subst ae;rcases A.1 with hn|⟨y,F,m,z,K⟩
  ·have:=p.lt (B x r o).1 l;omega
  grind
 have T:∀b,b<w.heap.size->¬Own M h blk b->w'.heap[b]? = w.heap[b]?:=by
  intro b P hn;refine hblock b P fun y g m l C =>?_;obtain⟨s,J,U⟩:=q y m;exact hn (.inr ⟨y,s,g,J,U,l,C.symm⟩)
 have ab:∀b,b<w.heap.size->¬Own M h blk b->¬Own M (cq h1 d (some r0)) (cq blk d go) b:=by
  intro b P hn W;rcases W with W|⟨x,r,g,o,U,l,C⟩
  ·exact hn (.inl W)
  ·by_cases f:x=d
   ·subst f;rw[aA]at l;subst l;rcases A.1 with ar|⟨y,F,m,z,K⟩
    ·omega
    ·obtain⟨s,J,ag⟩:=q y m;exact hn (.inr ⟨y,s,F,J,ag,z,by rw[<- K,C]⟩)
   ·rw[aG _ _ f]at o l;exact hn (.inr ⟨x,r,g,(B x r o).1,U,l,C⟩)
 have hk:∀b,b<w.heap.size->¬Own M h blk b->b<w'.heap.size∧¬Own M (cq h1 d (some r0)) (cq blk d go) b∧w'.heap[b]? = w.heap[b]? :=
  fun b h1 h2=>⟨by omega,ab b h1 h2,T b h1 h2⟩
 have hrowsame:∀x r g,h1 x=some r->blk x=some g->w'.heap[g.1]? = w.heap[g.1]?:=fun x r g o l=>hblock _ (p.lt (B x r o).1 l) (fun y F m z=>hne x r g o l y F m z);exact {
  tab:=p.tab.keep hk
  below:=p.below.trans (L':=fun k=>∃y g,old=some y∧blk y=some g∧k=g.1) ⟨ad,R,Z,S,fun k ah hn=>hblock k ah (fun y g m l C=>hn ⟨y,g,m,l,C⟩)⟩ (fun k ⟨y,g,m,l,C⟩ ai=>by
   obtain⟨s,J,_⟩:=q y m;rcases p.base J l with P|P
   ·omega
   grind)
  mlt:=p.mlt
  cg:=p.cg
  pin:=fun X l=>⟨.inl (p.pin X l).1,fun r hr Y=>by
   by_cases f:0=d
   ·subst f;rw[aA]at hr;simp only[anf]at hr;subst hr;rw[I]at Y;subst Y;exact absurd (p.pin X l).1 hV.no
   ·rw[aG _ _ f]at hr;rw[aG _ _ f];obtain⟨k1,k2⟩:=(p.pin X l).2 r (B 0 r hr).1 Y;grind[trans,dy]⟩
  defers:=p.defers
  tsz:=p.tsz
  slots:=fun i=>(p.slots i).mono ⟨hk,fun _ _ h =>.inl h,fun x v Y Q E H=>by
   by_cases f:x=d
   ·subst f;rw[aA]at E;simp only[anf]at E;subst E;rw[I]at H;subst H;exact absurd Y hV.no
   grind[aG,dy]⟩
  rows:=fun x r o=>by
   by_cases f:x=d
   ·subst f;rw[aA]at o;simp only[anf]at o;subst o;rw[aA];refine⟨fun _ =>.inr ⟨rfl,I⟩,?_⟩;cases go with
    | none=>exact A
    | some g =>
     obtain⟨n1,n2⟩:=A;refine⟨?_,n2.keep rfl rfl rfl rfl fun b q1 q2=>⟨q1,fun P=>q2 ?_,rfl⟩⟩;rotate_left
     ·rcases P with P|⟨x',r,g',o,U,l,C⟩
      ·exact .inl (.inl P)
      ·by_cases f:x'=x
       ·grind[aA]
       ·rw[aG _ _ f]at o l;exact .inl (.inr ⟨x',r,g',o,U,l,C⟩)
     rcases n1 with l|⟨y,F,m,z,K⟩
     ·exact .inl (am8 p.below.size l)
     ·obtain⟨s,J,_⟩:=q y m;rw[K];exact p.base J z
   ·rw[aG _ _ f]at o;rw[aG _ _ f];exact⟨fun hn =>.inl ((p.rows x r (B x r o).1).1 hn),(p.rows x r (B x r o).1).2.keep (fun g l=>hrowsame x r g o l) hk⟩
  inj:=fun x y r s g g' o m l O C=>by
   by_cases f:x=d
   ·grind[aG,aA]
   ·by_cases G:y=d
    ·grind[aG,aA]
    ·rw[aG _ _ f]at o l;rw[aG _ _ G]at m O;exact p.inj x y r s g g' (B x r o).1 (B y s m).1 l O C
  big:=p.big
  pha:=fun y r g m hm l j x s n hc=>by
   by_cases G:y=d
   ·grind[aA,Option.some.injEq]
   ·rw[aG _ _ G]at m l;obtain⟨h0,u,k1,k2⟩:=p.pha y r g (B y r m).1 hm l j x s n hc;have ai:=hV.lt;have ak:=p.big;have au:PK=1000000:=rfl;have f:x≠d:=by simp only[VC,NK]at h0;grind
    exact⟨h0,u,(am2 (a:=⟨g.1,g.2+j,none⟩) (hrowsame y r g m l)).trans k1,k2.mono fun Q E=>by
     rw[aG _ _ f]at E;exact⟨⟨Q,(B x Q E).1⟩,aG _ _ f,fun g' O=>dy (hrowsame x Q g' E O)⟩⟩
  ali:=fun y r g m U hl l j c d' hj aj=>by
   by_cases G:y=d
   ·grind[aA]
   ·rw[aG _ _ G]at m l;obtain⟨u,h1,h2⟩:=p.ali y r g (B y r m).1 U hl l j c d' hj aj;exact⟨u,(am2 (a:=⟨g.1,g.2+j,none⟩) (hrowsame y r g m l)).trans h1,h2.mono ⟨hk,fun _ _ h =>.inl h,fun x v Y Q E H=>by
     by_cases f:x=d
     ·subst f;rw[aA]at E;simp only[anf]at E;subst E;rw[I]at H;subst H;exact absurd Y hV.no
     ·rw[aG _ _ f]at E;exact⟨⟨Q,(B x Q E).1,H⟩,aG _ _ f,fun g l=>dy (hrowsame x Q g E l)⟩⟩⟩ }
def Inv.acP(o:Inv N M L w0 blk V t h a w){w':World}{h1:Nat->Option Row}{old:Option Nat}{d:Nat}{r0:Row}{go:Option (Nat×Nat)}
  (aa:w'.os=w.os) (O:w'.tape=w.tape) (U:w'.output=w.output) (P:w.heap.size<=w'.heap.size)
  (hblock:∀k,k<w.heap.size->(∀y g,old=some y->blk y=some g->k≠g.1)->w'.heap[k]? = w.heap[k]?)
  (p:∀y,old=some y->∃r,h y=some r∧r.fz=false) (ab:h1=forget h old) (aj:N<=d) (ak:d≠0) (al:¬V d r0.v) (ao:∀(y:Nat)(r:Row)(j s n:Nat),h1 y=some r->r.mp=true->r.cells[j]? = some (D.ph d s n)->False)
  (z:match go with
   | some g=>(w.heap.size<=g.1∨∃y C,old=some y∧blk y=some C∧g.1=C.1)∧fp w' (fun b=>Own M h1 blk b∨b=g.1) g r0
   | none=>r0.cells=[]) (aq:r0.fz=false) (ar:r0.mp=true->∀j x s n:Nat,r0.cells[j]?≠some (D.ph x s n):=by (intro h;cases h)) :
  Inv N M L w0 (cq blk d go) V t (cq h1 d (some r0)) a w':=by
 have ai:=o.big;have au:PK=1000000:=rfl;have A:∀x r,h1 x=some r->h x=some r∧∀y,old=some y->x≠y:=by
  intro x r m;cases old with
  | none=>subst ab;simp_all
  | some y =>
   simp_all[forget,cq,aG]
 have hne:∀x r g,h1 x=some r->blk x=some g->∀y C,old=some y->blk y=some C->g.1≠C.1:=by
  intro x r g m e y C l q B;obtain⟨s,F,_⟩:=p y l;exact (A x r m).2 y l (o.inj x y r s g C (A x r m).1 F e q B)
 have av:∀x r g T,h1 x=some r->blk x=some g->go=some T->g.1≠T.1:=by
  intro x r g T m e ad B;subst ad;rcases z.1 with hn|⟨y,C,l,q,G⟩
  ·have:=o.lt (A x r m).1 e;omega
  grind
 have Q:∀b,b<w.heap.size->¬Own M h blk b->w'.heap[b]? = w.heap[b]?:=by
  intro b I hn;refine hblock b I fun y g l e B =>?_;obtain⟨s,F,R⟩:=p y l;exact hn (.inr ⟨y,s,g,F,R,e,B.symm⟩)
 have W:∀b,b<w.heap.size->¬Own M h blk b->¬Own M (cq h1 d (some r0)) (cq blk d go) b:=by
  intro b I hn S;rcases S with S|⟨x,r,g,m,R,e,B⟩
  ·exact hn (.inl S)
  ·by_cases f:x=d
   ·subst f;rw[aA]at e;subst e;rcases z.1 with aw|⟨y,C,l,q,G⟩
    ·omega
    ·obtain⟨s,F,ae⟩:=p y l;exact hn (.inr ⟨y,s,C,F,ae,q,by rw[<- G,B]⟩)
   ·rw[aG _ _ f]at m e;exact hn (.inr ⟨x,r,g,(A x r m).1,R,e,B⟩)
 have Z:∀b,b<w.heap.size->¬Own M h blk b->b<w'.heap.size∧¬Own M (cq h1 d (some r0)) (cq blk d go) b∧w'.heap[b]? = w.heap[b]? :=
  fun b h1 h2=>⟨by omega,W b h1 h2,Q b h1 h2⟩
 have hrowsame:∀x r g,h1 x=some r->blk x=some g->w'.heap[g.1]? = w.heap[g.1]?:=fun x r g m e=>hblock _ (o.lt (A x r m).1 e) (fun y C l q=>hne x r g m e y C l q);exact {
  tab:=o.tab.keep Z
  below:=o.below.trans (L':=fun k=>∃y g,old=some y∧blk y=some g∧k=g.1) ⟨aa,O,U,P,fun k ag hn=>hblock k ag (fun y g l e B=>hn ⟨y,g,l,e,B⟩)⟩ (fun k ⟨y,g,l,e,B⟩ ax=>by
   obtain⟨s,F,_⟩:=p y l;rcases o.base F e with I|I
   ·omega
   grind)
  mlt:=o.mlt
  cg:=o.cg
  pin:=fun X e=>⟨(o.pin X e).1,fun r hr hv=>by
   by_cases f:0=d
   ·omega
   ·rw[aG _ _ f]at hr;rw[aG _ _ f];obtain⟨k1,k2⟩:=(o.pin X e).2 r (A 0 r hr).1 hv;grind[trans,dy]⟩
  defers:=o.defers
  tsz:=o.tsz
  slots:=fun i=>(o.slots i).mono ⟨Z,fun _ _ h=>h,fun x v hv J K T=>by
   grind[aA,aG,dy]⟩
  rows:=fun x r m=>by
   by_cases f:x=d
   ·subst f;rw[aA]at m;simp only[anf]at m;subst m;rw[aA];refine⟨fun hn=>by omega,?_⟩;cases go with
    | none=>exact z
    | some g =>
     obtain⟨n1,n2⟩:=z;refine⟨?_,n2.keep rfl rfl rfl rfl fun b q1 q2=>⟨q1,fun I=>q2 ?_,rfl⟩⟩;rotate_left
     ·rcases I with I|⟨x',r,Y,m,R,e,B⟩
      ·exact .inl (.inl I)
      ·by_cases f:x'=x
       ·grind[aA]
       ·rw[aG _ _ f]at m e;exact .inl (.inr ⟨x',r,Y,m,R,e,B⟩)
     rcases n1 with e|⟨y,C,l,q,G⟩
     ·exact .inl (am8 o.below.size e)
     ·obtain⟨s,F,_⟩:=p y l;rw[G];exact o.base F q
   ·rw[aG _ _ f]at m;rw[aG _ _ f];exact⟨fun hn=>(o.rows x r (A x r m).1).1 hn,(o.rows x r (A x r m).1).2.keep (fun g e=>hrowsame x r g m e) Z⟩
  inj:=fun x y r s g Y m l e H B=>by
   by_cases f:x=d
   ·grind[aG,aA]
   ·by_cases E:y=d
    ·grind[aG,aA]
    ·rw[aG _ _ f]at m e;rw[aG _ _ E]at l H;exact o.inj x y r s g Y (A x r m).1 (A y s l).1 e H B
  big:=o.big
  pha:=fun y r g l hm e j x s n hc=>by
   by_cases E:y=d
   ·grind[aA]
   ·rw[aG _ _ E]at l e;obtain⟨h0,u,k1,k2⟩:=o.pha y r g (A y r l).1 hm e j x s n hc;have f:x≠d:=by
     grind
    exact⟨h0,u,(am2 (a:=⟨g.1,g.2+j,none⟩) (hrowsame y r g l e)).trans k1,k2.mono fun J K=>by
     rw[aG _ _ f]at K;exact⟨⟨J,(A x J K).1⟩,aG _ _ f,fun Y H=>dy (hrowsame x J Y K H)⟩⟩
  ali:=fun y r g l R hl e j c d' hj ah=>by
   by_cases E:y=d
   ·grind[aA]
   ·rw[aG _ _ E]at l e;obtain⟨u,h1,h2⟩:=o.ali y r g (A y r l).1 R hl e j c d' hj ah;exact⟨u,(am2 (a:=⟨g.1,g.2+j,none⟩) (hrowsame y r g l e)).trans h1,h2.mono ⟨Z,fun _ _ h=>h,fun x v hv J K T=>by
     by_cases f:x=d
     ·grind[aA]
     ·rw[aG _ _ f]at K;exact⟨⟨J,(A x J K).1,T⟩,aG _ _ f,fun g e=>dy (hrowsame x J g K e)⟩⟩⟩ }
def Inv.acQ(u:Inv N M L w0 blk V t h a w){w':World}{h1:Nat->Option Row}{old:Option Nat}{d:Nat}{r0:Row}{go:Option (Nat×Nat)}
  (A:w'.os=w.os) (f:w'.tape=w.tape) (m:w'.output=w.output) (i:w.heap.size<=w'.heap.size)
  (c:∀k,k<w.heap.size->(∀y g,old=some y->blk y=some g->k≠g.1)->w'.heap[k]? = w.heap[k]?)
  (o:∀y,old=some y->∃r,h y=some r∧r.fz=false) (l:h1=forget h old) {y0:Nat} (O:d=PK+y0) (G:y0<N) (B:∀v,¬V d v) (P:∀r,h1 y0=some r->r.mp=false)
  (p:match go with
   | some g=>(w.heap.size<=g.1∨∃y H,old=some y∧blk y=some H∧g.1=H.1)∧fp w' (fun b=>Own M h1 blk b∨b=g.1) g r0
   | none=>r0.cells=[]) (C:r0.fz=false) (E:r0.mp=true->∀j x s n:Nat,r0.cells[j]?≠some (D.ph x s n):=by (intro h;cases h)) :
  Inv N M L w0 (cq blk d go) V t (cq h1 d (some r0)) a w':=by
 have Q:PK=1000000:=rfl;have I:=u.big;refine u.acP A f m i c o l (by omega) (by omega) (B _) (fun y r j s n J R F =>?_) p C E;have q:h y=some r:=by
  cases old with
  | none=>subst l;exact J
  | some z =>
   subst l;simp only[forget]at J;grind[aA,aG]
 have e:=(u.rows y r q).2;cases K:blk y with
 | none =>
  rw[K]at e;rw[show r.cells=[] from e]at F;cases F
 | some g =>
  have S:=(u.pha y r g q R K j _ s n F).1;grind[VC,NK]
def Inv.VH(E:Inv N M L w0 blk V t h a w){w':World}{p:Nat->Option Row}{old:Option Nat}{d e q:Nat}{m s:Bool}{go:Option (Nat×Nat)}{cs:List D}
  (u:w'.os=w.os) (i:w'.tape=w.tape) (n:w'.output=w.output) (l:w.heap.size<=w'.heap.size)
  (c:∀k,k<w.heap.size->(∀y g,old=some y->blk y=some g->k≠g.1)->w'.heap[k]? = w.heap[k]?)
  (o:∀y,old=some y->∃r,h y=some r∧r.fz=false) (z:p=forget h old) (F:lE N V d e)
  (f:match go with
   | some g=>(w.heap.size<=g.1∨∃y C,old=some y∧blk y=some C∧g.1=C.1)∧∃A:Array Value,w'.heap[g.1]? = some (.cells A q (0,0))∧g.2+cs.length<=A.size∧∀j x,cs[j]? = some x->bH x=true∧RP w' (fun b=>Own M p blk b∨b=g.1) x (A.getD (g.2+j) undef)
   | none=>cs=[]) (B:s=false:=by rfl) :
  Inv N M L w0 (cq blk d go) (fun x v=>V x v∨(x=d∧v=e)) t (cq p d (some ⟨e,q,cs,s,m,false⟩)) a w':=by
 refine E.HS (r0:=⟨e,q,cs,s,m,false⟩) u i n l c o z F ?_ B rfl;cases go with
 | none=>exact f
 | some g=>exact f
def Inv.acO(K:Inv N M L w0 blk V t h a w){w':World}{h1:Nat->Option Row}{old:Option Nat}{d e ty:Nat}{lst fz:Bool}{go:Option (Nat×Nat)}{cs:List D}
  (A:w'.os=w.os) (l:w'.tape=w.tape) (p:w'.output=w.output) (m:w.heap.size<=w'.heap.size)
  (c:∀k,k<w.heap.size->(∀y g,old=some y->blk y=some g->k≠g.1)->w'.heap[k]? = w.heap[k]?)
  (f:∀y,old=some y->∃r,h y=some r∧r.fz=false) (q:h1=forget h old) (O:lE N V d e)
  (i:match go with
   | some g=>(w.heap.size<=g.1∨∃y o,old=some y∧blk y=some o∧g.1=o.1)∧∃s:Array Value,w'.heap[g.1]? = some (.cells s ty (0,0))∧g.2+cs.length<=s.size∧∀j x,cs[j]? = some x->bH x=true∧RP w (Own M h blk) x (s.getD (g.2+j) undef)
   | none=>cs=[]) (hfz:fz=false:=by rfl) :
  Inv N M L w0 (cq blk d go) (fun x v=>V x v∨(x=d∧v=e)) t (cq h1 d (some ⟨e,ty,cs,fz,lst,false⟩)) a w':=by
 refine K.VH A l p m c f q O ?_ hfz;cases go with
 | none=>exact i
 | some g =>
  obtain⟨B,s,P,Q,I⟩:=i;refine⟨B,s,P,Q,fun j x J=>⟨(I j x J).1,(I j x J).2.keep fun b R C=>⟨by omega,?_,?_⟩⟩⟩
  ·rintro (E|rfl)
   ·apply C;rcases E with E|⟨x,r,S,T,u,F,z⟩
    ·exact .inl E
    ·refine .inr ⟨x,r,S,?_,u,F,z⟩;subst q;cases old with
     | none=>exact T
     | some y =>
      simp_all[forget,cq,aG]
   ·rcases B with B|⟨y,o,G,n,z⟩
    ·omega
    ·obtain⟨r,H,u⟩:=f y G;exact C (.inr ⟨y,r,o,H,u,n,z.symm⟩)
  ·refine c b R fun y o G n z =>?_;obtain⟨r,H,u⟩:=f y G;exact C (.inr ⟨y,r,o,H,u,n,z.symm⟩)
def Inv.alloc(f:Inv N M L w0 blk V t h a w){d e ty:Nat}{lst:Bool}{cs:List D}{vs:Array Value}(g:lE N V d e)(i:cs.length<=vs.size)
  (n:∀j x,cs[j]? = some x->bH x=true∧RP w (Own M h blk) x (vs.getD j undef)) :
  Inv N M L w0 (cq blk d (some (w.heap.size,0))) (fun x v=>V x v∨(x=d∧v=e)) t (cq h d (some ⟨e,ty,cs,false,lst,false⟩)) a (w.alloc (.cells vs ty)):=by
 have hold:∀b,b<w.heap.size->(w.alloc (.cells vs ty)).heap[b]? = w.heap[b]?:=fun b c=>Below.heap_alloc w _ b c;have c:=(Below.refl w.heap.size w).alloc (am6 _) (.cells vs ty);refine f.acO (h1:=h) (old:=none) c.os c.tape c.output c.size (fun k l _=>hold k l) (fun y m=>by cases m) rfl g ?_;exact⟨.inl (am6 _),vs,heap_alloc_new w _,by simpa using i,fun j x o=>by grind⟩
def Inv.drop(hI:Inv N M L w0 blk V t h a w)(y:Nat):Inv N M L w0 blk V t (cq h y none) a w:=by
 have d:∀x r,cq h y none x=some r->h x=some r:=by
  grind[aA,aG]
 have q:∀b,¬Own M h blk b->¬Own M (cq h y none) blk b:=by
  intro b G m;rcases m with m|⟨x,r,g,o,A,k,B⟩
  ·exact G (.inl m)
  ·exact G (.inr ⟨x,r,g,d x r o,A,k,B⟩)
 exact {
  tab:=hI.tab.keep fun b e f=>⟨e,q b f,rfl⟩
  below:=hI.below
  mlt:=hI.mlt
  cg:=hI.cg
  pin:=fun H k=>⟨(hI.pin H k).1,fun r I J=>(hI.pin H k).2 r (d 0 r I) J⟩
  defers:=hI.defers
  tsz:=hI.tsz
  slots:=fun i=>(hI.slots i).mono ⟨fun b e f=>⟨e,q b f,rfl⟩,fun _ _ h=>h,fun x v _ l e f=>⟨⟨l,d x l e,f⟩,rfl,fun _ _=>rfl⟩⟩
  rows:=fun x r o=>⟨(hI.rows x r (d x r o)).1,(hI.rows x r (d x r o)).2.keep (fun _ _=>rfl) (fun b C D=>⟨C,q b D,rfl⟩)⟩
  inj:=fun x y r s g K o p k E B=>hI.inj x y r s g K (d x r o) (d y s p) k E B
  big:=hI.big
  pha:=fun z r g p O k j x s n P=>by
   obtain⟨Q,u,C,D⟩:=hI.pha z r g (d z r p) O k j x s n P;exact⟨Q,u,C,D.mono fun l R=>⟨⟨l,d x l R⟩,rfl,fun _ _=>rfl⟩⟩
  ali:=fun z r g p A S k j c T U F=>by
   obtain⟨u,e,f⟩:=hI.ali z r g (d z r p) A S k j c T U F;exact⟨u,e,f.mono ⟨fun b e f=>⟨e,q b f,rfl⟩,fun _ _ h=>h,fun x v _ l e f=>⟨⟨l,d x l e,f⟩,rfl,fun _ _=>rfl⟩⟩⟩ }
def Inv.lM(l:Inv N M L w0 blk V t h a w){x:Nat}{r:Row}(P:h x=some r)(hz:r.fz=false){r0:Row}{w':World}(W:r0.v=r.v)
  (X:w'.os=w.os) (C:w'.tape=w.tape) (Q:w'.output=w.output) (E:w.heap.size<=w'.heap.size) (hheap:∀b,b<w.heap.size->(∀g,blk x=some g->b≠g.1)->w'.heap[b]? = w.heap[b]?)
  (o:match blk x with
   | some g=>w'.shape? g.1=w.shape? g.1∧fp w' (Own M h blk) g r0
   | none=>r0.cells=[])
  (ae:r0.fz=true->r0.lst=false->∀g,blk x=some g->∀j c d,r0.cells[j]? = some c->alD c=some d->∃u,w'.cell? ⟨g.1,g.2+j,none⟩=some u∧RT w (Own M h blk) h blk V d u) (hph:r0.mp=true->∀g,blk x=some g->∀j H s n:Nat,r0.cells[j]? = some (D.ph H s n)->VC x j H∧∃u,w'.cell? ⟨g.1,g.2+j,none⟩=some u∧PhR w h blk H s n u:=by (intro h;cases h)) :
  Inv N M L w0 blk V t (cq h x (some r0)) a w':=by
 have S:∀y s,cq h x (some r0) y=some s->∃s',h y=some s'∧s.v=s'.v∧(s.fz=false->s'.fz=false):=by
  grind[aA,aG]
 have ho:∀b,¬Own M h blk b->¬Own M (cq h x (some r0)) blk b:=by
  intro b T F;rcases F with F|⟨y,s,p,f,G,q,U⟩
  ·exact T (.inl F)
  ·obtain⟨s',B,_,h3⟩:=S y s f;exact T (.inr ⟨y,s',p,B,h3 G,q,U⟩)
 have A:∀b,b<w.heap.size->¬Own M h blk b->w'.heap[b]? = w.heap[b]?:=fun b B h2=>hheap b B (fun g m e=>h2 (.inr ⟨x,r,g,P,hz,m,e.symm⟩));have I:∀b,b<w.heap.size->¬Own M h blk b->b<w'.heap.size∧¬Own M (cq h x (some r0)) blk b∧w'.heap[b]? = w.heap[b]? :=
  fun b B h2=>⟨by omega,ho b h2,A b B h2⟩
 have hother:∀y s p,y≠x->h y=some s->blk y=some p->w'.heap[p.1]? = w.heap[p.1]?:=fun y s p hyx f q=>hheap _ (l.lt f q) (fun g m e=>hyx (l.inj y x s r p g f P q m e));have Y:∀y s p,h y=some s->blk y=some p->w'.shape? p.1=w.shape? p.1:=by
  grind[dy]
 exact {
  tab:=l.tab.keep I
  below:=l.below.trans (L':=fun k=>∃g,blk x=some g∧k=g.1) ⟨X,C,Q,E,fun k I hn=>hheap k I (fun g m e=>hn ⟨g,m,e⟩)⟩ (fun k ⟨g,m,U⟩ ag=>by
   rcases l.base P m with T|T
   ·omega
   simp_all)
  mlt:=l.mlt
  cg:=l.cg
  pin:=fun go m=>⟨(l.pin go m).1,fun s hs hv=>by
   obtain⟨s',R,g2,_⟩:=S 0 s hs;obtain⟨J,K⟩:=(l.pin go m).2 s' R (by omega);grind⟩
  defers:=l.defers
  tsz:=l.tsz
  slots:=fun i=>(l.slots i).mono ⟨I,fun _ _ h=>h,fun y v _ s B h2=>by
   grind⟩
  rows:=fun y s f=>by
   by_cases hyx:y=x
   ·subst hyx;rw[aA]at f;simp only[anf]at f;subst f;refine⟨fun hn=>by rw[W];exact (l.rows y r P).1 hn,?_⟩;cases m:blk y with
    | none=>rw[m]at o;exact o
    | some g =>
     rw[m]at o;exact⟨l.base P m,o.2.keep rfl rfl rfl rfl fun b q1 q2=>⟨q1,ho b q2,rfl⟩⟩
   ·rw[aG _ _ hyx]at f;exact⟨(l.rows y s f).1,(l.rows y s f).2.keep (fun p q=>hother y s p hyx f q) I⟩
  inj:=fun y z s s' R g2 f G Z aa U=>by
   obtain⟨O,J,_⟩:=S y s f;obtain⟨r2,K,_⟩:=S z s' G;exact l.inj y z O r2 R g2 J K Z aa U
  big:=l.big
  pha:=fun y O g f hm m j H s n hc=>by
   by_cases hyx:y=x
   ·subst hyx;rw[aA]at f;simp only[anf]at f;subst f;obtain⟨h0,u,J,K⟩:=hph hm g m j H s n hc;exact⟨h0,u,J,K.mono fun r' R=>by
     grind⟩
   ·rw[aG _ _ hyx]at f;obtain⟨h0,u,J,K⟩:=l.pha y O g f hm m j H s n hc;exact⟨h0,u,(am2 (a:=⟨g.1,g.2+j,none⟩) (hother y O g hyx f m)).trans J,K.mono fun r' R=>by
     grind⟩
  ali:=fun y O g f ab hl m j c d' hj ad=>by
   have hm:∀{u:Value},RT w (Own M h blk) h blk V d' u->RT w' (Own M (cq h x (some r0)) blk) (cq h x (some r0)) blk V d' u:=fun h2=>h2.mono ⟨I,fun _ _ h=>h,fun y v _ s B h2=>by
    grind⟩
   by_cases hyx:y=x
   ·grind[aA]
   ·rw[aG _ _ hyx]at f;obtain⟨u,B,h2⟩:=l.ali y O g f ab hl m j c d' hj ad;grind[trans,World.cell?_of_block] }
def Inv.rewrite(p:Inv N M L w0 blk V t h a w){x:Nat}{r:Row}(q:h x=some r)(s:r.fz=false){cs:List D}{lst fz:Bool}{w':World}
  (m:w'.os=w.os) (f:w'.tape=w.tape) (l:w'.output=w.output) (i:w.heap.size<=w'.heap.size) (k:∀b,b<w.heap.size->(∀g,blk x=some g->b≠g.1)->w'.heap[b]? = w.heap[b]?)
  (e:match blk x with
   | some g=>w'.shape? g.1=w.shape? g.1∧∃n:Array Value,w'.heap[g.1]? = some (.cells n r.ty (0,0))∧g.2+cs.length<=n.size∧∀j d,cs[j]? = some d->bH d=true∧RP w' (Own M h blk) d (n.getD (g.2+j) undef)
   | none=>cs=[])
  (o:fz=true->lst=false->∀g,blk x=some g->∀j c d,cs[j]? = some c->alD c=some d->∃u,w'.cell? ⟨g.1,g.2+j,none⟩=some u∧RT w (Own M h blk) h blk V d u) :
  Inv N M L w0 blk V t (cq h x (some ⟨r.v,r.ty,cs,fz,lst,false⟩)) a w':=by
 refine p.lM (r0:=⟨r.v,r.ty,cs,fz,lst,false⟩) q s rfl m f l i k ?_ o;cases v:blk x with
 | none=>simp_all
 | some g=>rw[v]at e;exact e
def Inv.write(v:Inv N M L w0 blk V t h a w){x:Nat}{r:Row}{g:Nat×Nat}(o:h x=some r)(p:r.fz=false)(k:blk x=some g)(l:r.mp=false){cs:List D}{c i:Array Value}(q:w.heap[g.1]? = some (.cells i r.ty (0,0)))(m:c.size=i.size)
  (y:g.2+cs.length<=c.size) (s:∀j d,cs[j]? = some d->bH d=true∧RP w (Own M h blk) d (c.getD (g.2+j) undef)) :
  Inv N M L w0 blk V t (cq h x (some { r with cells:=cs })) a (w.setRow g.1 c):=by
 have hheap:∀b,b≠g.1->(w.setRow g.1 c).heap[b]? = w.heap[b]?:=by
  grind[World.setRow]
 have n:(w.setRow g.1 c).heap.size=w.heap.size:=by simp[World.setRow]
 have f:(w.setRow g.1 c).heap[g.1]? = some (.cells c r.ty (0,0)):=setRow_heap w g.1 i c r.ty (0,0) q;have z:({ r with cells:=cs }:Row)=⟨r.v,r.ty,cs,r.fz,r.lst,false⟩:=by rw[<- l]
 rw[z];refine v.rewrite (fz:=r.fz) (lst:=r.lst) o p rfl rfl rfl (by omega) (fun b _ A=>hheap b (A g k)) ?_ (fun h=>by simp_all);rw[k];exact⟨by simp[World.shape?,f,q,m],c,f,y,fun j d u=>⟨(s j d u).1,(s j d u).2.keep fun b B q2=>⟨by omega,q2,hheap b (fun e=>q2 (.inr ⟨x,r,g,o,p,k,e.symm⟩))⟩⟩⟩
end
structure C9(w:World)(M:Nat->Prop)(args:List D)(vs:Array Value):Prop where
 size:vs.size=args.length
 at_:∀j d,args[j]? = some d->RP w M d (vs.getD j undef)
 tab:aav w M
def zm(w e:World)(M:Nat->Prop)(f:Nat->Prop)(v:Value):RK->Prop
 | .clean d=>RP e M d v
 | .fresh ty s n cells =>
  (∃(g:Nat×Nat)(c:Nat)(a:Array Value),v=.slice (some ⟨g.1,g.2,none⟩) n c∧(w.heap.size<=g.1∨f g.1)∧e.heap[g.1]? = some (.cells a ty (0,0))∧n<=c∧c<=maxLen∧c*s+g.2=a.size∧g.2+cells.length<=a.size ∧
   ∀(j:Nat) d,cells[j]? = some d->bH d=true∧RP e (fun b=>M b∨b=g.1) d (a.getD (g.2+j) undef))∨(n=0∧cells=[]∧∃A,v=.slice A 0 0)
 | .same _ _ _=>False
def yN(a:Option (Nat×Nat))(b:Nat):Prop:=∃g,a=some g∧b=g.1
def X4(w:World)(M:Nat->Prop)(a:Option (Nat×Nat))(r:Row):Prop :=
 match a with
 | some g=>fp w M g r
 | none=>r.cells=[]
def FR(w:World)(go:Option (Nat×Nat))(d:D)(u:Value):Prop:=RT w (fun _=>False) (fun x=>if x=0 then some ⟨0,0,[],false,false,false⟩ else none) (fun _=>go) (fun _ _=>True) d u
def ahH(w w':World)(M:Nat->Prop)(a:Option (Nat×Nat))(r:Row):Option Row->Prop
 | some r1=>r1.ty=r.ty∧r1.fz=false∧(r1.mp=r.mp∧ze r1=true)∧(∀g,a=some g->w'.shape? g.1=w.shape? g.1)∧X4 w' (fun b=>M b∨yN a b) a r1
 | none=>True
def ahJ(w a:World)(M:Nat->Prop)(c:Option (Nat×Nat))(v:Value):RK->Prop
 | .same s o n=>FR a c (.buf 0 0 s o n) v
 | .clean d=>RP a (fun b=>M b∨yN c b) d v
 | .fresh ty s n cells=>zm w a M (yN c) v (.fresh ty s n cells)
def uc(P:Program)(f:FuncId)(cg:Option (D×Row))(a:List D)(i:RK)(h:Option Row):Prop :=
 match cg with
 | none=>∀(w:World)(M:Nat->Prop)(g:Array Value),(∀b,M b->b<w.heap.size)->C9 w M a g->Calls P f g w fun e d=>∃v,e=.returned v∧Below w.heap.size w d∧zm w d M (fun _=>False) v i
 | some (d0,r)=>∀(w:World)(M:Nat->Prop)(c:Option (Nat×Nat))(j:Value)(g:Array Value),(∀b,M b->b<w.heap.size)->(∀b,yN c b->¬M b)->r.fz=false->ze r=true->X4 w (fun b=>M b∨yN c b) c r->FR w c d0 j->C9 w (fun b=>M b∨yN c b) a g ->
  Calls P f (#[j]++g) w fun e d=>∃v,e=.returned v∧fb (yN c) w d∧ahH w d M c r h∧ahJ w d M c v i
def Vz(P:Program)(f:FuncId)(a:List D)(r:D):Prop:=uc P f none a (.clean r) none
def fB(P:Program)(f:FuncId):Prop:=∃a,P.funcs[f]? = some a∧(a.name == "runtime.NumGoroutine")=false∧a.body.isNone=false
def acG(w:World)(d k:Nat)(a:Option (Nat×Nat))(u:Value)(n:Nat)(b:List Value):Prop :=
 (∃g c arr,a=some g∧u=.slice (some ⟨g.1,g.2,none⟩) n c∧w.heap[g.1]? = some (.cells arr d (0,0))∧c*k+g.2=arr.size∧n<=c∧c<=maxLen∧∀(j:Nat) x,b[j]? = some x->arr[g.2+j]? = some x)∨(a=none∧n=0∧b=[]∧∃A,u=.slice A 0 0)
structure acs(P:Program)(f:FuncId)(p:Nat×Nat×Nat):Prop where
 callable:fB P f
 pos:0<p.2.1
 calls:∀(w:World)(go go':Option (Nat×Nat))(u u':Value)(i n m:Nat)(cs cs':List Value),acG w p.1 p.2.1 go u n cs->acG w p.1 p.2.1 go' u' m cs'->(∀g g',go=some g->go'=some g'->g.1≠g'.1) ->
  cs.length=n*p.2.1->cs'.length=m*p.2.1->(∀x∈cs,x.oneCell'=true)->(∀x∈cs',x.oneCell'=true)->i<=n->0<m->(n+m)*p.2.2<=140737488355328 ->
  Calls P f #[u,.int .i64 i,u'] w fun e w'=>∃v,e=.returned v∧fb (yN go) w w' ∧
   ∃(g:Nat×Nat)(c:Nat)(arr:Array Value),v=.slice (some ⟨g.1,g.2,none⟩) (n+m) c∧(w.heap.size<=g.1∨yN go g.1)∧w'.heap[g.1]? = some (.cells arr p.1 (0,0))∧n+m<=c∧c<=maxLen∧c*p.2.1+g.2=arr.size ∧
    ∀(j:Nat) x,(cs.take (i*p.2.1)++(cs'++cs.drop (i*p.2.1)))[j]? = some x->arr[g.2+j]? = some x
def QH:D->Value
 | .int k n =>.int k n
 | .bool b =>.bool b
 | .str s =>.string s
 | _=>undef
def Gp:D->Bool
 | .int _ _ | .bool _ | .str _=>true
 | _=>false
def ahx:D->Value
 | .agg xs =>.agg (xs.map QH).toArray
 | d=>QH d
def ahW:D->Bool
 | .agg xs=>xs.all Gp
 | d=>Gp d
def Nk{w:World}{M:Nat->Prop}{d:D}{u:Value}(a:Gp d=true)(h:RP w M d u):u=QH d:=by
 cases h<;>first|rfl|cases a
def adZ{w:World}{M:Nat->Prop}{d:D}(a:Gp d=true):bH d=true∧RP w M d (QH d):=by
 cases d with
 | int k n=>exact⟨rfl,.int k n⟩
 | bool b=>exact⟨rfl,.bool b⟩
 | str s=>exact⟨rfl,.str s⟩
 | _=>cases a
def aaY{w:World}{M:Nat->Prop}{d:D}{u:Value}(b:ahW d=true)(h:RP w M d u):u=ahx d:=by
 cases h with
 | agg xs us h1 h2 h3 =>
  simp only[ahx];congr 2;apply List.ext_getElem
  ·simpa using h1
  ·intro i e f;have c:i<xs.length:=by omega
   have a:Gp xs[i]=true:=anh.1 b _ (ani c);have:=Nk a (h2 i _ (anj c));simp_all
 | _=>first|rfl|cases b
structure ahD(P:Program)(f:FuncId)(p:Grow):Prop where
 callable:fB P f
 pos:0<p.k
 flat:∀ds am1 cs,p.sem ds am1=some cs->(∀d∈ds,Gp d=true)∧(∀d∈am1,ahW d=true)∧(∀d∈cs,Gp d=true)∧cs.length=p.k
 calls:∀(w:World)(gy:Nat×Nat)(ya:Array Value)(ty:Nat)(go:Option (Nat×Nat))(u:Value)(n:Nat)(ds am1 cs:List D),w.heap[gy.1]? = some (.cells ya ty (0,0))->ya[gy.2]? = some u->acG w p.ty p.k go u n (ds.map QH) ->
  (∀g,go=some g->g.1≠gy.1)->ds.length=n*p.k->p.sem ds am1=some cs->(n+1)*p.bytes<=140737488355328 ->
  Calls P f (#[.pointer (some ⟨gy.1,gy.2,none⟩)]++(am1.map ahx).toArray) w fun e w'=>e=.returned (.int .i64 (n:Int))∧fb (fun b=>b=gy.1∨yN go b) w w' ∧
   ∃(g:Nat×Nat)(c:Nat)(arr:Array Value),(w.heap.size<=g.1∨yN go g.1)∧w'.heap[gy.1]? = some (.cells (ya.setIfInBounds gy.2 (.slice (some ⟨g.1,g.2,none⟩) (n+1) c)) ty (0,0))∧w'.heap[g.1]? = some (.cells arr p.ty (0,0)) ∧
    n+1<=c∧c<=maxLen∧c*p.k+g.2=arr.size∧∀(j:Nat) x,((ds++cs).map QH)[j]? = some x->arr[g.2+j]? = some x
structure L1(w:World)(Q:Nat->Prop)(blk:Nat->Option (Nat×Nat))(h:Nat->Option Row):Prop where
 rows:∀x r,h x=some r->match blk x with|some g=>fp w Q g r|none=>r.cells=[]
 inj:∀x y r s g g',h x=some r->h y=some s->blk x=some g->blk y=some g'->g.1=g'.1->x=y
 pha:∀y r g,h y=some r->r.mp=true->blk y=some g->∀j x s n:Nat,r.cells[j]? = some (D.ph x s n)->VC y j x∧∃u,w.cell? ⟨g.1,g.2+j,none⟩=some u∧PhR w h blk x s n u
def kd(a t s b:Nat)(c:List D):Row:=⟨0,a,[.nr t s b c],false,true,true⟩
def pP(r:Row)(x:Nat):Option Row:=if x=0 then some r else none
def A2(blk:Nat->Option (Nat×Nat))(h:Nat->Option Row)(b:Nat):Prop:=∃x r g,h x=some r∧blk x=some g∧g.1=b
def OQ(P:Program)(f:FuncId)(k t s o:Nat)(m g:List D)(d:D)(j:List D):Prop :=
 ∀(w:World)(M:Nat->Prop)(blk:Nat->Option (Nat×Nat))(h h':Nat->Option Row)(c:Nat×Nat)(l:Array Value),h=EH (pP (kd k t s 0 m))->h'=EH (pP (kd k t s 0 j)) ->
  (∀b,M b->b<w.heap.size)->(∀b,A2 blk h b->¬M b)->blk 0=some c->L1 w (fun b=>M b∨A2 blk h b) blk h->C9 w (fun b=>M b∨A2 blk h b) g l ->
  Calls P f (#[.pointer (some ⟨c.1,c.2+o,none⟩)]++l) w fun e i=>∃v a,e=.returned v∧fb (A2 blk h) w i∧a 0=some c∧i.shape? c.1=w.shape? c.1∧(∀b,A2 a h' b->w.heap.size<=b∨A2 blk h b)∧L1 i (fun b=>M b∨A2 a h' b) a h'∧RP i (fun b=>M b∨A2 a h' b) d v
def OP(P:Program)(f:FuncId)(a:List D)(g t s S n:Nat)(i:List D):Prop :=
 ∀(w:World)(M:Nat->Prop)(h:Nat->Option Row)(d:Array Value),h=EH (pP (kd g t s 0 i))->(∀b,M b->b<w.heap.size)->C9 w M a d ->
  Calls P f d w fun e c=>∃v blk,e=.returned v∧Below w.heap.size w c∧(∀b,A2 blk h b->w.heap.size<=b)∧L1 c (fun b=>M b∨A2 blk h b) blk h∧FR c (blk 0) (.buf 0 0 S 0 n) v
structure bN(P:Program)(Γ:Env):Prop where
 calls:∀f cg args rk out,Γ.sem f cg args=some (rk,out)->uc P f cg args rk out∧fB P f
 ins:∀f p,Γ.ins f=some p->acs P f p
 grw:∀f p,Γ.grw f=some p->ahD P f p
 lnd:∀f p,Γ.nx.lnd f=some p->fB P f∧∀ty t s o cs args d cs',p.2 ty t s o cs args=some (d,cs')->OQ P f ty t s o cs args d cs'
 res:∀f p,Γ.nx.res f=some p->fB P f∧∀args ty t s S n cs,p args=some (ty,t,s,S,n,cs)->OP P f args ty t s S n cs
def eY.get{P:Program}{t:Nat}{τ:Ty}(h:eY P t τ):∃d i z,P.underlying t=some d∧conv d=τ.ds∧P.info? t=some i∧i.size=τ.size∧i.bytes=τ.bytes∧i.zero=some z∧z.cells=τ.zero.toArray:=by
 have b:=h.desc;have a:=h.info;cases c:P.underlying t with
 | none=>simp[c]at b
 | some d =>
  cases e:P.info? t with
  | none=>simp[e]at a
  | some i =>
   simp only[c,Option.map_some,anf]at b;simp only[e,Option.map_some,anf,Prod.mk.injEq]at a;cases f:i.zero with
   | none=>simp[f]at a
   | some z =>
    grind
def fC(P:Program)(o:Oper)(a:Act)(w:World)(Φ:Value->World->Prop):Prop :=
 (∃v c,(execOp a.eval o).run P w=.ok (.value v) c∧Φ v c)∨(∃c,(execOp a.eval o).run P w=.ok .skip c∧Φ undef c) ∨
 (∃f b,(execOp a.eval o).run P w=.ok (.enter f b) w∧Calls P f b w (fun e c=>∃v,e=.returned v∧Φ v c))
def fC.mono{P:Program}{o:Oper}{a:Act}{w:World}{Φ Ψ:Value->World->Prop}(h:fC P o a w Φ)(i:∀v b,Φ v b->Ψ v b):fC P o a w Ψ:=by
 rcases h with⟨v,b,c,d⟩|⟨b,c,d⟩|⟨f,g,c,d⟩
 ·exact .inl ⟨v,b,c,i _ _ d⟩
 ·exact .inr (.inl ⟨b,c,i _ _ d⟩)
 ·exact .inr (.inr ⟨f,g,c,d.mono fun e b ⟨v,j,k⟩=>⟨v,j,i _ _ k⟩⟩)
def fC.wp{P:Program}{o:Oper}{a:Act}{w:World}{Φ:Value->World->Prop}{K:Act->World->Prop}{Q:Exit->Act->World->Prop}(h:fC P o a w Φ)(g:∀v b,Φ v b->K (a.put o.dst v) b):o.wp P a w K Q:=by
 unfold Oper.wp;rcases h with⟨v,b,c,d⟩|⟨b,c,d⟩|⟨f,i,c,d⟩
 ·rw[c];exact g v b d
 ·rw[c];exact g undef b d
 ·rw[c];refine d.mono fun e b ⟨v,j,k⟩ =>?_;simp_all
section
variable {N:Nat} {M:Nat->Prop} {L:mc} {w0:World} {blk:Nat->Option (Nat×Nat)} {V:Nat->Nat->Prop} {t:Nat->D} {h:Nat->Option Row} {a:Act} {w:World}
structure tu(M:Nat->Prop)(h:Nat->Option Row)(blk:Nat->Option (Nat×Nat))(fr:List Nat)(M':Nat->Prop):Prop where
 le:∀b,M' b->Own M h blk b
 no:∀x,x∈fr->∀r g,h x=some r->blk x=some g->¬M' g.1
def tu.left{b a:List Nat}{c:Nat->Prop}(hl:tu M h blk (b++a) c):tu M h blk b c:=⟨hl.le,fun x d=>hl.no x (ank _ d)⟩
def tu.right{c a:List Nat}{b:Nat->Prop}(hl:tu M h blk (c++a) b):tu M h blk a b:=⟨hl.le,fun x d=>hl.no x (anl _ d)⟩
def Inv.iA(m:Inv N M L w0 blk V t h a w)(n:List Nat):tu M h blk n (Own M (aW h (lJ h n)) blk) where
 le b c:=by
  rcases c with c|⟨x,j,g,d,o,e,rfl⟩
  ·exact .inl c
  ·rw[Ez]at d;split at d
   ·cases f:h x with
    | none=>simp[f]at d
    | some r=>grind[Option.some.injEq,Ps]
   ·exact .inr ⟨x,j,g,d,o,e,rfl⟩
 no x d r g f e c:=by
  rcases c with c|⟨y,j,p,i,o,k,q⟩
  ·exact m.notM f e c
  ·rw[Ez]at i;split at i
   ·cases l:h y with
    | none=>simp[l]at i
    | some s=>grind[Option.some.injEq,Ps]
   ·rename_i u;have:y=x:=m.inj y x j r p g i f k e q;simp_all
def Inv.Nv(j:Inv N M L w0 blk V t h a w)(d:List Nat):tu M h blk d (fun b=>Own M h blk b∧∀x,x∈d->∀r g,h x=some r->blk x=some g->g.1≠b) where
 le b c:=c.1
 no x e r g f i c:=c.2 x e r g f i rfl
def uT{x v:Nat}{r:Row}(a:sC h x v=some r):h x=some r∧r.v=v:=by
 unfold sC at a;grind
theorem da{x v:Nat}{r:Row}(a:live h x v=some r):h x=some r∧r.v=v:=by
 unfold live at a;grind
theorem kc{x v:Nat}{r:Row}(a:live h x v=some r):r.mp=false:=by
 unfold live at a;grind
theorem Gw{x v:Nat}{r:Row}(a:CH h x v=some r):h x=some r∧r.v=v∧r.mp=true∧ze r=true:=by
 unfold CH at a;grind
theorem Jy{r:Row}(h:r.mp=false):ze r=true:=by unfold ze;rw[h]
theorem DQ{r:Row}(h:ze r=true)(c:r.mp=true):∃a b,r.cells=[.mpc a b]:=by
 unfold ze at h;grind
theorem Jt{x v:Nat}{a:List eE}{b:List D}(c:nP h x v=some (a,b)):∃r,h x=some r∧r.v=v∧r.mp=true∧r.cells=[.mpc a b]∧r.ty<900000:=by
 unfold nP at c;grind
def lp{α:Type}(l:List α)(o n j:Nat):((l.drop o).take n)[j]? = if j<n then l[o+j]? else none:=by
 grind
def Inv.De(i:Inv N M L w0 blk V t h a w){x v s o n:Nat}{r:Row}{u:Value}(k:live h x v=some r)(p:RT w (Own M h blk) h blk V (.buf x v s o n) u) :
  (∃(g:Nat×Nat)(o' c:Nat)(b:Array Value),blk x=some g∧u=.slice (some ⟨g.1,o',none⟩) n c∧n<=c∧c<=maxLen∧w.heap[g.1]? = some (.cells b r.ty (0,0))∧(0<c∨o=0->o'=g.2+o∧c*s+o'=b.size) ∧
   g.2+r.cells.length<=b.size∧∀j d,r.cells[j]? = some d->bH d=true∧RP w (Own M h blk) d (b.getD (g.2+j) undef))∨(blk x=none∧n=0∧r.cells=[]∧∃A,u=.slice A 0 0):=by
 obtain⟨f,q⟩:=da k;rcases p.2 r f q with⟨g,o',c,y,z,e,l,m,B,C,D⟩|⟨e,l,A,m⟩
 ·obtain⟨b,E,F,G⟩:=i.Jr f e (kc k);grind[World.shape?]
 ·have:=(i.rows x r f).2;rw[e]at this;exact .inr ⟨e,l,this,A,m⟩
theorem bm{w:World}{g:Nat}{a:Array Value}{b:Nat}(c:w.heap[g]? = some (.cells a b (0,0))){j:Nat}(d:j<a.size):w.cell? ⟨g,j,none⟩=some (a.getD j undef):=by
 simp[World.cell?,c,d]
def Inv.eS(F:Inv N M L w0 blk V t h a w){d q:D}{G:List Nat}{u:Value}{z:Nat->Prop}(e:eS h d=some (q,G))(H:tu M h blk G z)(l:RT w (Own M h blk) h blk V d u):RP w z q u∧bH q=true:=by
 have m:∀b,b<w.heap.size->¬Own M h blk b->b<w.heap.size∧¬z b∧w.heap[b]? = w.heap[b]?:=fun b O h2=>⟨O,fun P=>h2 (H.le b P),rfl⟩;cases d with
 | int k n=>simp only[Am.eS,anf,Prod.mk.injEq]at e;obtain⟨rfl,rfl⟩:=e;exact⟨RP.keep m l,rfl⟩
 | bool b=>simp only[Am.eS,anf,Prod.mk.injEq]at e;obtain⟨rfl,rfl⟩:=e;exact⟨RP.keep m l,rfl⟩
 | str s=>simp only[Am.eS,anf,Prod.mk.injEq]at e;obtain⟨rfl,rfl⟩:=e;exact⟨RP.keep m l,rfl⟩
 | sl x y n xs=>simp only[Am.eS,anf,Prod.mk.injEq]at e;obtain⟨rfl,rfl⟩:=e;exact⟨RP.keep m l,rfl⟩
 | buf x v s o n =>
  simp only[Am.eS]at e;split at e
  ·rename_i r f;split at e
   ·rename_i Q;simp only[anf,Prod.mk.injEq]at e;obtain⟨rfl,rfl⟩:=e;rcases F.De f l with⟨g,R,c,cs,B,C,I,E,X,S,Y,T⟩|⟨B,C,I,A,E⟩
    ·subst C;refine⟨.sl (some ⟨g.1,R,none⟩) c false false n _ (fun j=>cs.getD (g.2+(o+j)) undef) I E (fun h=>by cases h) (fun h=>by cases h) (fun h=>by cases h) (fun U =>?_) (fun j y i =>?_) (fun y J =>?_),rfl⟩
     ·have Z:0<n:=by
       rcases anm n with K|K
       ·simp_all
       ·exact K
      have W:=(S (.inl (by omega))).1;subst W;refine⟨g.1,g.2+o,rfl,F.lt (da f).1 B,H.no x (by simp) r g (da f).1 B,fun j i =>?_⟩;grind[List.length_take,List.length_drop,Nat.add_assoc,bm]
     ·rw[lp]at i;split at i
      ·exact (T _ _ i).2.keep m
      ·cases i
     grind[List.getElem?_of_mem]
    ·subst C E;have p:List.take (0*s) (List.drop o r.cells)=[]:=by simp
     rw[p];exact⟨.sl A 0 false false 0 [] (fun _=>undef) (am6 _) (am7 _) (fun h=>by cases h) (fun _=>⟨rfl,rfl⟩) (fun h=>by cases h) (fun h=>absurd rfl h) (fun j y i=>by simp at i) (fun y J=>by simp at J),rfl⟩
   ·cases e
  ·cases e
 | _=>simp[Am.eS]at e
def Bb{h:Nat->Option Row}{d:D}(b:∀a,d ≠ .agg a):Am.uA h d=Am.eS h d:=by
 cases d<;>first|rfl|simp_all
def Inv.uA(m:Inv N M L w0 blk V t h a w){d i:D}{j:List Nat}{u:Value}{e:Nat->Prop}(c:uA h d=some (i,j))(k:tu M h blk j e)(l:RT w (Own M h blk) h blk V d u):RP w e i u:=by
 by_cases f:∀g,d ≠ .agg g
 ·rw[Bb f]at c;exact (m.eS c k l).1
 ·have n:∀b,b<w.heap.size->¬Own M h blk b->b<w.heap.size∧¬e b∧w.heap[b]? = w.heap[b]?:=fun b o h2=>⟨o,fun p=>h2 (k.le b p),rfl⟩;simp only[ne_eq,Classical.not_forall,Classical.not_not]at f;obtain⟨g,rfl⟩:=f;simp only[Am.uA,anf,Prod.mk.injEq]at c;obtain⟨rfl,rfl⟩:=c;exact RP.keep n (show RP w (Own M h blk) (.agg g) u from l)
def Inv.TD(A:Inv N M L w0 blk V t h a w){x v:Nat}{f:List eE}{i:List D}{u:Value}(B:nP h x v=some (f,i))(C:RT w (Own M h blk) h blk V (.mp x v) u) :
  ∃(g:Nat×Nat)(r:Row),h x=some r∧r.v=v∧r.mp=true∧r.cells=[.mpc f i]∧blk x=some g∧u=.map (some g.1)∧i.length=f.length∧∃(b:Array MapEntry)(c:Nat),w.heap[g.1]? = some (.map b c)∧b.size=f.length∧MapKept.Stamped b c∧∃l:Nat->Value,(∀j k,f[j]? = some k->∃e:MapEntry,b[j]? = some e∧e.key=oY k∧e.val=l j)∧∀j x,i[j]? = some x->RP w (Own M h blk) x (l j):=by
 obtain⟨r,m,s,y,n,o⟩:=Jt B;obtain⟨g,z,E⟩:=C.2 r m s;have d:=A.rowIs m z;unfold fp at d;rw[y]at d;rcases d with d|⟨d,_⟩;rotate_left
 ·rw[n]at d;have:=d _ (anr.2 rfl);cases this
 obtain⟨F,G,p,H,I,_⟩:=d;obtain⟨b,c,J,K,q,l,O,P⟩:=I o;rw[n]at p;simp only[ans,D.mpc.injEq,and_true]at p;obtain⟨rfl,rfl⟩:=p;exact⟨g,r,m,s,y,n,z,E,H,b,c,J,K,q,l,O,P⟩
def Inv.Zr(l:Inv N M L w0 blk V t h a w){x v:Nat}{c:List eE}{d:List D}{u:Value}{e:Nat->Prop}(m:nP h x v=some (c,d))(n:∀r g,h x=some r->blk x=some g->¬e g.1)
  (o:∀b,b<w.heap.size->¬Own M h blk b->b<w.heap.size∧¬e b∧w.heap[b]? = w.heap[b]?) (p:RT w (Own M h blk) h blk V (.mp x v) u):RP w e (.mpc c d) u:=by
 obtain⟨g,r,A,B,C,E,F,rfl,q,k,f,G,H,_,s,I,i⟩:=l.TD m p;refine .mpc c d (some g.1) s q (fun h=>by cases h) (fun b J =>?_) (fun j y z=>(i j y z).keep o);grind
def Inv.b7(p:Inv N M L w0 blk V t h a w){d E:D}{F:List Nat}{u:Value}{G:Nat->Prop}(c:b7 h d=some (E,F))(q:tu M h blk F G)(e:RT w (Own M h blk) h blk V d u):RP w G E u:=by
 have A:∀b,b<w.heap.size->¬Own M h blk b->b<w.heap.size∧¬G b∧w.heap[b]? = w.heap[b]?:=fun b k h2=>⟨k,fun W=>h2 (q.le b W),rfl⟩;have one:∀d,Am.b7 h d=(match Am.eS h d with|some (E,F)=>some (canon E,F)|none=>none)->Am.b7 h d=some (E,F)->RT w (Own M h blk) h blk V d u->RP w G E u:=by
  intro d X c e;rw[X]at c;split at c
  ·rename_i d1 H k;simp only[anf,Prod.mk.injEq]at c;obtain⟨rfl,rfl⟩:=c;exact (p.eS k q e).1.canon
  ·cases c
 cases d with
 | ptr x v o =>
  simp only[Am.b7]at c;split at c
  ·rename_i r l;split at c
   ·rename_i Y;simp only[anf,Prod.mk.injEq]at c;obtain⟨rfl,rfl⟩:=c;obtain⟨i,I⟩:=da l;obtain⟨g,B,J⟩:=e.2 r i I;obtain⟨cs,g2,g3,Z⟩:=p.Jr i B (kc l);subst J;refine .ip _ _ (fun j=>cs.getD (g.2+(o+j)) undef) (fun aa=>⟨g.1,g.2+o,rfl,p.lt i B,q.no x (by simp) r g i B,fun j m =>?_⟩) (fun j y m =>?_) (fun y hy =>?_)
    ·grind[List.length_drop,Nat.add_assoc,bm]
    ·rw[ant]at m;exact (Z _ _ m).2.keep A
    grind[List.getElem?_of_mem]
   ·cases c
  ·cases c
 | agg xs=>simp only[Am.b7,anf,Prod.mk.injEq]at c;obtain⟨rfl,rfl⟩:=c;exact (RP.keep A e).kJ
 | ip xs=>simp only[Am.b7,anf,Prod.mk.injEq]at c;obtain⟨rfl,rfl⟩:=c;exact RP.keep A e
 | fn f=>simp only[Am.b7,anf,Prod.mk.injEq]at c;obtain⟨rfl,rfl⟩:=c;exact RP.keep A e
 | box1 x v s o n =>
  simp only[Am.b7]at c;split at c
  ·rename_i d1 H k;simp only[anf,Prod.mk.injEq]at c;obtain⟨rfl,rfl⟩:=c;obtain⟨u',rfl,_,e⟩:=e;obtain⟨P,Q⟩:=p.eS k q (show RT w (Own M h blk) h blk V (.buf x v s o n) u' from e);refine .agg _ [u'] rfl (fun j x m =>?_) (fun x i =>?_)
   ·cases j with
    | zero=>simp only[List.getElem?_cons_zero,anf]at m;subst m;exact P.canon
    | succ j=>simp at m
   grind[List.mem_singleton,qq]
  ·cases c
 | mpc R S=>simp only[Am.b7,anf,Prod.mk.injEq]at c;obtain⟨rfl,rfl⟩:=c;exact RP.keep A e
 | mp x v =>
  simp only[Am.b7]at c;split at c
  ·rename_i R S k;simp only[anf,Prod.mk.injEq]at c;obtain⟨rfl,rfl⟩:=c;exact p.Zr k (q.no x (by simp)) A e
  ·cases c
 | pm x v y =>
  simp only[Am.b7]at c;split at c
  ·rename_i r l;split at c
   ·rename_i K T O;split at c
    ·rename_i C;obtain⟨c1,c2,rfl⟩:=C;split at c
     ·rename_i R S k;simp only[anf,Prod.mk.injEq]at c;obtain⟨rfl,rfl⟩:=c;obtain⟨i,I⟩:=da l;obtain⟨g,B,J⟩:=e.2 r i I;obtain⟨u',P,Q⟩:=p.ali x r g i c1 c2 B 0 (.alm K T) (.mp K T) (by rw[O];rfl) rfl;have k3:=p.Zr k (q.no K (by simp)) A Q;subst J;refine .ip _ _ (fun _=>u') (fun _=>⟨g.1,g.2+0,rfl,p.lt i B,q.no x (by simp) r g i B,fun j m =>?_⟩) (fun j z m =>?_) (fun z U =>?_)
      ·simp_all
      ·grind
      ·simp only[anr]at U;subst U;rfl
     ·cases c
    ·cases c
   ·cases c
  ·cases c
 | _=>exact one _ rfl c e
theorem HO{w:World}{M:Nat->Prop}{h:Nat->Option Row}{blk:Nat->Option (Nat×Nat)}{V:Nat->Nat->Prop}{d:D}{u:Value}(a:RC w M h blk V d u):RT w M h blk V d u:=by
 cases d with
 | ptr x v o=>exact a
 | mp x v=>exact a
 | pm x v y=>exact a
 | _=>exact cd a
def Inv.eF(k:Inv N M L w0 blk V t h a w){l:Nat->Prop}:∀{e b:List D}{f:List Nat}{us:List Value},eF h e=some (b,f)->tu M h blk f l->us.length=e.length ->
  (∀j d,e[j]? = some d->RT w (Own M h blk) h blk V d (us.getD j undef))->us.length=b.length∧∀j d,b[j]? = some d->RP w l d (us.getD j undef)
 | [],b,f,us,c,g,hlen,i=>by
  grind[Am.eF,Option.some.injEq,Prod.mk.injEq]
 | d::e,b,f,us,c,g,hlen,i=>by
  simp only[Am.eF]at c;split at c
  ·rename_i d1 m n;split at c
   ·rename_i o p q;simp only[anf,Prod.mk.injEq]at c;obtain⟨rfl,rfl⟩:=c;cases us with
    | nil=>simp at hlen
    | cons u us =>
     have s:=k.b7 n g.left (i 0 d rfl);obtain⟨v,x⟩:=k.eF q g.right (by simpa using hlen) (fun j d r=>by simpa using i (j+1) d (by simpa using r));grind
   ·cases c
  ·cases c
def Inv.cO(c:Inv N M L w0 blk V t h a w){d e:D}{g:List Nat}{u:Value}{i:Nat->Prop}(b:cO h d=some (e,g))(k:tu M h blk g i)(l:RT w (Own M h blk) h blk V d u):RP w i e u:=by
 cases d with
 | clo f m xs =>
  simp only[Am.cO]at b;split at b
  ·rename_i n o p;simp only[anf,Prod.mk.injEq]at b;obtain⟨rfl,rfl⟩:=b;obtain⟨q,r,s,v⟩:=l;subst r;obtain⟨x,y⟩:=c.eF p k s (fun j d z=>HO (v j d z));exact .clo f m n q x y
  ·cases b
 | _=>exact c.b7 (by rw[<- b];rfl) k l
def Inv.cc(k:Inv N M L w0 blk V t h a w){l:Nat->Prop}:∀{e b:List D}{f:List Nat}{us:List Value},cc h e=some (b,f)->tu M h blk f l->us.length=e.length ->
  (∀j d,e[j]? = some d->RT w (Own M h blk) h blk V d (us.getD j undef))->us.length=b.length∧∀j d,b[j]? = some d->RP w l d (us.getD j undef)
 | [],b,f,us,c,g,hlen,i=>by
  grind[Am.cc,Option.some.injEq,Prod.mk.injEq]
 | d::e,b,f,us,c,g,hlen,i=>by
  simp only[Am.cc]at c;split at c
  ·rename_i d1 m n;split at c
   ·rename_i o p q;simp only[anf,Prod.mk.injEq]at c;obtain⟨rfl,rfl⟩:=c;cases us with
    | nil=>simp at hlen
    | cons u us =>
     have s:=k.cO n g.left (i 0 d rfl);obtain⟨v,x⟩:=k.cc q g.right (by simpa using hlen) (fun j d r=>by simpa using i (j+1) d (by simpa using r));grind
   ·cases c
  ·cases c
def Inv.ir(s:Inv N M L w0 blk V t h a w){d:D}{c:List D}{f:List Nat}{u:Value}{k:Nat->Prop}(n:ir h d=some (c,f))(r:tu M h blk f k)(o:RT w (Own M h blk) h blk V d u) :
  u.cells.size=c.length∧∀j x,c[j]? = some x->bH x=true∧RP w k x (u.cells.getD j undef):=by
 have v:∀b,b<w.heap.size->¬Own M h blk b->b<w.heap.size∧¬k b∧w.heap[b]? = w.heap[b]?:=fun b g h2=>⟨g,fun y=>h2 (r.le b y),rfl⟩;have one:∀d,(∀l,d ≠ .agg l)->Am.ir h d=some (c,f)->RT w (Own M h blk) h blk V d u->u.cells.size=c.length∧∀j x,c[j]? = some x->bH x=true∧RP w k x (u.cells.getD j undef):=by
  intro d z n o;have:∃i,Am.eS h d=some (i,f)∧c=[i]:=by
   have e:Am.ir h d=match Am.eS h d with|some (i,f)=>some ([i],f)|none=>none:=by
    cases d<;>first|rfl|simp_all
   grind
  obtain⟨i,g,rfl⟩:=this;obtain⟨h2,p⟩:=s.eS g r o;rw[h2.cells p];refine⟨rfl,fun j x m =>?_⟩;cases j with
  | zero=>simp_all
  | succ j=>simp at m
 cases d with
 | agg l =>
  simp only[Am.ir,anf,Prod.mk.injEq]at n;obtain⟨rfl,rfl⟩:=n;have q:RP w (Own M h blk) (.agg l) u:=o;cases q with
  | agg l us g h2 p =>
   refine⟨by simp[Value.cells,g],fun j x m=>⟨p x (anv m),?_⟩⟩;have:=(h2 j x m).keep v;simpa [Value.cells] using this
 | _=>grind
end
def uo(g o j:Nat):(⟨g,o,none⟩:Addr).add j=⟨g,o+j,none⟩:=by grind[Addr.add]
def At(w:World)(M:Nat->Prop)(g o:Nat)(a:List D):Prop:=∀j x,a[j]? = some x->bH x=true∧∃v,w.cell? ⟨g,o+j,none⟩=some v∧RP w M x v
def At.drop{w:World}{M:Nat->Prop}{g o:Nat}{a:List D}(h:At w M g o a)(k:Nat):At w M g (o+k) (a.drop k):=by
 intro j x b;rw[ant]at b;obtain⟨c,v,d,e⟩:=h _ _ b;grind
def At.take{w:World}{M:Nat->Prop}{g o:Nat}{b:List D}(h:At w M g o b)(k:Nat):At w M g o (b.take k):=by
 intro j x a;rw[anw]at a;split at a
 ·exact h _ _ a
 ·cases a
def At.FM{w:World}{M:Nat->Prop}{g o:Nat}{b:List D}(h:At w M g o b) :
  ∃d:List Value,d.length=b.length∧(∀j u,d[j]? = some u->w.cell? ⟨g,o+j,none⟩=some u)∧(∀j x,b[j]? = some x->RP w M x (d.getD j undef))∧(∀x∈b,bH x=true):=by
 refine⟨(List.range b.length).map fun j=>(w.cell? ⟨g,o+j,none⟩).getD undef,by simp,fun j u c =>?_,fun j x c =>?_,fun x e =>?_⟩
 ·obtain⟨a,f⟩:=anx.1 c;simp only[anz,anA]at a;simp only[List.getElem_map,List.getElem_range]at f;obtain⟨_,v,i,_⟩:=h j _ (anj a);simp_all
 ·have a:j<b.length:=(anx.1 c).1;obtain⟨_,v,i,k⟩:=h j x c;simp_all
 ·obtain⟨j,c⟩:=anq e;exact (h j x c).1
section
variable {P:Program} {T:Nat->Option Ty}
def pG{a:Nat}{τ:Ty}(b:eY P a τ)(w:World):(isAgg a).run P w=.ok τ.ds.xt w:=by
 obtain⟨d,i,z,c,e,f,g,h,j,k⟩:=b.get;rw[<- e];simp only[isAgg,anB,run_underlying c,Result.andThen_ok]<;>cases d<;>rfl
def run_sizeOf{a:Nat}{τ:Ty}(b:eY P a τ)(w:World):(sizeOf a).run P w=.ok τ.size w:=by
 obtain⟨d,i,z,f,g,c,e,h,j,k⟩:=b.get;simp[Go.sizeOf,typeInfo,c,e]
def lZ{a:Nat}{τ:Ty}(b:eY P a τ)(w:World):∃z,(zeroValue a).run P w=.ok z w∧z.cells=τ.zero.toArray:=by
 obtain⟨d,i,z,c,e,f,g,h,j,k⟩:=b.get;simp_all[zeroValue,typeInfo]
def nI{b:Nat}{τ:Ty}(c:eY P b τ)(w:World)(g o:Nat)(us:List Value)(e:us.length=τ.size)(d:∀j u,us[j]? = some u->w.cell? ⟨g,o+j,none⟩=some u)
  (f:τ.ds.xt=false->us.length=1):(loadVar b ⟨g,o,none⟩).run P w=.ok (if τ.ds.xt then .agg us.toArray else us.getD 0 undef) w:=by
 simp only[loadVar,anB,pG c,Result.andThen_ok];cases h:τ.ds.xt with
 | true =>
  have:=run_loadCells_list (P:=P) w ⟨g,o,none⟩ us (fun j v i=>by rw[uo];exact d j v i);rw[e]at this;simp[run_sizeOf c,this]
 | false =>
  have a:=f h
  match us,a with
  | [u],_ =>
   have:=d 0 u rfl;simp_all
variable {N:Nat} {M:Nat->Prop} {L:mc} {w0:World} {blk:Nat->Option (Nat×Nat)} {V:Nat->Nat->Prop} {t:Nat->D} {h:Nat->Option Row} {a:Act} {w:World} {e:Nat} {o:Oper} {Γ:Env}
def bz(N:Nat)(M:Nat->Prop)(L:mc)(w0:World)(V:Nat->Nat->Prop)(t:Nat->D)(h:Nat->Option Row)(a:Act)(e:Nat)(c:Option Nat)(E:cI)(v:Value)(d:World):Prop :=
 ∃b,Inv N M L w0 b (fun x n=>V x n∨(c=some x∧n=e)) t (aW h E.hw) a d ∧
  RT d (Own M (aW h E.hw) b) (aW h E.hw) b (fun x n=>V x n∨(c=some x∧n=e)) E.val v
def bz.fa(g:Inv N M L w0 blk V t h a w){d:D}{v:Value}{b:Option Nat}(i:RT w (Own M h blk) h blk V d v):bz N M L w0 V t h a e b ⟨d,[]⟩ v w :=
 ⟨blk,g.weaken fun _ _ h =>.inl h,i.mono ⟨fun _ c f=>⟨c,f,rfl⟩,fun _ _ h =>.inl h,fun _ _ _ j c f=>⟨⟨j,c,f⟩,rfl,fun _ _=>rfl⟩⟩⟩
def bz.Pp(f:Inv N M L w0 blk V t h a w){d:D}{v:Value}{b:Option Nat}(c:List Nat)(g:RP w (Own M (aW h (lJ h c)) blk) d v):bz N M L w0 V t h a e b ⟨d,lJ h c⟩ v w :=
 ⟨blk,(f.freeze c).weaken fun _ _ h =>.inl h,cd g⟩
def aP{v:Value}{w':World}{Φ:Value->World->Prop}(b:(execOp a.eval o).run P w=.ok (.value v) w')(c:Φ v w'):fC P o a w Φ:=.inl ⟨v,w',b,c⟩
theorem MP(c:Inv N M L w0 blk V t h a w){x:Operand}(b:o.op=.move x∨o.op=.assign x):fC P o a w (bz N M L w0 V t h a e o.dst ⟨ev t x,[]⟩):=by
 refine aP (v:=a.eval x) (w':=w) ?_ (bz.fa c (c.ev x));rcases b with b|b<;>simp[execOp,b]
theorem Gd(j:Inv N M L w0 blk V t h a w){m:Nat}{x:Operand}{E:cI}(K:o.op=.assign x)(D:∀d,o.dst=some d->lE N V d e)(b:dY T m e o.dst h (ev t x)=some E):fC P o a w (bz N M L w0 V t h a e o.dst E):=by
 have F:=j.ev x;have p:E=⟨ev t x,[]⟩->fC P o a w (bz N M L w0 V t h a e o.dst E):=fun h=>by grind[MP]
 generalize ev t x=q at *;have f:(execOp a.eval o).run P w=.ok (.value (a.eval x)) w:=by simp[execOp,K]
 cases q with
 | buf y v s c n =>
  simp only[dY]at b;split at b
  ·rename_i d r k z;split at b
   ·simp_all
   ·rename_i G;simp only[Bool.not_eq_true]at G;simp only[anf]at b;subst b;obtain⟨H,O⟩:=da z;have i:=j.acO (w':=w) (h1:=forget h (some y)) (old:=some y) (d:=d) (e:=e) (ty:=r.ty) (lst:=r.lst) (fz:=r.fz) (hfz:=G) (go:=blk y) (cs:=r.cells) rfl rfl rfl (am6 _) (fun _ _ _=>rfl)
     (fun Q l=>by simp_all) rfl (D d k) (by
      have:=(j.rows y r H).2;cases J:blk y with
      | none=>rw[J]at this;exact this
      | some g =>
       rw[J]at this;have B:=this.2;unfold fp at B;rw[kc z]at B;obtain⟨I,Z,k2,k3⟩:=B;grind)
    have R:({ r with v:=e }:Row)=⟨e,r.ty,r.cells,r.fz,r.lst,false⟩:=by rw[<- kc z]
    rw[R];refine aP f ⟨cq blk d (blk y),?_,?_⟩
    ·show Inv _ _ _ _ _ _ _ (cq (cq h y none) d (some _)) _ _;refine i.weaken fun x v S =>?_;grind
    ·refine⟨.inr ⟨k,rfl⟩,fun U _ _ =>?_⟩;rw[aA];exact F.2 r H O
  ·split at b
   ·simp_all
   ·simp only[anf]at b;subst b;exact aP f ⟨blk,j.weaken fun _ _ h =>.inl h,trivial⟩
 | sl nl tight n xs =>
  unfold dY at b;split at b
  ·simp_all
  ·rename_i W;cases W;split at b
   ·rename_i d τ k hτ;split at b
    ·rename_i el X;split at b
     ·rename_i φ hφ;simp only[anf]at b;subst b;have Y:a.eval x=.slice none 0 0:=by
       have C:RP w (Own M h blk) (.sl true true 0 []) (a.eval x):=F;generalize a.eval x=u at *;cases C with
       | sl A c nl tight n xs us h1 h2 h3 h4 h5 h6 h7 h8=>simp_all
      have i:=j.acO (w':=w) (h1:=forget h none) (old:=none) (d:=d) (e:=e) (ty:=el) (lst:=true) (fz:=false) (go:=none) (cs:=[]) rfl rfl rfl (am6 _) (fun _ _ _=>rfl)
       (fun Q l=>by cases l) rfl (D d k) rfl
      refine aP f ⟨cq blk d none,?_,?_⟩
      ·refine i.weaken fun x v S =>?_;grind
      ·refine⟨.inr ⟨k,rfl⟩,fun U _ _ =>.inr ⟨aA _ _ _,rfl,none,Y⟩⟩
     ·cases b
    ·cases b
   ·cases b
  simp_all
 | _=>simp_all[dY,anf]
def adv(c:Inv N M L w0 blk V t h a w){g:Nat}{q:Nat->Bool}{x:Operand}{E:cI}(i:o.op=.assign x)(l:∀d,o.dst=some d->lE N V d e)(b:wy T q g e o.dst h (ev t x)=some E):fC P o a w (bz N M L w0 V t h a e o.dst E):=by
 have j:=c.ev x;unfold wy at b;split at b
 ·rename_i d m;split at b
  ·grind[Gd]
  ·unfold p6 at b;split at b
   ·rename_i n f k;simp only[anf]at b;subst b;exact aP (v:=a.eval x) (w':=w) (by simp[execOp,i]) (bz.Pp c f (c.uA k (c.iA f) j).kJ)
   ·cases b
 grind[Gd]
def A4{b:Bool}{u:Value}{h:Nat->Option Row}(a:RT w M h blk V (.bool b) u):u=.bool b:=by
 have c:RP w M (.bool b) u:=a;cases c;rfl
def pV{k:IntKind}{n:Int}{u:Value}{h:Nat->Option Row}(a:RT w M h blk V (.int k n) u):u=.int k n:=by
 have b:RP w M (.int k n) u:=a;cases b;rfl
theorem HQ{s:ByteArray}{u:Value}{h:Nat->Option Row}(a:RT w M h blk V (.str s) u):u=.string s:=by
 have b:RP w M (.str s) u:=a;cases b;rfl
def MR(d:Inv N M L w0 blk V t h a w){c x y:Operand}{b:Bool}(g:o.op=.pick c x y)(i:ev t c=.bool b):fC P o a w (bz N M L w0 V t h a e o.dst ⟨ev t (if b then x else y),[]⟩):=by
 refine aP (v:=a.eval (if b then x else y)) (w':=w) ?_ (bz.fa d (d.ev _));have f:=d.ev c;rw[i]at f;have j:=A4 f;cases b<;>simp[execOp,g,j,asBool]
def vo(a:List Value)(g:(a.map sf).all bH=true){w:World}{M:Nat->Prop}(j:Nat)(x:D)(b:(a.map sf)[j]? = some x):bH x=true∧RP w M x (a.toArray.getD j undef):=by
 have f:bH x=true:=by
  grind
 refine⟨f,?_⟩;rw[am3]at b;cases c:a[j]? with
 | none=>simp[c]at b
 | some v =>
  simp only[c,Option.map_some,anf]at b;subst b;have e:a.toArray.getD j undef=v:=by simp[c]
  rw[e];have:=acF w M (fun _=>none) (fun _=>none) (fun _ _=>True) v;generalize sf v=d at *;cases d<;>first|exact this|simp[bH]at f
def HP{d e:Nat}{g:Nat×Nat}{o:Nat}{b:Nat->Nat->Prop}{c:Nat->Option Row}{a:Nat->Option (Nat×Nat)}(f:b d e)(h:a d=some g):RT w M c a b (.ptr d e o) (.pointer (some ⟨g.1,g.2+o,none⟩)) :=
 ⟨f,fun _ _ _=>⟨g,h,rfl⟩⟩
def VQ{hint:Nat->Option Nat}(i:km P T)(k:Inv N M L w0 blk V t h a w){b d:Nat}{τ:Ty}(s:o.op=.alloc b)(f:o.dst=some d)(l:T b=some τ)(m:lE N V d e)(n:(τ.zero.map sf).all bH=true) :
  fC P o a w (bz N M L w0 V t h a e o.dst ⟨match hint d with|some y =>.pm d e y|none =>.ptr d e 0,[(d,some ⟨e,b,τ.zero.map sf,false,false,false⟩)]⟩):=by
 obtain⟨z,p,q⟩:=lZ (i b τ l) w;have c:=k.alloc (d:=d) (e:=e) (ty:=b) (lst:=false) (cs:=τ.zero.map sf) (vs:=τ.zero.toArray) m (by simp) (fun j x r=>vo τ.zero n j x r);refine aP (v:=.pointer (some ⟨w.heap.size,0,none⟩)) (w':=w.alloc (.cells τ.zero.toArray b)) ?_ ⟨cq blk d (some (w.heap.size,0)),?_,?_⟩
 ·simp_all[execOp,Instr.alloc,newVar,newRow]
 ·refine c.weaken fun x v u =>?_;grind
 ·cases hint d with
  | none=>exact HP (g:=(w.heap.size,0)) (o:=0) (.inr ⟨f,rfl⟩) (aA _ _ _)
  | some y=>exact⟨.inr ⟨f,rfl⟩,fun _ _ _=>⟨(w.heap.size,0),aA _ _ _,rfl⟩⟩
def EA{a:List Nat}{x:Nat}(b:a.contains x=false):aW h (lJ h a) x=h x:=by
 simp_all[Ez,if_neg]
def adx(c:Inv N M L w0 blk V t h a w){b d:Nat}{x:Operand}{f:List D}{i:List Nat}(j:o.op=.box b x)(k:o.dst=some d)(l:lE N V d e)(m:ir h (ev t x)=some (f,i)) :
  fC P o a w (bz N M L w0 V t h a e o.dst ⟨.ptr d e 0,lJ h i++[(d,some ⟨e,b,f,false,false,false⟩)]⟩):=by
 obtain⟨q,n⟩:=c.ir m (c.iA i) (c.ev x);have p:=(c.freeze i).alloc (d:=d) (e:=e) (ty:=b) (lst:=false) (cs:=f) (vs:=(a.eval x).cells) l (by omega) n;refine aP (v:=.pointer (some ⟨w.heap.size,0,none⟩)) (w':=w.alloc (.cells (a.eval x).cells b)) ?_ ⟨cq blk d (some (w.heap.size,0)),?_,?_⟩
 ·simp[execOp,j,Instr.box,newVar,newRow]
 ·grind[aW,lJ,ju]
 ·exact HP (g:=(w.heap.size,0)) (o:=0) (.inr ⟨k,rfl⟩) (aA _ _ _)
def Inv.rowAt(c:Inv N M L w0 blk V t h a w){x:Nat}{r:Row}{g:Nat×Nat}(e:h x=some r)(f:blk x=some g)(b:r.mp=false):At w (Own M h blk) g.1 g.2 r.cells:=by
 obtain⟨i,k,l,m⟩:=c.Jr e f b;intro j d n;grind[undef,List.getElem?_eq_some_iff,bm]
def RP.akn{M':Nat->Prop}{a:List D}{u:Value}(f:RP w M' (.ip a) u):∃c,u=.pointer (some c)∧(a≠[]->∃b o,c=⟨b,o,none⟩∧At w M' b o a):=by
 cases f with
 | ip a c us h6 h7 h8 =>
  refine⟨c,rfl,fun d =>?_⟩;obtain⟨b,o,rfl,_,_,g⟩:=h6 d;exact⟨b,o,rfl,fun j x e=>⟨h8 x (anv e),us j,g j (anx.1 e).1,h7 j x e⟩⟩
theorem vG(q:km P T)(r:Inv N M L w0 blk V t h a w){f:Nat}{p:Operand}{τ:Ty}{g c:Nat}{xs:List D}{d:D}(B:o.op=.load f p)(s:T f=some τ)(C:a.eval p=.pointer (some ⟨g,c,none⟩))
  (i:At w (Own M h blk) g c xs) (u:xs.length=τ.size) (j:mE τ xs=some d):fC P o a w (bz N M L w0 V t h a e o.dst ⟨d,[]⟩):=by
 obtain⟨b,k,x,y,z⟩:=i.FM;have l:τ.ds.xt=false->xs.length=1∧xs=[d]:=by
  intro m;simp only[mE,m,anD,if_false]at j;grind
 have n:=nI (q f τ s) w g c b (by rw[k,u]) x (fun m=>by simp_all);refine aP (v:=if τ.ds.xt then .agg b.toArray else b.getD 0 undef) (w':=w) ?_ (bz.fa r ?_)
 ·simp_all[execOp,Instr.loadAt,Instr.sureAddr]
 ·apply cd;cases A:τ.ds.xt with
  | true =>
   simp only[mE,A,if_true,anf]at j;subst j;exact .agg xs b k y z
  | false =>
   grind
def O9(F:km P T)(i:Inv N M L w0 blk V t h a w){k:Nat}{p:Operand}{τ:Ty}{x c:Nat}{r:Row}{g:Nat×Nat}{d:D}(U:o.op=.load k p)(G:T k=some τ)(W:a.eval p=.pointer (some ⟨g.1,g.2+c,none⟩))
  (A:h x=some r) (l:r.mp=false) (H:r.fz=true) (I:r.lst=false) (B:blk x=some g) (J:c+τ.size<=r.cells.length) (b:aiC τ.ds.xt ((r.cells.drop c).take τ.size)=some d):fC P o a w (bz N M L w0 V t h a e o.dst ⟨d,[]⟩):=by
 have f:((r.cells.drop c).take τ.size).length=τ.size:=by simp;omega
 generalize m:(r.cells.drop c).take τ.size=cs at b f;unfold aiC at b;split at b
 ·rename_i y v s q n;simp only[anf]at b;have K:τ.size=1:=by simp_all
  have z:r.cells[c]? = some (.ali y v s q n):=by
   have:((r.cells.drop c).take τ.size)[0]? = some (.ali y v s q n):=by rw[m];rfl
   grind
  obtain⟨u,O,Q⟩:=i.ali x r g A H I B c _ (.buf y v s q n) z rfl;have C:=nI (F k τ G) w g.1 (g.2+c) [u] (by omega) (fun j v z=>by
   grind) (fun _=>rfl)
  refine aP (v:=if τ.ds.xt then .agg [u].toArray else [u].getD 0 undef) (w':=w) ?_ (bz.fa i ?_)
  ·simp_all[execOp,Instr.loadAt,Instr.sureAddr]
  ·cases R:τ.ds.xt with
   | false =>
    simp_all
   | true =>
    rw[R]at b;simp only[if_true]at b;subst b;obtain⟨_,Y,E,S⟩:=i.rowAt A B l c _ z;rw[O]at E;cases E;exact⟨u,rfl,S.tL rfl,Q⟩
 ·cases b
def aaL(u:km P T)(l:Inv N M L w0 blk V t h a w){m:Nat}{p:Operand}{τ:Ty}{E:cI}(A:o.op=.load m p)(y:T m=some τ)(f:gi τ h (ev t p)=some E):fC P o a w (bz N M L w0 V t h a e o.dst E):=by
 have B:=l.ev p;generalize ev t p=q at *;cases q with
 | ptr x v c =>
  simp only[gi]at f;split at f
  ·rename_i r C;split at f
   ·rename_i i;split at f
    ·rename_i d n;simp only[anf]at f;subst f;obtain⟨s,G⟩:=da C;obtain⟨g,H,I⟩:=B.2 r s G;have:=((l.rowAt s H (kc C)).drop c).take τ.size;grind[vG]
    ·cases f
   ·cases f
  ·cases f
 | ip xs =>
  simp only[gi]at f;split at f
  ·rename_i i;split at f
   ·rename_i d n;simp only[anf]at f;subst f;obtain⟨R,D,J⟩:=RP.akn (M':=Own M h blk) B
    by_cases k:xs=[]
    ·subst k;have K:τ.size=0:=by simpa using i
     have F:τ.ds.xt=true:=by
      grind[mE]
     have z:=run_sizeOf (u m τ y) w;refine aP (v:=.agg #[]) (w':=w) ?_ (bz.fa l ?_)
     ·simp[execOp,A,Instr.loadAt,Instr.sureAddr,D,loadVar,pG (u m τ y),F,z,K,loadCells,loadCellsFrom]
     ·simp only[mE,F,if_true,List.take_nil,anf]at n;subst n;exact cd (.agg [] [] rfl (fun j x O=>by simp at O) (fun x s=>by simp at s))
    ·obtain⟨b,c,rfl,Q⟩:=J k;exact vG u l A y D (At.take Q _) (by simp;omega) n
   ·cases f
  ·cases f
 | _=>simp[gi]at f
def CI{h:Nat->Option Row}{x v:Nat}{r:Row}{y s n:Nat}(a:xe h x v=some (r,y,s,n)):h x=some r∧r.v=v∧r.mp=true∧r.cells=[.ph y s n]:=by
 unfold xe at a;grind
theorem adA(W:km P T)(l:Inv N M L w0 blk V t h a w){H:Nat}{p:Operand}{τ:Ty}{x v y:Nat}{E:cI}(ho:o.op=.load H p)(X:T H=some τ)(Y:RT w (Own M h blk) h blk V (.pm x v y) (a.eval p))(i:Cj τ h x v y (xe h x v)=some E):fC P o a w (bz N M L w0 V t h a e o.dst E):=by
 cases I:xe h x v with
 | none=>rw[I]at i;cases i
 | some q =>
  obtain⟨R,m,s,n⟩:=q;rw[I]at i;simp only[Cj]at i;obtain⟨S,Z,J,K⟩:=CI I;split at i
  ·rename_i r C;split at i
   ·rename_i k;obtain⟨rfl,c2,c3,c4,c5,c6⟩:=k;simp only[anf]at i;subst i;obtain⟨g,hg,O⟩:=Y.2 R S Z;obtain⟨_,u,U,h2⟩:=l.pha x R g S J hg 0 _ _ _ (by rw[K];rfl);have D:=nI (W H τ X) w g.1 (g.2+0) [u] (by simpa using c6.symm) (fun j v z=>by
     grind) (fun _=>rfl)
    have f:=l.iA [m];have hk:∀b,b<w.heap.size->¬Own M h blk b->b<w.heap.size∧¬Own M (aW h (lJ h [m])) blk b∧w.heap[b]? = w.heap[b]?:=fun b U h2=>⟨U,fun hb=>h2 (f.le b hb),rfl⟩;have Q:RP w (Own M (aW h (lJ h [m])) blk) (.sl false false n r.cells) u:=by
     rcases h2 r C with⟨B,c,N',aa,F,rfl,g2,g3,g4,g5⟩|⟨F,rfl,A,rfl⟩
     ·obtain⟨arr,k1,k2,k3⟩:=l.Jr C F c3;refine .sl (some ⟨B.1,B.2,none⟩) c false false n _ (fun j=>arr.getD (B.2+j) undef) g3 g4 (fun h=>by cases h) (fun h=>by cases h) (fun h=>by cases h) (fun _=>⟨B.1,B.2,rfl,l.lt C F,f.no m (by simp) r B C F,fun j z=>bm k1 (by omega)⟩) (fun j d z=>(k3 j d z).2.keep hk) (fun d G =>?_);grind[List.getElem?_of_mem]
     ·have:=(l.rows m r C).2;rw[F]at this;have hc:r.cells=[]:=this;rw[hc];exact .sl A 0 false false 0 [] (fun _=>undef) (am6 _) (am7 _) (fun h=>by cases h) (fun _=>⟨rfl,rfl⟩) (fun h=>by cases h) (fun h=>absurd rfl h) (fun j d z=>by simp at z) (fun d G=>by simp at G)
    simp only[Nat.add_zero]at D O;refine aP (v:=if τ.ds.xt then .agg [u].toArray else [u].getD 0 undef) (w':=w) ?_ (bz.Pp l [m] ?_)
    ·simp_all[execOp,Instr.loadAt,Instr.sureAddr]
    ·cases hA:τ.ds.xt with
     | false=>exact Q
     | true =>
      refine .agg [_] [u] rfl (fun j d z =>?_) (fun d G =>?_)
      ·grind
      ·simp only[anr]at G;subst G;rfl
   ·cases i
  ·cases i
def agt(z:km P T)(m:Inv N M L w0 blk V t h a w){A:Nat}{p:Operand}{τ:Ty}{E:cI}(I:o.op=.load A p)(B:T A=some τ)(b:uD τ h (ev t p)=some E):fC P o a w (bz N M L w0 V t h a e o.dst E):=by
 have J:=m.ev p;have f:=aaL (P:=P) (o:=o) (e:=e) (E:=E) z m I B;generalize ev t p=q at *;cases q with
 | ptr x v c =>
  simp only[uD]at b;cases l:live h x v with
  | none=>rw[l]at b;cases b
  | some r =>
   rw[l]at b;simp only[wz]at b;split at b
   ·rename_i i;simp only[anF,Bool.not_eq_true']at i;split at b
    ·rename_i C;split at b
     ·rename_i d D;simp only[anf]at b;subst b;obtain⟨n,F⟩:=da l;obtain⟨g,G,s⟩:=J.2 r n F;exact O9 z m I B s n (kc l) i.1 i.2 G C D
     ·exact f b
    ·cases b
   ·exact f b
 | pm x v y =>
  simp only[uD]at b;split at b
  ·rename_i r l;split at b
   ·rename_i K O H;split at b
    ·rename_i k;obtain⟨R,S,U,X⟩:=k;simp only[anf]at b;subst b;obtain⟨n,F⟩:=da l;obtain⟨g,G,s⟩:=J.2 r n F;obtain⟨u,Y,W⟩:=m.ali x r g n R S G 0 (.alm K O) (.mp K O) (by rw[H];rfl) rfl;have Q:=nI (z A τ B) w g.1 (g.2+0) [u] (by simpa using U.symm) (fun j v Z=>by
      grind) (fun _=>rfl)
     refine aP (v:=u) (w':=w) ?_ (bz.fa m W);simp_all[execOp,Instr.loadAt,Instr.sureAddr,anE]
    ·cases b
   ·cases b
  grind[adA]
 | _=>exact f b
def wk(a:Array Value)(b:List Value)(c j:Nat)(e:c+b.length<=a.size) :
  (a.toList.take c++b++a.toList.drop (c+b.length)).toArray.getD j undef=if j<c then a.getD j undef else if j<c+b.length then b.getD (j-c) undef else a.getD j undef:=by
 have d:min c a.size=c:=by omega
 simp only[ana,List.getElem?_toArray,anG];grind
def pE{cells a:List D}{c j:Nat}(d:c+a.length<=cells.length):(putCells cells c a)[j]? = if j<c then cells[j]? else if j<c+a.length then a[j-c]? else cells[j]?:=by
 have b:min c cells.length=c:=by omega
 unfold putCells;grind
theorem lL{cells a:List D}{c:Nat}(b:c+a.length<=cells.length):(putCells cells c a).length=cells.length:=by
 simp[putCells];omega
def spliced{w:World}{M:Nat->Prop}{cells a:List D}{cur:Array Value}{e:List Value}{b c:Nat}(f:c+a.length<=cells.length)(g:e.length=a.length)(h:b+cells.length<=cur.size)
  (k:∀j d,cells[j]? = some d->bH d=true∧RP w M d (cur.getD (b+j) undef)) (l:∀j d,a[j]? = some d->bH d=true∧RP w M d (e.getD j undef)) (j:Nat) (d:D) (i:(putCells cells c a)[j]? = some d) :
  bH d=true∧RP w M d ((cur.toList.take (b+c)++e++cur.toList.drop (b+c+e.length)).toArray.getD (b+j) undef):=by
 rw[pE f]at i;rw[wk _ _ _ _ (by omega),g];grind
def Jq(b:Bool)(a:List D):(vX b a).length=a.length:=by cases b<;>simp[vX]
def W7{w:World}{M:Nat->Prop}{c:List D}{e:List Value}{b:Bool}(f:∀j d,c[j]? = some d->bH d=true∧RP w M d (e.getD j undef))(j:Nat)(d:D)(a:(vX b c)[j]? = some d):bH d=true∧RP w M d (e.getD j undef):=by
 cases b with
 | false=>exact f j d a
 | true =>
  simp only[vX,if_true,am3,am4]at a;obtain⟨x,g,rfl⟩:=a;obtain⟨h,i⟩:=f j x g;exact⟨by rw[qq];exact h,i.canon⟩
def VX(S:km P T)(l:Inv N M L w0 blk V t h a w){B:Nat}{p x:Operand}{τ:Ty}{E:cI}(U:o.op=.store B p x)(W:T B=some τ)(f:jz τ h (ev t p) (ev t x)=some E):fC P o a w (bz N M L w0 V t h a e o.dst E):=by
 have X:=l.ev p;have Y:=l.ev x;generalize ev t p=q at *;generalize ev t x=z at *;cases q with
 | ptr y v c =>
  simp only[jz]at f;split at f
  ·rename_i r C;split at f
   ·rename_i A D Z;split at f
    ·rename_i k;obtain⟨c1,c2,c3,c4⟩:=k;simp only[anf]at f;subst f;obtain⟨J,F⟩:=da C;obtain⟨g,K,G⟩:=X.2 r J F;have m:aW h (lJ h D) y=some r:=by rw[EA c4];exact J
     have n:=l.freeze D;obtain⟨u1,O⟩:=l.ir Z (l.iA D) Y;obtain⟨b,Q,h4,h5⟩:=n.Jr m K (kc C);have i:=run_storeCells_at P g.1 (g.2+c) r.ty (a.eval x).cells.toList 0 b w Q (by grind) (fun v F=>by
      obtain⟨j,s⟩:=anq F;have H:=(anx.1 s).1;simp only[Array.length_toList]at H;obtain⟨q1,R⟩:=O j _ (anj (by omega));have:(a.eval x).cells.getD j undef=v:=by simp_all
      rw[this]at R;exact R.tL q1)
     rw[anE]at i;have aa:(a.eval x).cells.toList.length=A.length:=by omega
     have u:(b.toList.take (g.2+c)++(a.eval x).cells.toList++b.toList.drop (g.2+c+(a.eval x).cells.toList.length)).toArray.size=b.size:=by
      simp;omega
     have ab:=Jq r.lst A;have hw:=n.write m c3 K (kc C) (cs:=putCells r.cells c (vX r.lst A)) Q u (by grind[lL])
      (fun j d s=>spliced (by omega) (by omega) h4 h5 (W7 (fun j d s=>by simpa [List.getD] using O j d s)) j d s)
     refine .inr (.inl ⟨w.setRow g.1 (b.toList.take (g.2+c)++(a.eval x).cells.toList++b.toList.drop (g.2+c+(a.eval x).cells.toList.length)).toArray,?_,blk,?_,trivial⟩)
     ·have I:(a.eval x).cells.size=τ.size:=by omega
      simp[execOp,U,Instr.storeAt,Instr.sureAddr,G,storeVar,run_sizeOf (S B τ W),I,i]
     ·rw[ju];exact hw.weaken fun _ _ h =>.inl h
    ·cases f
   ·cases f
  ·cases f
 | _=>simp[jz]at f
def MS(K:km P T)(F:Inv N M L w0 blk V t h a w){A:Nat}{p x:Operand}{τ:Ty}{y:Nat}{r:Row}{g:Nat×Nat}{c d:D}{i:Value}(O:o.op=.store A p x)(Q:T A=some τ)(R:τ.size=1)(c3:r.cells.length=1)(S:r.fz=false)(B:r.mp=false)
  (G:h y=some r) (u:blk y=some g) (C:a.eval p=.pointer (some ⟨g.1,g.2+0,none⟩)) (U:(a.eval x).cells = #[i]) (H:i.oneCell'=true) (W:alD c=some d) (X:bH c=true) (Y:∀I Z,RP I Z c i) (E:RT w (Own M h blk) h blk V d i) :
  fC P o a w (bz N M L w0 V t h a e o.dst ⟨.und,[(y,some ⟨r.v,r.ty,[c],true,false,false⟩)]⟩):=by
 obtain⟨f,J,h4,h5⟩:=F.Jr G u B;have k:=run_storeCells_at P g.1 (g.2+0) r.ty [i] 0 f w J (by simp;omega) (fun v hv=>by
  simp_all)
 rw[anE]at k;have m:f.size=(f.toList.take (g.2+0)++[i]++f.toList.drop (g.2+0+[i].length)).toArray.size:=by simp;omega
 have n:(f.toList.take (g.2+0)++[i]++f.toList.drop (g.2+0+[i].length)).toArray.getD g.2 undef=i:=by
  simp only[ana];grind
 generalize aa:(f.toList.take (g.2+0)++[i]++f.toList.drop (g.2+0+[i].length)).toArray=nv at k m n;have l:(w.setRow g.1 nv).heap[g.1]? = some (.cells nv r.ty (0,0)):=setRow_heap w g.1 f nv r.ty (0,0) J;have ab:(w.setRow g.1 nv).heap.size=w.heap.size:=by simp[World.setRow]
 have hheap:∀b,b≠g.1->(w.setRow g.1 nv).heap[b]? = w.heap[b]?:=by
  grind[World.setRow]
 have hw:=F.rewrite (fz:=true) (lst:=false) (cs:=[c]) (w':=w.setRow g.1 nv) G S rfl rfl rfl (by omega) (fun b _ hb=>hheap b (hb g u)) (by
  rw[u];refine⟨by grind[World.shape?],nv,l,by simp;omega,fun j d z =>?_⟩;grind) (fun _ _ g' q j c' d' z s=>by
  rw[u]at q;cases q;cases j with
  | zero =>
   simp only[List.getElem?_cons_zero,anf]at z;subst z;rw[W]at s;cases s;refine⟨i,?_,E⟩;rw[anE,bm l (by omega),n]
  | succ j=>simp at z)
 refine .inr (.inl ⟨w.setRow g.1 nv,?_,blk,?_,trivial⟩)
 ·simp[execOp,O,Instr.storeAt,Instr.sureAddr,C,storeVar,run_sizeOf (K A τ Q),R,U,k]
 ·exact hw.weaken fun _ _ h =>.inl h
def aaO(hT:km P T)(J:Inv N M L w0 blk V t h a w)(hP:∀x v,V x v->x<N∨2*PK<=x){S:Nat}{p x:Operand}{τ:Ty}{y i U K:Nat}{r q:Row}{g:Nat×Nat}{k:Value}(ho:o.op=.store S p x)(hτ:T S=some τ)(c1:τ.size=1)(c3:r.cells.length=1)(c4:r.fz=false)(W:r.mp=false)
  (hx:h y=some r) (X:y<N) (hg:blk y=some g) (Y:a.eval p=.pointer (some ⟨g.1,g.2+0,none⟩)) (hu:(a.eval x).cells = #[k]) (aq:k.oneCell'=true) (F:h i=some q) (Z:q.fz=false) (au:q.lst=true) (aa:q.mp=false) (ab:y≠i)
  (l:(∃m o' c N' t,blk i=some m∧k=.slice (some ⟨m.1,o',none⟩) K c∧(0<c∨0=0->o'=m.2+0∧c*U+o'=N')∧K<=c∧c<=maxLen∧w.shape? m.1=some (t,N'))∨(blk i=none∧K=0∧∃A,k=.slice A 0 0)) :
  fC P o a w (bz N M L w0 V t h a e o.dst ⟨.und,[(i,none),(PK+y,some ⟨0,q.ty,q.cells,false,true,false⟩),(y,some ⟨r.v,r.ty,[.ph (PK+y) U K],false,false,true⟩)]⟩):=by
 obtain⟨f,h3,h4,h5⟩:=J.Jr hx hg W;have u:=run_storeCells_at P g.1 (g.2+0) r.ty [k] 0 f w h3 (by simp;omega) (fun v hv=>by
  simp_all)
 rw[anE]at u;have G:f.size=(f.toList.take (g.2+0)++[k]++f.toList.drop (g.2+0+[k].length)).toArray.size:=by simp;omega
 have O:(f.toList.take (g.2+0)++[k]++f.toList.drop (g.2+0+[k].length)).toArray.getD g.2 undef=k:=by
  simp only[ana];grind
 generalize av:(f.toList.take (g.2+0)++[k]++f.toList.drop (g.2+0+[k].length)).toArray=nv at u G O;have E:(w.setRow g.1 nv).heap[g.1]? = some (.cells nv r.ty (0,0)):=setRow_heap w g.1 f nv r.ty (0,0) h3;have aw:(w.setRow g.1 nv).heap.size=w.heap.size:=by simp[World.setRow]
 have hheap:∀b,b≠g.1->(w.setRow g.1 nv).heap[b]? = w.heap[b]?:=by
  grind[World.setRow]
 have ar:=J.big;have ax:PK=1000000:=rfl;have Q:y≠PK+y:=by omega
 have ad:∀v,¬V (PK+y) v:=fun v hv=>by grind
 have B:=(J.rows i q F).2;have ae:∀b,Own M (forget h (some i)) blk b->Own M h blk b:=fun b C=>by
  rcases C with C|⟨z,r',m,hz,ag,ah,ai⟩
  ·exact .inl C
  ·simp only[forget]at hz
   by_cases aj:z=i
   ·grind[aA]
   ·rw[aG _ _ aj]at hz;exact .inr ⟨z,r',m,hz,ag,ah,ai⟩
 have hA:=J.acQ (w':=w) (h1:=forget h (some i)) (old:=some i) (d:=PK+y) (r0:=⟨0,q.ty,q.cells,false,true,false⟩) (go:=blk i) (y0:=y) rfl rfl rfl (am6 _) (fun _ _ _=>rfl) (fun y' ay=>by simp_all) rfl rfl X ad
  (fun r' ak=>by
   simp only[forget]at ak;grind[aG]) (by
  cases C:blk i with
  | none=>rw[C]at B;exact B
  | some m =>
   obtain⟨al,k1,k2,k3⟩:=J.Jr F C aa;refine⟨.inr ⟨i,m,rfl,C,rfl⟩,al,k1,k2,fun j d I=>⟨(k3 j d I).1,(k3 j d I).2.keep fun b q1 q2=>⟨q1,?_,rfl⟩⟩⟩;rintro (hn|rfl)
   ·simp_all
   ·exact q2 (.inr ⟨i,q,m,F,Z,C,rfl⟩)) rfl
 have ao:cq (forget h (some i)) (PK+y) (some (⟨0,q.ty,q.cells,false,true,false⟩:Row)) y=some r:=by
  rw[aG _ _ Q];simp only[forget];rw[aG _ _ ab,hx]
 have H:cq blk (PK+y) (blk i) y=some g:=by rw[aG _ _ Q,hg]
 have hB:=hA.lM (r0:=⟨r.v,r.ty,[.ph (PK+y) U K],false,false,true⟩) (w':=w.setRow g.1 nv) ao c4 rfl rfl rfl rfl (by omega) (fun b _ C=>hheap b (C g H)) (by
  rw[H];refine⟨by grind[World.shape?],.inr ⟨fun d hd=>by simp only[anr]at hd;subst hd;rfl,nv,E,by simp;omega,fun j d I =>?_⟩⟩;cases j with
  | zero=>simp only[List.getElem?_cons_zero,anf]at I;subst I;trivial
  | succ j=>simp at I) (fun h=>by cases h) (fun _ m R j x' s n hc=>by
  rw[H]at R;cases R;cases j with
  | succ j=>simp at hc
  | zero =>
  simp only[List.getElem?_cons_zero,anf,D.ph.injEq]at hc;obtain⟨rfl,rfl,rfl⟩:=hc;refine⟨⟨by omega,.inl rfl⟩,k,by rw[anE,bm E (by omega),O],fun r' _ =>?_⟩;rw[aA];rcases l with⟨m,o',c,N',t,k0,k1,k2,k3,k4,k5⟩|l
  ·grind
  ·exact .inr l)
 refine .inr (.inl ⟨w.setRow g.1 nv,?_,cq blk (PK+y) (blk i),?_,trivial⟩)
 ·simp[execOp,ho,Instr.storeAt,Instr.sureAddr,Y,storeVar,run_sizeOf (hT S τ hτ),c1,hu,u]
 ·exact hB.weaken fun _ _ h =>.inl h
def adG(I:km P T)(m:Inv N M L w0 blk V t h a w)(U:∀x v,V x v->x<N∨2*PK<=x){W:Nat}{p x:Operand}{τ:Ty}{E:cI}(J:o.op=.store W p x)(K:T W=some τ)(b:jy τ h (ev t p) (ev t x)=some E):fC P o a w (bz N M L w0 V t h a e o.dst E):=by
 have O:=m.ev p;have Q:=m.ev x;have s:=VX (P:=P) (o:=o) (e:=e) (E:=E) I m J K;generalize ev t p=q at *;generalize ev t x=z at *;cases z with
 | box1 Z v1 s1 o1 n1 =>
  cases q with
  | ptr y v c =>
   simp only[jy]at b;split at b
   ·rename_i r j;split at b
    ·rename_i d;obtain⟨u,rfl,A,B,X⟩:=d;simp only[anf]at b;subst b;obtain⟨l,C⟩:=da j;obtain⟨g,D,i⟩:=O.2 r l C;obtain⟨Y,F,f,n⟩:=Q;exact MS I m J K u A B (kc j) l D i (by rw[F];rfl) f rfl rfl (fun _ _ =>.ali _ _ _ _ _ _ f) (show RT w (Own M h blk) h blk V (.buf Z v1 s1 o1 n1) Y from n)
    ·cases b
   ·cases b
  | pm y v k =>
   simp only[jy]at b;split at b
   ·rename_i r q j G;split at b
    ·rename_i d;obtain⟨u,rfl,A,B,X,R,c7,c8,c9,rfl,aa⟩:=d;simp only[anf]at b;subst b;obtain⟨l,C⟩:=da j;obtain⟨H,S⟩:=da G;obtain⟨g,D,i⟩:=O.2 r l C;obtain⟨Y,F,f,n⟩:=Q;exact aaO I m U J K u A B (kc j) l (by have:=U _ _ O.1;omega) D i (by rw[F];rfl) f H R c7 (kc G) c9 (n.2 q H S)
    ·cases b
   ·cases b
  | _=>simp[jy]at b
 | mp y1 v1 =>
  cases q with
  | pm y v c =>
   simp only[jy]at b;split at b
   ·rename_i r j;split at b
    ·rename_i d;obtain⟨u,c2,A,B,X,R⟩:=d;subst c2;simp only[anf]at b;subst b;obtain⟨l,C⟩:=da j;obtain⟨g,D,i⟩:=O.2 r l C;obtain⟨⟨ks,vs⟩,hm⟩:=Option.isSome_iff_exists.1 R;obtain⟨g2,_,_,_,_,_,_,F,_⟩:=m.TD hm Q;exact MS I m J K u A B (kc j) l D i (by rw[F];rfl) rfl rfl rfl (fun _ _ =>.alm _ _ _ rfl) (by simp_all)
    ·cases b
   ·cases b
  | _=>simp[jy]at b
 | _=>exact s b
end
section
variable {P:Program} {T:Nat->Option Ty} {N:Nat} {M:Nat->Prop} {L:mc} {w0:World} {blk:Nat->Option (Nat×Nat)} {V:Nat->Nat->Prop} {t:Nat->D} {h:Nat->Option Row} {a:Act} {w:World} {e:Nat} {o:Oper} {Γ:Env}
def j0{d:TypeDesc}{a:List (Nat×Nat)}(h:conv d=.struct a):∃F,d=.struct F∧(F.toList.map fun f=>(f.type,f.offset))=a:=by
 cases d<;>simp[conv]at h;simp_all
def iN{d:TypeDesc}{e:Nat}(h:conv d=.slice e):d=.slice e:=by
 cases d<;>simp[conv]at h;rw[h]
def Dk{d:TypeDesc}{n e:Nat}(h:conv d=.arr n e):d=.array n e:=by
 cases d<;>simp[conv]at h;rw[h.1,h.2]
def w8{d:TypeDesc}(h:conv d=.str):d=.string:=by
 cases d<;>simp[conv]at h;rfl
def Bf{d:TypeDesc}(h:conv d=.bool):d=.bool:=by
 cases d<;>simp[conv]at h;rfl
def Dl{d:TypeDesc}{k:IntKind}(h:conv d=.int k):d=.int k:=by
 cases d<;>simp[conv]at h;rw[h]
def under(b:km P T){a:Nat}{τ:Ty}(c:T a=some τ):∃d,P.underlying a=some d∧conv d=τ.ds:=by
 obtain⟨d,i,z,e,f,_⟩:=(b a τ c).get;simp_all
def Su{F:Array Field}{b:List (Nat×Nat)}(d:(F.toList.map fun f=>(f.type,f.offset))=b){i c a:Nat}(e:b[i]? = some (c,a)):∃f,F[i]? = some f∧f.type=c∧f.offset=a:=by
 grind
def RP.YW{d:Nat->Prop}{a:List D}{e:Addr}{us:Nat->Value}(k:Nat)(f:a≠[]->∃b o,e=⟨b,o,none⟩∧b<w.heap.size∧¬d b∧∀j,j<a.length->w.cell? ⟨b,o+j,none⟩=some (us j))
  (n:∀j x,a[j]? = some x->RP w d x (us j)) (h8:∀x∈a,bH x=true):RP w d (.ip (a.drop k)) (.pointer (some (e.add k))):=by
 refine .ip _ _ (fun j=>us (k+j)) (fun g =>?_) (fun j x h =>?_) (fun x i=>h8 x (anI i))
 ·have c:a≠[]:=by grind
  obtain⟨b,o,rfl,l,m,p⟩:=f c;refine⟨b,o+k,uo _ _ _,l,m,fun j h =>?_⟩;grind
 simp_all
def adD(d:Inv N M L w0 blk V t h a w){x:Operand}{E:cI}(j:o.op=.nilCheck x)(b:rp h (ev t x)=some E):fC P o a w (bz N M L w0 V t h a e o.dst E):=by
 have f:=d.ev x;generalize u:ev t x=q at *;cases q with
 | ptr y v c =>
  simp only[rp]at b;split at b
  ·rename_i r k;simp only[anf]at b;subst b;obtain⟨l,m⟩:=uT k;obtain⟨g,z,i⟩:=f.2 r l m;refine aP (v:=.pointer (some ⟨g.1,g.2+c,none⟩)) (w':=w) ?_ (bz.fa d ?_)
   ·simp[execOp,j,i]
   simp_all
  ·cases b
 | ip xs =>
  simp only[rp,anf]at b;subst b;have n:=f;obtain⟨p,s,_⟩:=RP.akn (M':=Own M h blk) f;refine aP (v:=.pointer (some p)) (w':=w) ?_ (bz.fa d ?_)
  ·simp[execOp,j,s]
  simp_all
 | _=>simp[rp]at b
def Ip(R:km P T)(H:Inv N M L w0 blk V t h a w){x:Operand}{S i:Nat}{τ:Ty}{E:cI}(W:o.op=.fieldAddr S x i)(X:T S=some τ)(b:iw T τ h i (ev t x)=some E) :
  fC P o a w (bz N M L w0 V t h a e o.dst E):=by
 have D:=H.ev x;have z:∀(I:Addr)(fs:List (Nat×Nat))(p j:Nat)(φ:Ty),τ.ds=.struct fs->fs[i]? = some (p,j)->T p=some φ->φ.size≠0->a.eval x=.pointer (some I) ->
   (execOp a.eval o).run P w=.ok (.value (.pointer (some (I.add j)))) w:=by
  intro I fs p j φ l A B C G;obtain⟨d,Y,U⟩:=under R X;rw[l]at U;obtain⟨F,rfl,Z⟩:=j0 U;obtain⟨f,hf,rfl,rfl⟩:=Su Z A;have J:=run_sizeOf (P:=P) (R _ _ B) w;simp[execOp,W,Instr.fieldAt,run_underlying Y,hf,G,Instr.sureAddr,fieldPlace,J,C]
 generalize hq:ev t x=q at *;cases q with
 | ptr y v c =>
  simp only[iw]at b;split at b
  ·rename_i r fs K l;split at b
   ·rename_i p j A;split at b
    ·rename_i φ B;split at b
     ·cases b
     ·rename_i C;simp only[anf]at b;subst b;obtain⟨O,G⟩:=uT K;obtain⟨g,Q,m⟩:=D.2 r O G;refine aP (z _ fs p j φ l A B C m) (bz.fa H ⟨D.1,fun r' h1 h2=>⟨g,Q,by rw[uo,anp]⟩⟩)
    ·cases b
   ·cases b
  ·cases b
 | pm y v k =>
  simp only[iw]at b;split at b
  ·rename_i q fs K l;split at b
   ·rename_i p A;split at b
    ·rename_i φ B;split at b
     ·cases b
     ·rename_i C;simp only[anf]at b;subst b;obtain⟨ry,y',s,n⟩:=q;obtain⟨O,G,_,_⟩:=CI K;obtain⟨g,Q,m⟩:=D.2 ry O G;refine aP (z _ fs p 0 φ l A B C m) (bz.fa H ⟨D.1,fun r' h1 h2=>⟨g,Q,by rw[uo,anE]⟩⟩)
    ·cases b
   ·cases b
  ·cases b
 | ip xs =>
  simp only[iw]at b;split at b
  ·rename_i fs l;split at b
   ·rename_i p j A;split at b
    ·rename_i φ B;split at b
     ·cases b
     ·rename_i C;simp only[anf]at b;subst b;have m:RP w (Own M h blk) (.ip xs) (a.eval x):=D;generalize hu:a.eval x=u at *;cases m with
      | ip xs I us h6 h7 h8=>exact aP (z _ fs p j φ l A B C rfl) (bz.fa H (cd (RP.YW j h6 h7 h8)))
    ·cases b
   ·cases b
  ·cases b
 | _=>simp[iw]at b
def yZ(f:km P T){x g:Operand}{h el n c:Nat}{τ φ:Ty}{k:IntKind}{i:Int}{j:Addr}(m:o.op=.indexAddr h x g)(p:T h=some τ)(b:τ.ds=.slice el)(q:T el=some φ)
  (u:0<=i∧i<n) (r:a.eval x=.slice (some j) n c) (e:a.eval g=.int k i):(execOp a.eval o).run P w=.ok (.value (.pointer (some (j.add (i.toNat*φ.size))))) w:=by
 obtain⟨d,s,l⟩:=under f p;rw[b]at l;have:=iN l;subst this;have t:=run_sizeOf (P:=P) (f _ _ q) w;simp only[execOp,m,Instr.indexAt,r,e,asIntOf,anB,Sem.run_pure,Result.andThen_ok,run_underlying s];simp_all
def Hi(e:km P T){x f:Operand}{g el n:Nat}{τ φ:Ty}{k:IntKind}{i:Int}{h:Addr}(l:o.op=.indexAddr g x f)(m:T g=some τ)(b:τ.ds=.arr n el)(p:T el=some φ)
  (t:0<=i∧i<n) (q:a.eval x=.pointer (some h)) (c:a.eval f=.int k i):(execOp a.eval o).run P w=.ok (.value (.pointer (some (h.add (i.toNat*φ.size))))) w:=by
 obtain⟨d,r,j⟩:=under e m;rw[b]at j;have:=Dk j;subst this;have s:=run_sizeOf (P:=P) (e _ _ p) w;simp only[execOp,l,Instr.indexAt,q,c,asIntOf,anB,Sem.run_pure,Result.andThen_ok,run_underlying r,Instr.sureAddr];simp_all
def Iq(D:km P T)(m:Inv N M L w0 blk V t h a w){x C:Operand}{Q:Nat}{τ:Ty}{E:cI}(F:o.op=.indexAddr Q x C)(G:T Q=some τ)(b:di T τ h (ev t x) (ev t C)=some E) :
  fC P o a w (bz N M L w0 V t h a e o.dst E):=by
 have p:=m.ev x;have H:=m.ev C;generalize ev t x=q at *;generalize ev t C=z at *;cases z with
 | int k i =>
  have f:=pV H;cases q with
  | sl nl tight n xs =>
   simp only[di]at b;split at b
   ·rename_i el d;split at b
    ·rename_i φ B;split at b
     ·rename_i j;simp only[anf]at b;subst b;have l:RP w (Own M h blk) (.sl nl tight n xs) (a.eval x):=p;generalize U:a.eval x=u at *;cases l with
      | sl A c nl tight n xs us R S h3 h4 h5 h6 h7 h8 =>
       cases A with
       | none=>grind
       | some ad=>exact aP (yZ D F G d B j U f) (bz.fa m (cd (RP.YW _ (fun W=>by
         simp_all) h7 h8)))
     ·cases b
    ·cases b
   ·cases b
  | buf y v s c n =>
   simp only[di]at b;split at b
   ·rename_i r el I d;split at b
    ·rename_i φ B;split at b
     ·rename_i j;obtain⟨X,j⟩:=j;simp only[anf]at b;subst b;obtain⟨J,K⟩:=uT I;rcases p.2 r J K with⟨g,o',c',N',t',Y,Z,g2,g3,_⟩|⟨_,h0,_⟩
      ·have O:=(g2 (.inl (by omega))).1;subst O;exact aP (yZ D F G d B j Z f) (bz.fa m ⟨p.1,fun r' R S=>⟨g,Y,by rw[uo,X,anp]⟩⟩)
      ·omega
     ·cases b
    ·cases b
   ·cases b
  | ptr y v c =>
   simp only[di]at b;split at b
   ·rename_i r n el I d;split at b
    ·rename_i φ B;split at b
     ·rename_i j;simp only[anf]at b;subst b;obtain⟨J,K⟩:=da I;obtain⟨g,hg,l⟩:=p.2 r J K;exact aP (Hi D F G d B j l f) (bz.fa m ⟨p.1,fun r' R S=>⟨g,hg,by rw[uo,anp]⟩⟩)
     ·cases b
    ·cases b
   ·cases b
  | _=>simp[di]at b
 | _=>cases q<;>simp[di]at b
end
section
variable {P:Program} {T:Nat->Option Ty} {N:Nat} {M:Nat->Prop} {L:mc} {w0:World} {blk:Nat->Option (Nat×Nat)} {V:Nat->Nat->Prop} {t:Nat->D} {h:Nat->Option Row} {a:Act} {w:World} {e:Nat} {o:Oper} {Γ:Env}
def UN(f:km P T){k a:Nat}{φ:Ty}(g:T k=some φ){e:List D}{b:List Value}{d:D}{l:Nat->Prop}(m:b.length=e.length)(n:∀j x,e[j]? = some x->RP w l x (b.getD j undef))(h3:∀x∈e,bH x=true)
  (c:ZA φ e a=some d):∃v,(part k b.toArray a).run P w=.ok v w∧RP w l d v:=by
 unfold ZA at c;split at c
 ·rename_i h;split at c
  ·rename_i o;simp only[anf]at c;subst c;refine⟨.agg (b.toArray.extract a (a+φ.size)),by simp[part,pG (f _ _ g),h,run_sizeOf (f _ _ g)],?_⟩;have p:b.toArray.extract a (a+φ.size)=((b.drop a).take φ.size).toArray:=by
    simp_all
   rw[p];refine .agg _ _ (by simp[m]) (fun j x t =>?_) (fun x q=>h3 x (anI (anK q)));grind
  ·cases c
 ·rename_i h;have i:φ.ds.xt=false:=by simpa using h
  have r:=(anx.1 c).1;have s:=n a d c;refine⟨b.getD a undef,?_,s⟩;have:b.toArray[a]? = some (b.getD a undef):=by
   simp_all
  simp[part,pG (f _ _ g),i,this]
def VT(m:km P T)(n:Inv N M L w0 blk V t h a w){x:Operand}{p i:Nat}{τ:Ty}{E:cI}(s:o.op=.field p x i)(y:T p=some τ)(b:DD T τ i (ev t x)=some E):fC P o a w (bz N M L w0 V t h a e o.dst E):=by
 have z:=n.ev x;generalize ev t x=q at *;cases q with
 | agg xs =>
  simp only[DD]at b;split at b
  ·rename_i J c;split at b
   ·rename_i K A B;split at b
    ·rename_i φ C;split at b
     ·rename_i d D;simp only[anf]at b;subst b;have g:RP w (Own M h blk) (.agg xs) (a.eval x):=z;generalize G:a.eval x=u at *;cases g with
      | agg xs us h1 h2 h3 =>
       obtain⟨v,j,k⟩:=UN m C h1 h2 h3 D;obtain⟨O,l,r⟩:=under m y;rw[c]at r;obtain⟨F,rfl,H⟩:=j0 r;obtain⟨f,I,rfl,rfl⟩:=Su H B;refine aP (v:=v) (w':=w) ?_ (bz.fa n (cd k));simp[execOp,s,Instr.field,run_underlying l,I,G,asAgg,j]
     ·cases b
    ·cases b
   ·cases b
  ·cases b
 | _=>simp[DD]at b
def VU(r:km P T)(l:Inv N M L w0 blk V t h a w){x m:Operand}{D:Nat}{τ:Ty}{E:cI}(F:o.op=.index D x m)(I:T D=some τ)(c:oh T τ (ev t x) (ev t m)=some E) :
  fC P o a w (bz N M L w0 V t h a e o.dst E):=by
 have G:=l.ev x;have y:=l.ev m;generalize ev t x=q at *;generalize ev t m=z at *;obtain⟨R,g,p⟩:=under r I;cases z with
 | int k i =>
  have j:=pV y;cases q with
  | str s =>
   have J:=HQ G;simp only[oh]at c;split at c
   ·rename_i f;rw[f]at p;have:=w8 p;subst this;split at c
    ·rename_i S;split at c
     ·rename_i b U;simp only[anf]at c;subst c;refine aP (v:=.int .u8 b.toNat) (w':=w) ?_ (bz.fa l (cd (.int _ _)));simp only[execOp,F,Instr.index,j,J,asIntOf,anB,Sem.run_pure,Result.andThen_ok,run_underlying g];simp_all
     ·cases c
    ·cases c
   ·cases c
  | agg xs =>
   simp only[oh]at c;split at c
   ·rename_i n el f;rw[f]at p;have:=Dk p;subst this;split at c
    ·rename_i φ H;split at c
     ·rename_i K;split at c
      ·rename_i d O;simp only[anf]at c;subst c;have A:RP w (Own M h blk) (.agg xs) (a.eval x):=G;generalize Q:a.eval x=u at *;cases A with
       | agg xs us h1 h2 h3 =>
        obtain⟨v,B,C⟩:=UN r H h1 h2 h3 O;refine aP (v:=v) (w':=w) ?_ (bz.fa l (cd C));simp only[execOp,F,Instr.index,j,Q,asIntOf,anB,Sem.run_pure,Result.andThen_ok,run_underlying g];rw[if_pos K];simp[run_sizeOf (r _ _ H),B]
      ·cases c
     ·cases c
    ·cases c
   ·cases c
  | _=>simp[oh]at c
 | _=>cases q<;>simp[oh]at c
def rC{d:D}{n:Nat}(h:uW d=some n):∃k,d=.int k n:=by
 cases d with
 | int k i =>
  simp only[uW]at h;split at h
  ·simp only[anf]at h;exact⟨k,by grind⟩
  ·cases h
 | _=>simp[uW]at h
def run_sliceBound(k:IntKind)(n y:Nat)(c:BoundsCode)(a:n<=y):(Instr.sliceBound (.int k n) y c).run P w=.ok n w:=by
 have b:(n:Int)<=(y:Int):=by omega
 simp[Instr.sliceBound,asIntOf,b]
def yz(b:Bool){n cap l k:Nat}{e f:Option D}{vlo vhi:Option Value}(y:n<=cap)(c:Ce n e f=some (l,k))
  (s:∀d,e=some d->∃v,vlo=some v∧∀k n,d=.int k n->v=.int k n) (m:e=none->vlo=none)
  (t:∀d,f=some d->∃v,vhi=some v∧∀k n,d=.int k n->v=.int k n) (o:f=none->vhi=none) :
  (Instr.sliceBounds b n cap vlo vhi none).run P w=.ok (l,k,cap) w∧l<=k∧k<=n:=by
 unfold Ce at c;split at c
 ·rename_i g h u x;split at c
  ·rename_i a;simp only[anf,Prod.mk.injEq]at c;obtain⟨rfl,rfl⟩:=c;refine⟨?_,a.1,a.2⟩;have i:(f=none∧vhi=none∧g=n)∨∃q,vhi=some (.int q (g:Nat)):=by
    cases f with
    | none=>simp_all
    | some d =>
     obtain⟨q,rfl⟩:=rC u;simp_all
   have j:(e=none∧vlo=none∧h=0)∨∃q,vlo=some (.int q (h:Nat)):=by
    cases e with
    | none=>simp_all
    | some d =>
     obtain⟨q,rfl⟩:=rC x;simp_all
   rcases i with⟨_,rfl,rfl⟩|⟨p,rfl⟩<;>rcases j with⟨_,rfl,rfl⟩|⟨r,rfl⟩
   ·simp[Instr.sliceBounds]
   ·simp[Instr.sliceBounds,run_sliceBound r h _ _ a.1]
   ·simp[Instr.sliceBounds,run_sliceBound p g cap _ (by omega)]
   ·simp[Instr.sliceBounds,run_sliceBound p g cap _ (by omega),run_sliceBound r h _ _ a.1]
  ·cases c
 ·cases c
def UI(b:Bool){n cap l k m:Nat}{e:Option D}{p:D}{vlo:Option Value}{vhi r:Value}{q:IntKind}(a:Ce n e (some p)=some (l,k))(x:r=.int q m)(f:m<=cap)(g:k<=m)
  (y:∀d,e=some d->∃v,vlo=some v∧∀k n,d=.int k n->v=.int k n) (s:e=none->vlo=none)
  (h:∀k n,p=.int k n->vhi=.int k n):(Instr.sliceBounds b n cap vlo (some vhi) (some r)).run P w=.ok (l,k,m) w∧l<=k∧k<=n:=by
 unfold Ce at a;split at a
 ·rename_i t i z A;split at a
  ·rename_i c;simp only[anf,Prod.mk.injEq]at a;obtain⟨rfl,rfl⟩:=a;refine⟨?_,c.1,c.2⟩;obtain⟨u,rfl⟩:=rC z;have j:=h _ _ rfl;subst j x;have o:(e=none∧vlo=none∧i=0)∨∃q,vlo=some (.int q (i:Nat)):=by
    cases e with
    | none=>simp_all
    | some d =>
     obtain⟨q,rfl⟩:=rC A;simp_all
   rcases o with⟨_,rfl,rfl⟩|⟨B,rfl⟩
   ·simp[Instr.sliceBounds,run_sliceBound q m cap _ f,run_sliceBound u t m _ g]
   ·simp[Instr.sliceBounds,run_sliceBound q m cap _ f,run_sliceBound u t m _ g,run_sliceBound B i _ _ c.1]
  ·cases a
 ·cases a
def Inv.evo(c:Inv N M L w0 blk V t h a w)(x:Option Operand):(∀d,x.map (Am.ev t)=some d->∃v,x.map a.eval=some v∧∀k n,d=.int k n->v=.int k n)∧(x.map (Am.ev t)=none->x.map a.eval=none):=by
 cases x with
 | none=>simp_all
 | some x =>
  refine⟨fun d b=>⟨a.eval x,rfl,fun k n e =>?_⟩,fun b=>by simp at b⟩;simp only[Option.map_some,anf]at b;have:=c.ev x;rw[b,e]at this;exact pV this
def RP.cut{h:Nat->Prop}{A:Option Addr}{c n l k m s:Nat}{nl tight d a:Bool}{e:List D}(i:RP w h (.sl nl tight n e) (.slice A n c))(o:l<=k)(p:k<=n)(q:k<=m)(r:m<=c)(t:a=true->m=k)(u:d=true->nl=true∧tight=true∧a=true) :
  RP w h (.sl d a (k-l) ((e.drop (l*s)).take ((k-l)*s))) (.slice (if m=l then A else A.map (·.add (l*s))) (k-l) (m-l)):=by
 cases i with
 | sl A c nl tight n e us h1 h2 h3 h4 h5 h6 h7 h8 =>
  refine .sl _ _ d a _ _ (fun j=>us (l*s+j)) (by omega) (by omega) (fun v =>?_) (fun v =>?_) (fun f=>by rw[t f]) (fun y =>?_) (fun j x z =>?_) (fun x B=>h8 x (anI (anK B)))
  ·simp_all
  ·have H:A=none:=by
    cases A with
    | none=>rfl
    | some ad=>grind
   simp_all
  ·have g:e≠[]:=by grind
   have C:l<k:=by
    rcases anL l k with h'|h'
    ·exact h'
    simp_all
   obtain⟨b,E,rfl,F,G,I⟩:=h6 g;rw[if_neg (by omega)];refine⟨b,E+l*s,by simp[uo],F,G,fun j z =>?_⟩;grind
  grind
def VW(R:km P T)(I:Inv N M L w0 blk V t h a w){x:Operand}{S hi mx:Option Operand}{ty:Nat}{τ:Ty}{E:cI}(U:o.op=.slice ty x S hi mx)(hτ:T ty=some τ)
  (b:jx T τ h (ev t x) (S.map (ev t)) (hi.map (ev t)) (mx.map (ev t))=some E):fC P o a w (bz N M L w0 V t h a e o.dst E):=by
 have W:=I.ev x;obtain⟨j,p⟩:=I.evo S;obtain⟨z,J⟩:=I.evo hi;obtain⟨ah,O⟩:=I.evo mx;generalize ev t x=q at *;obtain⟨dd,B,Q⟩:=under R hτ;have ar:S.map a.eval=S.map a.eval:=rfl;cases q with
 | str s =>
  have X:=HQ W;simp only[jx]at b;split at b
  ·rename_i l k C f K;rw[C]at Q;have:=w8 Q;subst this;simp only[anf]at b;subst b;obtain⟨d,_,_⟩:=yz (P:=P) (w:=w) false (am6 _) K j p z J;have i:=O f;refine aP (v:=.string (s.extract l k)) (w':=w) ?_ (bz.fa I (cd (.str _)));simp only[execOp,U,Instr.sliceAt,anB,run_underlying B,Result.andThen_ok,Instr.slice,X,i];simp[d]
  ·cases b
 | sl nl tight n xs =>
  have D:RP w (Own M h blk) (.sl nl tight n xs) (a.eval x):=W;have ai:∃A c,a.eval x=.slice A n c∧n<=c∧(tight=true->c=n):=by
   generalize a.eval x=u at *;cases D with
   | sl A c nl tight n xs us h1 h2 h3 h4 h5 h6 h7 h8=>grind
  obtain⟨A,c,hu,aj,ag⟩:=ai;rw[hu]at D;simp only[jx]at b;split at b
  ·rename_i el C;rw[C]at Q;have:=iN Q;subst this;split at b
   ·rename_i φ l k Y K;split at b
    ·rename_i f;simp only[anf]at b;subst b;obtain⟨d,F,G⟩:=yz (P:=P) (w:=w) true aj K j p z J;have i:=O f;refine aP (v:=.slice (if c=l then A else A.map (·.add (l*φ.size))) (k-l) (c-l)) (w':=w) ?_ (bz.fa I (cd (D.cut F G (by omega) (am6 _) (fun ht =>?_) (fun Z =>?_))))
     ·simp only[execOp,U,Instr.sliceAt,anB,run_underlying B,Result.andThen_ok,Instr.slice,hu,i];simp[d,run_sizeOf (R _ _ Y)]
     ·simp_all
     ·simp only[anF]at Z;refine⟨Z.1,Z.2,?_⟩;have au:c=0∧n=0:=by
       cases D with
       | sl A c nl tight n xs us h1 h2 h3 h4 h5 h6 h7 h8=>simp_all
      simp_all
    ·rename_i md f;split at b
     ·rename_i m hd hm aa;split at b
      ·rename_i H;simp only[anf]at b;subst b;obtain⟨q,rfl⟩:=rC hm;obtain⟨vm,ak,ab⟩:=ah _ f;obtain⟨vh,al,ad⟩:=z _ aa;rw[aa]at K;obtain⟨d,F,G⟩:=UI (P:=P) (w:=w) true (cap:=c) K (ab _ _ rfl) (by omega) H.1 j p ad;refine aP (v:=.slice (if m=l then A else A.map (·.add (l*φ.size))) (k-l) (m-l)) (w':=w) ?_ (bz.fa I (cd (D.cut F G H.1 (by omega) (fun ht=>by simpa using ht) (fun Z=>by cases Z))));simp only[execOp,U,Instr.sliceAt,anB,run_underlying B,Result.andThen_ok,Instr.slice,hu,ak,al];simp[d,run_sizeOf (R _ _ Y)]
      ·cases b
     ·cases b
   ·cases b
  ·cases b
 | buf y v s c0 n =>
  simp only[jx]at b;split at b
  ·rename_i r el hl C f;rw[C]at Q;have:=iN Q;subst this;split at b
   ·rename_i φ l k Y K;split at b
    ·rename_i X;obtain⟨X,av⟩:=X;simp only[anf]at b;subst b;obtain⟨hx,hv⟩:=da hl;have i:=O f;rcases W.2 r hx hv with⟨g,o',c,N',t',g0,g1,g2,g3,g4,g5⟩|⟨g0,g1,A,g2⟩
     ·obtain⟨d,F,G⟩:=yz (P:=P) (w:=w) true g3 K j p z J;refine aP (v:=.slice (if c=l then (some ⟨g.1,o',none⟩) else (some ⟨g.1,o'+l*φ.size,none⟩)) (k-l) (c-l)) (w':=w) ?_ (bz.fa I ⟨W.1,fun r' h1 h2 =>.inl ?_⟩)
      ·simp only[execOp,U,Instr.sliceAt,anB,run_underlying B,Result.andThen_ok,Instr.slice,g1,i];simp[d,run_sizeOf (R _ _ Y),uo]
      ·by_cases ae:c=l
       ·rw[if_pos ae];refine⟨g,o',c-l,N',t',g0,rfl,fun hh =>?_,by omega,by omega,g5⟩;simp_all
       ·rw[if_neg ae];refine⟨g,o'+l*φ.size,c-l,N',t',g0,rfl,fun hh =>?_,by omega,by omega,g5⟩;obtain⟨q1,q2⟩:=g2 (.inl (by omega));have aw:l*s<=c*s:=anM _ (by omega);rw[X,Nat.sub_mul];omega
     ·subst g1;obtain⟨d,F,G⟩:=yz (P:=P) (w:=w) (cap:=0) true (am6 _) K j p z J;have ao:k=0:=by omega
      have aq:l=0:=by omega
      subst ao aq;refine aP (v:=.slice A 0 0) (w':=w) ?_ (bz.fa I ⟨W.1,fun r' h1 h2 =>.inr ⟨g0,rfl,A,rfl⟩⟩);simp only[execOp,U,Instr.sliceAt,anB,run_underlying B,Result.andThen_ok,Instr.slice,g2,i];simp[d,run_sizeOf (R _ _ Y)]
    ·cases b
   ·cases b
  ·cases b
 | _=>simp[jx]at b
end
section
variable {P:Program} {T:Nat->Option Ty} {N:Nat} {M:Nat->Prop} {L:mc} {w0:World} {blk:Nat->Option (Nat×Nat)} {V:Nat->Nat->Prop} {t:Nat->D} {h:Nat->Option Row} {a:Act} {w:World} {e:Nat} {o:Oper} {Γ:Env}
def UZ(b us:Array Value)(a:Nat)(d:a+us.size<=b.size) :
  us.zipIdx.foldl (fun cs (p:Value×Nat)=>cs.setIfInBounds (a+p.2) p.1) b=(b.toList.take a++us.toList++b.toList.drop (a+us.toList.length)).toArray:=by
 have key:∀(l:List Value)(k:Nat)(c:Array Value),a+k+l.length<=c.size ->
   (l.zipIdx k).foldl (fun cs (p:Value×Nat)=>cs.setIfInBounds (a+p.2) p.1) c=(c.toList.take (a+k)++l++c.toList.drop (a+k+l.length)).toArray:=by
  intro l
  induction l with
  | nil=>intro k c _;simp
  | cons v l e =>
   intro k c f;simp only[List.zipIdx_cons,List.foldl_cons];simp only[List.length_cons]at f;rw[e (k+1) _ (by simp;omega)];have:=list_seg_step c.toList (a+k) v l (by simp;omega);simp only[Array.toList_setIfInBounds];congr 1
 have:=key us.toList 0 b (by simp;omega);rw[anE]at this;rw[<- this,<- Array.foldl_toList,Array.toList_zipIdx]
def afq{w:World}{M:Nat->Prop}{cells e:List D}{a:Array Value}{f:List Value}{c:Nat}(g:c+e.length<=cells.length)(h:f.length=e.length)(i:cells.length<=a.size)
  (m:∀j d,cells[j]? = some d->bH d=true∧RP w M d (a.getD j undef)) (l:∀j d,e[j]? = some d->bH d=true∧RP w M d (f.getD j undef)) (j:Nat) (d:D) (k:(putCells cells c e)[j]? = some d) :
  bH d=true∧RP w M d ((a.toList.take c++f++a.toList.drop (c+f.length)).toArray.getD j undef):=by
 have:=spliced (cur:=a) (b:=0) g h (by omega) (fun j d k=>by grind) l j d k;simp_all
def Rq{w:World}{M:Nat->Prop}{a:List D}{f:Nat->Value}(c:∀(j:Nat) d,a[j]? = some d->bH d=true∧RP w M d (f j))(j:Nat)(d:D)(b:(a.map canon)[j]? = some d):bH d=true∧RP w M d (f j):=by
 rw[am3,am4]at b;obtain⟨x,e,rfl⟩:=b;obtain⟨g,h⟩:=c j x e;exact⟨by rw[qq];exact g,h.canon⟩
def Inv.lf(q:Inv N M L w0 blk V t h a w){f:Nat->Option (Nat×Nat)}{r:Nat->Prop}:∀{parts:List (Nat×Operand)}{cells c:List D}{o:List Nat}{cur:Array Value},
  lf h f cells (parts.map fun p=>(p.1,Am.ev t p.2))=some (c,o)->tu M h blk o r->cells.length=cur.size->(∀j d,cells[j]? = some d->bH d=true∧RP w r d (cur.getD j undef)) ->
  ∃b,Instr.fill f cur (parts.map fun p=>(p.1,a.eval p.2))=some b∧c.length=b.size∧c.length=cells.length∧∀j d,c[j]? = some d->bH d=true∧RP w r d (b.getD j undef)
 | [],cells,c,o,cur,e,s,m,u=>by
  simp only[anP,Am.lf,anf,Prod.mk.injEq]at e;obtain⟨rfl,rfl⟩:=e;exact⟨cur,rfl,m,rfl,u⟩
 | (i,x)::parts,cells,c,o,cur,e,s,m,u=>by
  simp only[anb,Am.lf]at e;split at e
  ·rename_i g n z B C E;split at e
   ·rename_i F;split at e
    ·rename_i A G H;simp only[anf,Prod.mk.injEq]at e;obtain⟨rfl,rfl⟩:=e;obtain⟨Q,I⟩:=q.ir E s.left (q.ev x);have v:(a.eval x).cells.toList.length=z.length:=by omega
     have k:g+z.length<=cells.length:=by omega
     obtain⟨b,J,K,O,P⟩:=q.lf (cur:=(cur.toList.take g++(a.eval x).cells.toList++cur.toList.drop (g+(a.eval x).cells.toList.length)).toArray) H s.right
      (by rw[lL k];simp;omega)
      (fun j d y=>afq k v (by omega) u (fun j d y=>by simpa [List.getD] using I j d y) j d y)
     refine⟨b,?_,K,by rw[O,lL k],P⟩;rw[<- J];simp only[anb,Instr.fill,C];have l:(decide ((a.eval x).cells.size≠n)||decide (g+(a.eval x).cells.size>cur.size))=false:=by simp;omega
     rw[if_neg (by simpa using l)];congr 1;exact UZ cur (a.eval x).cells g (by omega)
    ·cases e
   ·cases e
  ·cases e
def qy(b:km P T):∀(F:List Field),(∀f∈F,(T f.type).isSome=true)->(F.mapM fun f=>(do pure (f.offset,<- Go.sizeOf f.type):Sem (Nat×Nat))).run P w=.ok (F.map fun f=>(f.offset,((T f.type).map (·.size)).getD 0)) w
 | [],_=>by simp
 | f::F,hF=>by
  have c:=hF f (by simp);cases a:T f.type with
  | none=>simp[a]at c
  | some φ =>
   have d:=qy b F (fun g e=>hF g (by simp[e]));simp only[List.mapM_cons,anB,run_sizeOf (b _ _ a),Result.andThen_ok,Sem.run_pure,anb,a,Option.map_some,Option.getD_some];rw[d];rfl
def Ch(n:km P T)(q:Inv N M L w0 blk V t h a w){r:Nat}{parts:Array (Nat×Operand)}{τ:Ty}{E:cI}(J:o.op=.build r parts)(G:T r=some τ)(g:jw T τ h (parts.toList.map fun p=>(p.1,ev t p.2))=some E) :
  fC P o a w (bz N M L w0 V t h a e o.dst E):=by
 obtain⟨X,s,H⟩:=under n G;unfold jw at g;split at g
 ·rename_i K u;rw[u]at H;obtain⟨F,rfl,O⟩:=j0 H;split at g
  ·rename_i b;simp only[anF]at b;split at g
   ·rename_i x m Q;simp only[anf]at g;subst g;obtain⟨z,y,A⟩:=lZ (n r τ G) w;obtain⟨c,R,Y,Z,I⟩:=q.lf Q (q.iA m) (cur:=τ.zero.toArray) (by simp) (fun j d l=>vo τ.zero b.2 j d l);have k:∀f∈F.toList,(T f.type).isSome=true:=by
     intro f S;have:=b.1;rw[anh]at this;exact this (f.type,f.offset) (by grind)
    have B:(fun i=>(F.map fun f=>(f.offset,((T f.type).map (·.size)).getD 0))[i]?)=fieldAt T K:=by
     funext i;simp only[fieldAt,<- O,am3,Array.getElem?_map];grind
    refine aP (v:=.agg c) (w':=w) ?_ ?_
    ·have U:=qy (P:=P) (w:=w) n F.toList k;have C:(F.mapM fun f=>(do pure (f.offset,<- Go.sizeOf f.type):Sem (Nat×Nat))).run P w=.ok (F.map fun f=>(f.offset,((T f.type).map (·.size)).getD 0)) w:=by
      rw[anR,Sem.run_map,U];simp only[Result.andThen_ok];congr 1;grind
     rw[<- B]at R;simp only[execOp,J,Instr.build,anB,y,Result.andThen_ok,run_underlying s,C,A,anS];simp_all
    ·have:(⟨.agg x,lJ h m⟩:cI)=⟨.agg x,lJ h m⟩:=rfl;have D:c=c.toList.toArray:=by simp
     rw[D];refine bz.Pp q m (.agg x _ (by simp;omega) (fun j d l =>?_) (fun d W =>?_))
     ·have:=(I j d l).2;simpa [List.getD] using this
     ·obtain⟨j,l⟩:=anq W;exact (I j d l).1
   ·cases g
  ·cases g
 ·cases g
def adw(u:km P T)(B:Inv N M L w0 blk V t h a w){q:Nat->Bool}{ty:Nat}{parts:Array (Nat×Operand)}{τ:Ty}{E:cI}(W:o.op=.build ty parts)(C:T ty=some τ)(b:uB q T τ h o.dst (parts.toList.map fun p=>(p.1,ev t p.2))=some E) :
  fC P o a w (bz N M L w0 V t h a e o.dst E):=by
 unfold uB at b;split at b
 ·split at b
  ·exact Ch u B W C b
  ·split at b
   ·rename_i X x v s o' n G ad;split at b
    ·rename_i j;obtain⟨k1,Y,k3,k4⟩:=j;simp only[anf]at b;subst b;obtain⟨dd,H,Z⟩:=under u C;rw[G]at Z;obtain⟨F,rfl,hF⟩:=j0 Z;obtain⟨m,I,k⟩:∃m,parts.toList=[m]∧(m.1,ev t m.2)=(0,D.buf x v s o' n):=by
      simp_all
     simp only[Prod.mk.injEq]at k;have U:=B.ev m.2;rw[k.2]at U;have J:∃r,sC h x v=some r:=by
      simp only[alive]at k1;exact Option.isSome_iff_exists.1 k1
     obtain⟨r,J⟩:=J;obtain⟨hx,hv⟩:=uT J;obtain⟨A,c,hu⟩:∃A c,a.eval m.2=.slice A n c:=by
      rcases U.2 r hx hv with⟨g,ai,c,N',t',g0,g1,_⟩|⟨_,g1,A,g2⟩
      ·simp_all
      simp_all
     obtain⟨z,K,O⟩:=lZ (u ty τ C) w;have l:∀f∈F.toList,(T f.type).isSome=true:=by
      intro f ae;rw[anh]at Y;exact Y (f.type,f.offset) (by grind)
     have Q:(fun i=>(F.map fun f=>(f.offset,((T f.type).map (·.size)).getD 0))[i]?)=fieldAt T X:=by
      funext i;simp only[fieldAt,<- hF,am3,Array.getElem?_map];grind
     have i1:Instr.fill (fieldAt T X) τ.zero.toArray (parts.toList.map fun p=>(p.1,a.eval p.2))=some #[a.eval m.2]:=by
      rw[I];simp only[anb,anP,Instr.fill,k.1,k3,hu];obtain⟨y,R⟩:∃y,τ.zero=[y]:=by
       match ag:τ.zero,k4 with
       | [y],_=>exact⟨y,rfl⟩
      rw[R];rfl
     refine aP (v:=.agg #[a.eval m.2]) (w':=w) ?_ (bz.fa B ⟨_,rfl,by rw[hu];rfl,U⟩);have hm:=qy (P:=P) (w:=w) u F.toList l;have S:(F.mapM fun f=>(do pure (f.offset,<- Go.sizeOf f.type):Sem (Nat×Nat))).run P w=.ok (F.map fun f=>(f.offset,((T f.type).map (·.size)).getD 0)) w:=by
      rw[anR,Sem.run_map,hm];simp only[Result.andThen_ok];congr 1;grind
     rw[<- Q]at i1;simp only[execOp,W,Instr.build,anB,K,Result.andThen_ok,run_underlying H,S,O,anS];simp_all
    ·cases b
   ·rename_i X x v s o' n G ad;split at b
    ·rename_i j;obtain⟨k1,Y,k3,k4⟩:=j;simp only[anf]at b;subst b;obtain⟨dd,H,Z⟩:=under u C;rw[G]at Z;obtain⟨F,rfl,hF⟩:=j0 Z;obtain⟨m,I,k⟩:∃m,parts.toList=[m]∧(m.1,ev t m.2)=(0,D.box1 x v s o' n):=by
      simp_all
     simp only[Prod.mk.injEq]at k;have U:=B.ev m.2;rw[k.2]at U;obtain⟨u',hu,aa,ah⟩:=U;obtain⟨z,K,O⟩:=lZ (u ty τ C) w;have l:∀f∈F.toList,(T f.type).isSome=true:=by
      intro f ae;rw[anh]at Y;exact Y (f.type,f.offset) (by grind)
     have Q:(fun i=>(F.map fun f=>(f.offset,((T f.type).map (·.size)).getD 0))[i]?)=fieldAt T X:=by
      funext i;simp only[fieldAt,<- hF,am3,Array.getElem?_map];grind
     have i1:Instr.fill (fieldAt T X) τ.zero.toArray (parts.toList.map fun p=>(p.1,a.eval p.2))=some #[u']:=by
      rw[I];simp only[anb,anP,Instr.fill,k.1,k3,hu];obtain⟨y,R⟩:∃y,τ.zero=[y]:=by
       match ag:τ.zero,k4 with
       | [y],_=>exact⟨y,rfl⟩
      rw[R];rfl
     refine aP (v:=.agg #[u']) (w':=w) ?_ (bz.fa B ⟨u',rfl,aa,ah⟩);have hm:=qy (P:=P) (w:=w) u F.toList l;have S:(F.mapM fun f=>(do pure (f.offset,<- Go.sizeOf f.type):Sem (Nat×Nat))).run P w=.ok (F.map fun f=>(f.offset,((T f.type).map (·.size)).getD 0)) w:=by
      rw[anR,Sem.run_map,hm];simp only[Result.andThen_ok];congr 1;grind
     rw[<- Q]at i1;simp only[execOp,W,Instr.build,anB,K,Result.andThen_ok,run_underlying H,S,O,anS];simp_all
    ·cases b
   ·unfold cE at b;split at b
    ·rename_i cs hw hb;simp only[anf]at b;subst b;refine (Ch (e:=e) u B W C hb).mono fun v w' hA =>?_;obtain⟨ab,h1,h2⟩:=hA;exact⟨ab,h1,cd (RP.kJ (d:=.agg cs) h2)⟩
    ·cases b
 ·exact Ch u B W C b
def AP(zs:List Value)(n:Nat)(j:Nat)(b:j<n*zs.length):(((Array.range (n*zs.length)).map fun i=>zs.toArray[i % zs.toArray.size]!).getD j undef)=zs.getD (j % zs.length) undef:=by
 have a:0<zs.length:=by
  grind
 have c:j % zs.length<zs.length:=anT _ a;simp_all
def Hv(a:List D):∀(n j:Nat)(d:D),(rK n a)[j]? = some d->j<n*a.length∧a[j % a.length]? = some d
 | 0,j,d,h=>by simp[rK]at h
 | n+1,j,d,h=>by
  have e:rK (n+1) a=a++rK n a:=by simp[rK,List.replicate_succ]
  rw[e]at h
  by_cases b:j<a.length
  ·rw[anV b]at h;refine⟨?_,by rw[anW b];exact h⟩;grind
  ·rw[anX (by omega)]at h;obtain⟨f,c⟩:=Hv a n (j-a.length) d h;refine⟨by grind,?_⟩;rw[Nat.mod_eq_sub_mod (by omega)];exact c
def vN(n:Nat)(a:List D):(rK n a).length=n*a.length:=by
 simp[rK]
theorem xH{d e s n c:Nat}{g:Nat×Nat}{f:Nat}{b:Array Value}{h:Nat->Nat->Prop}{i:Nat->Option Row}{a:Nat->Option (Nat×Nat)}(j:h d e)(k:a d=some g)(l:w.heap[g.1]? = some (.cells b f (0,0)))(m:n<=c)(o:c<=maxLen)(p:c*s+g.2=b.size) :
  RT w M i a h (.buf d e s 0 n) (.slice (some ⟨g.1,g.2,none⟩) n c) :=
 ⟨j,fun _ _ _ =>.inl ⟨g,g.2,c,b.size,f,k,rfl,fun _=>⟨rfl,p⟩,m,o,by simp[World.shape?,l]⟩⟩
def Xd(n:Nat)(a:List D):rK n (a.map canon)=(rK n a).map canon:=by simp[rK,List.map_flatten]
def G0(s:km P T)(u:Inv N M L w0 blk V t h a w){y len d:Nat}{parts:Array (Nat×Operand)}{τ:Ty}{E:cI}(S:o.op=.buildSlice y len parts)(U:o.dst=some d)(W:lE N V d e)(X:T y=some τ)
  (b:fG T τ h e d len (parts.toList.map fun p=>(p.1,ev t p.2))=some E):fC P o a w (bz N M L w0 V t h a e o.dst E):=by
 obtain⟨dd,A,K⟩:=under s X;unfold fG at b;split at b
 ·rename_i el B;rw[B]at K;have:=iN K;subst this;split at b
  ·rename_i φ O;split at b
   ·rename_i c;obtain⟨c1,Y,Z,C⟩:=c;split at b
    ·rename_i D r hf;split at b
     ·rename_i aa;simp only[anf]at b;subst b;obtain⟨z,F,G⟩:=lZ (s el φ O) w;have m:(len*φ.size=0->((Array.range (len*φ.size)).map fun i=>φ.zero.toArray[i % φ.zero.toArray.size]!) = #[]):=by intro l;simp[l]
      obtain⟨cur',H,i2,i3,i4⟩:=u.lf hf (u.iA r) (cur:=(Array.range (len*φ.size)).map fun i=>φ.zero.toArray[i % φ.zero.toArray.size]!)
       (by rw[vN];simp[C]) (fun j x I=>by
        obtain⟨Q,R⟩:=Hv _ _ _ _ I;simp only[anz]at Q R;rw[<- C,AP φ.zero len j Q];have:=vo (w:=w) (M:=Own M (aW h (lJ h r)) blk) φ.zero Z _ x R;simp_all)
      have ab:=(u.freeze r).alloc (d:=d) (e:=e) (ty:=el) (lst:=true) (cs:=D.map canon) (vs:=cur') W (by simp_all) (fun j x I=>Rq (f:=fun j=>cur'.getD j undef) i4 j x I);refine aP (v:=.slice (some ⟨w.heap.size,0,none⟩) len len) (w':=w.alloc (.cells cur' el)) ?_ ⟨cq blk d (some (w.heap.size,0)),?_,?_⟩
      ·have n:¬len*φ.size>2 ^ 24:=by omega
       simp only[execOp,S,Instr.buildSlice,anB,run_underlying A,Result.andThen_ok,run_sizeOf (s _ _ O),if_neg n]
       by_cases l:len*φ.size=0
       ·have k:=m l;rw[k]at H;have J:((Array.range (len*φ.size)).map fun i=>(#[]:Array Value)[i % (#[]:Array Value).size]!) = #[]:=by simp[l]
        simp only[if_pos l,anB,Sem.run_pure,Result.andThen_ok,anS];rw[J,H];simp[newRow]
       ·simp only[if_neg l,anB,F,Result.andThen_ok,Sem.run_pure,G,anS];rw[H];simp[newRow]
      ·show Inv _ _ _ _ _ _ _ (aW h (lJ h r++[(d,some ⟨e,el,D.map canon,false,true,false⟩)])) _ _;rw[ju];grind
      ·have q:cur'.size=len*φ.size:=by
        rw[<- i2,i3,vN];simp[C]
       refine xH (g:=(w.heap.size,0)) (.inr ⟨U,rfl⟩) (aA _ _ _) (heap_alloc_new w _) (am6 _) ?_ (by rw[q];simp);have:len<=len*φ.size:=Nat.le_mul_of_pos_right _ Y;simp only[maxLen];omega
     ·cases b
    ·cases b
   ·cases b
  ·cases b
 ·cases b
def Bl{a:Nat->Prop}{d:D}{n:Nat}{u:Value}(b:uW d=some n)(c:RT w a h blk V d u):∃k,u=.int k n:=by
 obtain⟨k,rfl⟩:=rC b;exact⟨k,pV c⟩
def aaM(K:km P T)(y:Inv N M L w0 blk V t h a w){u d:Nat}{l c:Operand}{τ:Ty}{E:cI}(X:o.op=.makeSlice u l c)(Y:o.dst=some d)(Z:lE N V d e)(hτ:T u=some τ)
  (b:vJ T τ e d (ev t l) (ev t c)=some E):fC P o a w (bz N M L w0 V t h a e o.dst E):=by
 have A:=y.ev l;have B:=y.ev c;obtain⟨dd,C,O⟩:=under K hτ;unfold vJ at b;split at b
 ·rename_i el D;rw[D]at O;have:=iN O;subst this;split at b
  ·rename_i φ n k hφ hn hk;split at b
   ·rename_i q;obtain⟨F,Q,c3,c4,c5,R⟩:=q;simp only[anf]at b;subst b;obtain⟨q1,hl⟩:=Bl hn A;obtain⟨q2,G⟩:=Bl hk B;obtain⟨d',i,z,g1,g2,g3,S,g5,g6,g7⟩:=(K el φ hφ).get;have hb:(i.bytes:Int)*(k:Int)<=281474976710656:=by
     grind
    have r:(k:Int)<=9223372036854775807:=by
     simp only[maxLen]at Q;omega
    have p:=run_make (P:=P) w u el i z C g3 g6 q1 q2 n k (by omega) (by omega) hb r;simp only[Int.toNat_natCast]at p;have m:∀j x,(rK n (φ.zero.map sf))[j]? = some x->bH x=true∧RP w (Own M h blk) x ((madeCells z.cells (k*i.size)).getD j undef):=by
     intro j x H;obtain⟨U,W⟩:=Hv _ _ _ _ H;simp only[anz]at U W;have I:j<k*φ.zero.length:=am9 U (anM _ F);have:=vo (w:=w) (M:=Own M h blk) φ.zero c5 _ x W;refine⟨this.1,?_⟩;have he:(madeCells z.cells (k*i.size)).getD j undef=φ.zero.toArray.getD (j % φ.zero.length) undef:=by
      rw[g7,S,<- R];have:=AP φ.zero k j I;simpa [madeCells,List.getD] using this
     simp_all
    have s:(madeCells z.cells (k*i.size)).size=k*φ.size:=by simp[madeCells,S]
    have J:=y.alloc (d:=d) (e:=e) (ty:=el) (lst:=true) (cs:=rK n ((φ.zero.map sf).map canon)) (vs:=madeCells z.cells (k*i.size)) Z (by rw[vN,s];simp only[anz,R];exact anM _ F) (fun j x H=>Rq (f:=fun j=>(madeCells z.cells (k*i.size)).getD j undef) m j x (by rw[<- Xd];exact H));refine aP (v:=.slice (some ⟨w.heap.size,0,none⟩) n k) (w':=w.alloc (.cells (madeCells z.cells (k*i.size)) el)) ?_ ⟨cq blk d (some (w.heap.size,0)),?_,?_⟩
    ·simp[execOp,X,hl,G,p]
    ·refine J.weaken fun x v hx =>?_;grind
    ·exact xH (g:=(w.heap.size,0)) (.inr ⟨Y,rfl⟩) (aA _ _ _) (heap_alloc_new w _) F Q (by rw[s];simp)
   ·cases b
  ·cases b
 ·cases b
def afa{a:BinOp}{ty:Nat}{k:IntKind}{x y:Int}{d:D}(c:oM a=false)(h:ku a k x y=some d):∃v,(binOp a ty (.int k x) (.int k y)).run P w=.ok v w∧RP w M d v:=by
 cases a with
 | shl=>simp[oM]at c
 | shr=>simp[oM]at c
 | quo =>
  simp only[ku]at h;split at h
  ·cases h
  ·rename_i b;simp only[anf]at h;subst h;exact⟨_,by simp[binOp,Op.intDiv,b],.int _ _⟩
 | rem =>
  simp only[ku]at h;split at h
  ·cases h
  ·rename_i b;simp only[anf]at h;subst h;exact⟨_,by simp[binOp,Op.intDiv,b],.int _ _⟩
 | add=>simp only[ku,anf]at h;subst h;exact⟨_,by simp[binOp,Op.intArith],.int _ _⟩
 | sub=>simp only[ku,anf]at h;subst h;exact⟨_,by simp[binOp,Op.intArith],.int _ _⟩
 | mul=>simp only[ku,anf]at h;subst h;exact⟨_,by simp[binOp,Op.intArith],.int _ _⟩
 | and=>simp only[ku,anf]at h;subst h;exact⟨_,by simp[binOp,Op.intBits,HZ],.int _ _⟩
 | or=>simp only[ku,anf]at h;subst h;exact⟨_,by simp[binOp,Op.intBits,HZ],.int _ _⟩
 | xor=>simp only[ku,anf]at h;subst h;exact⟨_,by simp[binOp,Op.intBits,HZ],.int _ _⟩
 | andNot=>simp only[ku,anf]at h;subst h;exact⟨_,by simp[binOp,Op.intBits,HZ],.int _ _⟩
 | eql=>simp only[ku,anf]at h;subst h;exact⟨_,by simp[binOp,Op.intCmp],.bool _⟩
 | neq=>simp only[ku,anf]at h;subst h;exact⟨_,by simp[binOp,Op.intCmp],.bool _⟩
 | lss=>simp only[ku,anf]at h;subst h;exact⟨_,by simp[binOp,Op.intCmp],.bool _⟩
 | leq=>simp only[ku,anf]at h;subst h;exact⟨_,by simp[binOp,Op.intCmp],.bool _⟩
 | gtr=>simp only[ku,anf]at h;subst h;exact⟨_,by simp[binOp,Op.intCmp],.bool _⟩
 | geq=>simp only[ku,anf]at h;subst h;exact⟨_,by simp[binOp,Op.intCmp],.bool _⟩
def Xg{a:BinOp}{ty:Nat}{k k':IntKind}{x y:Int}{d:D}(b:oM a=true)(h:CY a k x y=some d):∃v,(binOp a ty (.int k x) (.int k' y)).run P w=.ok v w∧RP w M d v:=by
 unfold CY at h;split at h
 ·cases h
 ·rename_i c;cases a<;>simp only[oM,anD]at b<;>simp only[anf]at h<;>subst h<;>exact⟨_,by simp[binOp,Op.shift,c],.int _ _⟩
def afc{a:BinOp}{ty:Nat}{x y:ByteArray}{d:D}(h:LS a x y=some d):∃v,(binOp a ty (.string x) (.string y)).run P w=.ok v w∧RP w M d v:=by
 cases a with
 | add =>
  simp only[LS]at h;split at h
  ·cases h
  ·rename_i b;simp only[anf]at h;subst h;refine⟨_,?_,.str _⟩;simp only[binOp,Op.stringOp];simp_all
 | eql=>simp only[LS,anf]at h;subst h;exact⟨_,by simp[binOp,Op.stringOp],.bool _⟩
 | neq=>simp only[LS,anf]at h;subst h;exact⟨_,by simp[binOp,Op.stringOp],.bool _⟩
 | lss=>simp only[LS,anf]at h;subst h;exact⟨_,by simp[binOp,Op.stringOp],.bool _⟩
 | leq=>simp only[LS,anf]at h;subst h;exact⟨_,by simp[binOp,Op.stringOp],.bool _⟩
 | gtr=>simp only[LS,anf]at h;subst h;exact⟨_,by simp[binOp,Op.stringOp],.bool _⟩
 | geq=>simp only[LS,anf]at h;subst h;exact⟨_,by simp[binOp,Op.stringOp],.bool _⟩
 | _=>simp[LS]at h
end
section
variable {P:Program} {T:Nat->Option Ty} {N:Nat} {M:Nat->Prop} {L:mc} {w0:World} {blk:Nat->Option (Nat×Nat)} {V:Nat->Nat->Prop} {t:Nat->D} {h:Nat->Option Row} {a:Act} {w:World} {e:Nat} {o:Oper} {Γ:Env}
def aha(p:km P T){g:Nat}{φ:Ty}(q:T g=some φ)(r:UP φ.ds=true){x y:D}{u v:Value}{b:Bool}{o:Nat->Prop}(h:RP w o x u)(l:RP w o y v)(a:eqC x y=some b)(n:Nat) :
  (∃d,P.underlying g=some d)∧((∃k,φ.ds=.int k∧∃m i j,x=.int m i∧y=.int m j)∨(φ.ds=.bool∧∃i j,x=.bool i∧y=.bool j)∨(φ.ds=.str∧∃i j,x=.str i∧y=.str j)->(Op.equalIn (n+1) g u v).run P w=.ok b w):=by
 obtain⟨d,f,c⟩:=under p q;refine⟨⟨d,f⟩,?_⟩;rintro (⟨k,e,m,i,j,rfl,rfl⟩|⟨e,i,j,rfl,rfl⟩|⟨e,i,j,rfl,rfl⟩)
 ·rw[e]at c;have:=Dl c;subst this;cases h;cases l;simp only[eqC,if_true,anf]at a;subst a;simp[Op.equalIn,run_underlying f]
 ·rw[e]at c;have:=Bf c;subst this;cases h;cases l;simp only[eqC,anf]at a;subst a;simp[Op.equalIn,run_underlying f]
 ·rw[e]at c;have:=w8 c;subst this;cases h;cases l;simp only[eqC,anf]at a;subst a;simp[Op.equalIn,run_underlying f]
def aaV{x y:D}{b:Bool}{s:Ds}(a:eqC x y=some b)(c:kindOk s x=true) :
  (∃k,s=.int k∧∃d i j,x=.int d i∧y=.int d j)∨(s=.bool∧∃i j,x=.bool i∧y=.bool j)∨(s=.str∧∃i j,x=.str i∧y=.str j):=by
 cases x<;>cases y<;>simp only[eqC]at a<;>try (cases a;done)
 ·rename_i k i d j;split at a
  ·rename_i e;subst e;cases s<;>simp[kindOk]at c;simp_all
  ·cases a
 ·cases s<;>simp[kindOk]at c;simp_all
 ·cases s<;>simp[kindOk]at c;simp_all
def O8(f:Inv N M L w0 blk V t h a w){x:Operand}{i:Nat}{b:List D}{d:D}(m:o.op=.extract x i)(k:ev t x=.tup b)(g:b[i]? = some d):fC P o a w (bz N M L w0 V t h a e o.dst ⟨d,[]⟩):=by
 have j:=f.ev x;rw[k]at j;have c:RP w (Own M h blk) (.tup b) (a.eval x):=j;generalize n:a.eval x=u at *;cases c with
 | tup b us h1 h2 =>
  have l:=(anx.1 g).1;refine aP (v:=us.getD i undef) (w':=w) ?_ (bz.fa f (cd (h2 i d g)));simp_all[undef,execOp,Instr.extract]
def O7(i:km P T)(j:Inv N M L w0 blk V t h a w){x:Operand}{src f:Nat}{τ σ:Ty}{k b:IntKind}{n:Int}(p:o.op=.convert src f x)(q:T f=some τ)(r:T src=some σ)(g:τ.ds=.int b)(s:ev t x=.int k n) :
  fC P o a w (bz N M L w0 V t h a e o.dst ⟨.int b (b.wrap n),[]⟩):=by
 have l:=j.ev x;rw[s]at l;have u:=pV l;obtain⟨d,y,m⟩:=under i q;obtain⟨d2,c,_⟩:=under i r;rw[g]at m;have:=Dl m;subst this;refine aP (v:=.int b (b.wrap n)) (w':=w) ?_ (bz.fa j (cd (.int _ _)));have:=run_convert_int (P:=P) (w:=w) src f k n (by simp[c]);simp[execOp,p,u,convert,run_underlying y,run_underlying c,Conv.intToInt]
def aaP(g:Inv N M L w0 blk V t h a w){x:Operand}{f:UnOp}{l:Nat}{d:D}(m:o.op=.unOp f l x)(c:unD f (ev t x)=some d):fC P o a w (bz N M L w0 V t h a e o.dst ⟨d,[]⟩):=by
 have i:=g.ev x;generalize ev t x=q at *;cases q with
 | int k n =>
  have j:=pV i;cases f<;>simp only[unD,anf]at c<;>try (cases c;done)
  all_goals
   subst c;refine aP (w':=w) ?_ (bz.fa g (cd (.int _ _)));simp_all[execOp,Op.unary,Op.intArith,Op.intBits,HZ]
 | bool b =>
  have j:=A4 i;cases f<;>simp only[unD,anf]at c<;>try (cases c;done)
  all_goals
   subst c;refine aP (w':=w) ?_ (bz.fa g (cd (.bool _)));simp[execOp,m,j,Op.unary]
 | _=>simp[unD]at c
def Bi:∀{b:List D},uK b=true->∀x∈b,kP x=true
 | [],_,x,a=>by simp at a
 | y::c,h,x,a=>by
  simp only[uK,anF]at h;rcases anc.1 a with rfl|a
  ·exact h.1
  ·exact Bi h.2 x a
def RP.flat{g h:Nat->Prop}{d:D}{u:Value}(i:RP w g d u)(a:kP d=true):RP w h d u:=by
 induction i with
 | int k n=>exact .int k n
 | bool b=>exact .bool b
 | str s=>exact .str s
 | sl A c nl tight n xs us h1 h2 h3 h4 h5 h6 h7 h8 ih=>simp[kP]at a
 | agg xs us h1 h2 h3 ih =>
  simp only[kP]at a;exact .agg xs us h1 (fun j x e=>ih j x e (Bi a x (anv e))) h3
 | tup xs us h1 h2 ih =>
  simp only[kP]at a;exact .tup xs us h1 (fun j x e=>ih j x e (Bi a x (anv e)))
 | ip xs ad us h6 h7 h8 ih=>simp[kP]at a
 | fn f=>exact .fn f
 | ali x v s o n u h1=>simp[kP]at a
 | mpc ks vs mb us h1 h2 h3 h4 ih=>simp[kP]at a
 | alm x v u h1=>simp[kP]at a
 | clo f l xs us h1 h2 ih=>simp[kP]at a
def CR{h:Nat->Option Row}{blk:Nat->Option (Nat×Nat)}{a:Option Nat}{b:Nat}(c:Own M (forget h a) blk b):Own M h blk b:=by
 rcases c with c|⟨x,r,g,d,e,f,i⟩
 ·exact .inl c
 ·refine .inr ⟨x,r,g,?_,e,f,i⟩;cases a with
  | none=>exact d
  | some y =>
   simp_all[forget,cq,aG]
def Inv.fresh(z:Inv N M L w0 blk V t h a w){w':World}{v:Value}{d ty s n:Nat}{cells:List D}{old dst:Option Nat}(E:dst=some d)(B:lE N V d e)
  (hb:fb (fun b=>∃y g,old=some y∧blk y=some g∧b=g.1) w w') (i:∀y,old=some y->∃r,h y=some r∧r.fz=false)
  (F:(∃(g:Nat×Nat)(c:Nat)(l:Array Value),v=.slice (some ⟨g.1,g.2,none⟩) n c∧(w.heap.size<=g.1∨∃y m,old=some y∧blk y=some m∧g.1=m.1)∧w'.heap[g.1]? = some (.cells l ty (0,0))∧n<=c∧c<=maxLen∧c*s+g.2=l.size∧g.2+cells.length<=l.size ∧
   ∀(j:Nat) d,cells[j]? = some d->bH d=true∧RP w' (fun b=>Own M (forget h old) blk b∨b=g.1) d (l.getD (g.2+j) undef))∨(n=0∧cells=[]∧∃A,v=.slice A 0 0)) :
  ∃f,Inv N M L w0 f (fun x k=>V x k∨(dst=some x∧k=e)) t (cq (forget h old) d (some ⟨e,ty,cells,false,true,false⟩)) a w' ∧
   RT w' (Own M (cq (forget h old) d (some ⟨e,ty,cells,false,true,false⟩)) f) (cq (forget h old) d (some ⟨e,ty,cells,false,true,false⟩)) f (fun x k=>V x k∨(dst=some x∧k=e)) (.buf d e s 0 n) v:=by
 have C:∀{f:Nat->Option (Nat×Nat)},Inv N M L w0 f (fun x k=>V x k∨(x=d∧k=e)) t (cq (forget h old) d (some ⟨e,ty,cells,false,true,false⟩)) a w'->Inv N M L w0 f (fun x k=>V x k∨(dst=some x∧k=e)) t (cq (forget h old) d (some ⟨e,ty,cells,false,true,false⟩)) a w':=fun hJ=>hJ.weaken fun x k K=>by
  grind
 rcases F with⟨g,c,l,rfl,G,H,O,P,Q,I,J⟩|⟨rfl,rfl,A,rfl⟩
 ·refine⟨cq blk d (some g),C (z.VH (old:=old) hb.os hb.tape hb.output hb.size (fun k o hn=>hb.block k o (fun⟨y,m,p,q,u⟩=>hn y m p q u)) i rfl B ⟨G,l,H,I,J⟩),?_⟩;grind[xH,aA]
 ·refine⟨cq blk d none,C (z.VH (go:=none) (old:=old) hb.os hb.tape hb.output hb.size (fun k o hn=>hb.block k o (fun⟨y,m,p,q,u⟩=>hn y m p q u)) i rfl B rfl),?_⟩;exact⟨.inr ⟨E,rfl⟩,fun _ _ _ =>.inr ⟨aA _ _ _,rfl,A,rfl⟩⟩
theorem RP.less{M1 a:Nat->Prop}{d:D}{u:Value}(c:RP w M1 d u)(e:∀b,a b->M1 b):RP w a d u:=c.keep fun _ f h2=>⟨f,fun g=>h2 (e _ g),rfl⟩
def Inv.HU(k:Inv N M L w0 blk V t h a w){f c:List D}{l:List Nat}{e:Array Value}{m:Nat->Prop}(g:Am.cc h f=some (c,l))(n:tu M h blk l m)(i:e.size=f.length)
  (r:∀(j:Nat) d,f[j]? = some d->RT w (Own M h blk) h blk V d (e.getD j undef)):C9 w m c e:=by
 obtain⟨o,s⟩:=k.cc (us:=e.toList) g n (by simpa using i) (fun j d p=>by simp_all);refine⟨by simpa using o,fun j d p =>?_,fun b q=>(k.tab b q).less n.le⟩;simp_all
theorem Rk(hΓ:bN P Γ)(hI:Inv N M L w0 blk V t h a w){g:Nat}{o:Option Nat}{E:cI}{K:List D}{u:Array Value}(l:zt Γ h e o g K=some E)(hV:∀d,o=some d->lE N V d e)(p:u.size=K.length)
  (I:∀(j:Nat) d,K[j]? = some d->RT w (Own M h blk) h blk V d (u.getD j undef)):fB P g∧Calls P g u w fun F G=>∃v,F=.returned v∧bz N M L w0 V t h a e o E v G:=by
 unfold zt at l;split at l
 ·rename_i H C q;split at l
  ·rename_i r O Q;simp only[anf]at l;subst l;obtain⟨i,z⟩:=hΓ.calls g none H _ _ Q;refine⟨z,?_⟩
   by_cases f:kP r=true
   ·refine (i w _ u (fun b k=>hI.CS k.1) (hI.HU q (hI.Nv C) p I)).mono fun F G A =>?_;obtain⟨v,B,k,m⟩:=A;refine⟨v,B,?_⟩;rw[if_pos f];exact bz.fa (hI.later k) (cd (RP.flat m f))
   ·have hIf:=hI.freeze C;refine (i w _ u (fun b k=>hIf.CS k) (hI.HU q (hI.iA C) p I)).mono fun F G A =>?_;obtain⟨v,B,k,m⟩:=A;refine⟨v,B,?_⟩;rw[if_neg f];exact⟨blk,(hIf.later k).weaken fun _ _ h =>.inl h,cd m⟩
  ·rename_i ty s n cells O Q;split at l
   ·rename_i d;split at l
    ·rename_i aa;simp only[anf]at l;subst l;obtain⟨i,z⟩:=hΓ.calls g none H _ _ Q;refine⟨z,?_⟩
     by_cases f:uK cells=true
     ·refine (i w _ u (fun b k=>hI.CS k.1) (hI.HU q (hI.Nv C) p I)).mono fun F G A =>?_;obtain⟨v,B,k,m⟩:=A;refine⟨v,B,?_⟩;rw[if_pos f];exact hI.fresh (old:=none) rfl (hV d rfl) (fb.xi k) (fun y R=>by cases R) (by
       rcases m with⟨g,c,S,T,U,W,X,Y,Z,h7,J⟩|m
       ·exact .inl ⟨g,c,S,T,.inl (U.resolve_right id),W,X,Y,Z,h7,fun j x hj=>⟨(J j x hj).1,(J j x hj).2.flat (Bi f x (anv hj))⟩⟩
       ·exact .inr m)
     ·have hIf:=hI.freeze C;refine (i w _ u (fun b k=>hIf.CS k) (hI.HU q (hI.iA C) p I)).mono fun F G A =>?_;obtain⟨v,B,k,m⟩:=A;refine⟨v,B,?_⟩;rw[if_neg f];have:=hIf.fresh (e:=e) (ty:=ty) (s:=s) (cells:=cells) (n:=n) (v:=v) (old:=none) (dst:=some d) rfl (hV d rfl) (fb.xi k) (fun y R=>by cases R) (by
       rcases m with⟨g,c,S,T,U,W,X,Y,Z,h7,J⟩|m
       ·exact .inl ⟨g,c,S,T,.inl (U.resolve_right id),W,X,Y,Z,h7,J⟩
       ·exact .inr m)
      unfold bz;rw[ju];exact this
    ·cases l
   ·cases l
  ·cases l
 ·cases l
def Inv.aia(f:Inv N M L w0 blk V t h a w){x v:Nat}{r:Row}(d:live h x v=some r){u:Value}:(∀s o n,RT w (Own M h blk) h blk V (.buf x v s o n) u->FR w (blk x) (.buf 0 0 s o n) u)∧(∀o,RT w (Own M h blk) h blk V (.ptr x v o) u->FR w (blk x) (.ptr 0 0 o) u):=by
 obtain⟨b,c⟩:=da d;exact⟨fun s o n hr=>⟨trivial,fun e _ _=>hr.2 r b c⟩,fun o hr=>⟨trivial,fun e _ _=>hr.2 r b c⟩⟩
def Inv.aew(e:Inv N M L w0 blk V t h a w){x v:Nat}{r:Row}(b:CH h x v=some r){u:Value}(hr:RT w (Own M h blk) h blk V (.mp x v) u):FR w (blk x) (.mp 0 0) u:=by
 obtain⟨c,d,_⟩:=Gw b;exact⟨trivial,fun f _ _=>hr.2 r c d⟩
def WI{d0:D}{x v:Nat}{r:Row}(a:DO d0 h x v=some r):(h x=some r∧r.v=v)∧ze r=true:=by
 unfold DO at a;grind[Gw,da,Jy,kc]
def H7(hΓ:bN P Γ)(hI:Inv N M L w0 blk V t h a w){g x v:Nat}{d0:D}{I:Option Nat}{E:cI}{ds:List D}{u0:Value}{W:Array Value}(i:uw Γ h e I g x v d0 ds = some E)(hV:∀ d, I = some d -> lE N V d e)(ae:V x v)
    (h0:∀ r, DO d0 h x v = some r -> FR w (blk x) d0 u0) (ag:W.size = ds.length) (hr:∀(j:Nat) d, ds[j]? = some d -> RT w (Own M h blk) h blk V d (W.getD j undef)) :
    fB P g ∧ Calls P g (#[u0] ++ W) w fun Q A => ∃ v, Q = .returned v ∧ bz N M L w0 V t h a e I E v A:=by
  unfold uw at i;split at i
  · rename_i r hl
    obtain ⟨⟨hx, hv⟩, ah⟩:=WI hl;split at i
    · rename_i hz
      split at i
      · rename_i R p ai
        split at i
        · rename_i aj
          have hIf:=hI.freeze p;have G:aW h (lJ h p) x = some r:=by rw [EA aj]; exact hx
          have ak:∀ b, yN (blk x) b -> Own M (aW h (lJ h p)) blk b:=fun b ⟨q, l, m⟩ => .inr ⟨x, r, q, G, hz, l, m.symm⟩;have J:∀ b, ((Own M (aW h (lJ h p)) blk b ∧ ¬ yN (blk x) b) ∨ yN (blk x) b) -> Own M (aW h (lJ h p)) blk b:=fun b hb => hb.elim (·.1) (ak b);have B:=hI.HU ai (hI.iA p) ag hr;have K:C9 w (fun b => (Own M (aW h (lJ h p)) blk b ∧ ¬ yN (blk x) b) ∨ yN (blk x) b) R W:=⟨B.1, fun j d Y => (B.2 j d Y).less J, fun b hb => (B.tab b hb).less J⟩;have Z:X4 w (fun b => (Own M (aW h (lJ h p)) blk b ∧ ¬ yN (blk x) b) ∨ yN (blk x) b) (blk x) { r with v:=0 }:=by
            have:=(hIf.rows x r G).2;cases F:blk x with
            | none => rw [F] at this; exact this
            | some q =>
              rw [F] at this J;exact fp.keep (r':={ r with v:=0 }) this.2 rfl rfl rfl rfl (fun b h1 h2 => ⟨h1, fun hb => h2 (J b hb), rfl⟩)
          have av:∀(r2:Option Row) b, Own M (cq (aW h (lJ h p)) x r2) blk b -> (Own M (aW h (lJ h p)) blk b ∧ ¬ yN (blk x) b) ∨ yN (blk x) b:=by
            intro r2 b hb
            by_cases hi:yN (blk x) b
            · exact .inr hi
            · refine .inl ⟨?_, hi⟩
              rcases hb with hb | ⟨y, s, q, hy, al, l, m⟩
              · exact .inl hb
              · by_cases aa:y = x
                · subst aa; exact absurd ⟨q, l, m.symm⟩ hi
                · rw [aG _ _ aa] at hy
                  exact .inr ⟨y, s, q, hy, al, l, m⟩
          have key:∀{rk:RK}{S:Option Row}, Γ.sem g (some (d0, { r with v:=0 })) R = some (rk, S) -> fB P g ∧ Calls P g (#[u0] ++ W) w fun Q A => ∃ u, Q = .returned u ∧ fb (yN (blk x)) w A ∧
              (∀ H, S = some H -> Inv N M L w0 blk V t (cq (aW h (lJ h p)) x (some { H with v:=v })) a A ∧ H.ty = r.ty) ∧
              (match rk with
               | .same s o n => FR A (blk x) (.buf 0 0 s o n) u
               | .clean d => RP A (fun b => (Own M (aW h (lJ h p)) blk b ∧ ¬ yN (blk x) b) ∨ yN (blk x) b) d u
               | .fresh X s n cells => zm w A (fun b => Own M (aW h (lJ h p)) blk b ∧ ¬ yN (blk x) b) (yN (blk x)) u (.fresh X s n cells)):=by
            intro rk S T;obtain ⟨f, C⟩:=hΓ.calls g _ R _ _ T;refine ⟨C, ?_⟩;refine (f w (fun b => Own M (aW h (lJ h p)) blk b ∧ ¬ yN (blk x) b) (blk x) u0 W (fun b hb => hIf.CS hb.1) (fun b hb hb' => hb'.2 hb) hz (by simpa [ze] using ah) Z (h0 r hl) K).mono fun Q A F => ?_;obtain ⟨u, m, hb, ho, hk⟩:=F;refine ⟨u, m, hb, fun H ao => ?_, hk⟩;subst ao;obtain ⟨o1, o2, ⟨aw, ax⟩, o3, o4⟩:=ho;refine ⟨?_, o1⟩;have:=hIf.lM (r0:={ H with v:=v }) (w':=A) G hz hv.symm hb.os hb.tape hb.output hb.size (fun b aq hb2 => hb.block b aq (fun ⟨q, l, m⟩ => hb2 q l m)) (by
              cases F:blk x with
              | none => rw [F] at o4; exact o4
              | some q =>
                rw [F] at o3 o4;refine ⟨o3 q rfl, fp.keep (r':={ H with v:=v }) o4 rfl rfl rfl rfl (fun b h1 h2 => ⟨h1, fun hb => h2 ?_, rfl⟩)⟩;simp_all) (fun h => by simp_all) (fun hm q _ j x' s n Y => by
                  grind[DQ])
            exact this
          split at i
          · rename_i c H T
            simp only [anf] at i;subst i;obtain ⟨C, f⟩:=key T;refine ⟨C, f.mono fun Q A F => ?_⟩;obtain ⟨u, m, hb, ho, hk⟩:=F;refine ⟨u, m, blk, ?_, ?_⟩
            · rw [ju]; exact (ho H rfl).1.weaken fun _ _ h => .inl h
            grind[ju,cd,RP.less]
          · rename_i s o' n H T
            simp only [anf] at i;subst i;obtain ⟨C, f⟩:=key T;refine ⟨C, f.mono fun Q A F => ?_⟩;obtain ⟨u, m, hb, ho, hk⟩:=F;refine ⟨u, m, blk, ?_, ?_⟩
            · rw [ju]; exact (ho H rfl).1.weaken fun _ _ h => .inl h
            · rw [ju]
              exact ⟨.inl ae, fun r' _ _ => hk.2 ⟨0, 0, [], false, false, false⟩ rfl rfl⟩
          · rename_i X s n cells T
            split at i
            · rename_i d
              split at i
              · rename_i hd
                simp only [anf] at i;subst i;obtain ⟨C, f⟩:=key T;refine ⟨C, f.mono fun Q A F => ?_⟩;obtain ⟨u, m, hb, _, hk⟩:=F;refine ⟨u, m, ?_⟩;have:=hIf.fresh (e:=e) (ty:=X) (s:=s) (cells:=cells) (n:=n) (v:=u) (old:=some x) (dst:=some d) rfl (hV d rfl) (w':=A) ⟨hb.os, hb.tape, hb.output, hb.size, fun k hk hn => hb.block k hk (fun ⟨q, l, m⟩ => hn ⟨x, q, rfl, l, m⟩)⟩ (fun y hy => by simp_all) (by
                  rcases hk with ⟨g, c, cs, h1, h2, h3, h4, h5, h6, h7, h8⟩ | hv
                  · refine .inl ⟨g, c, cs, h1, h2.imp id (fun ⟨q, l, m⟩ => ⟨x, q, rfl, l, m⟩), h3, h4, h5, h6, h7, fun j y Y => ⟨(h8 j y Y).1, ?_⟩⟩
                    refine (h8 j y Y).2.less fun b hb => ?_;rcases hb with hb | hb
                    · refine .inl ⟨?_, ?_⟩
                      · grind[forget,cq,aG]
                      · rintro ⟨g1, ab, ad⟩
                        rcases hb with hb | ⟨z, s', q, O, ay, ar, au⟩
                        · rw [ad] at hb
                          exact hIf.notM G ab hb
                        · simp only [forget] at O
                          by_cases U:z = x
                          · subst U; simp [cq] at O
                          · rw [aG _ _ U] at O
                            exact U (hIf.inj z x s' r q g1 O G ar ab (au.trans ad))
                    · exact .inr hb
                  · exact .inr hv)
                unfold bz;have e1:lJ h p ++ [(x, none), (d, some ⟨e, X, cells, false, true, false⟩)] = (lJ h p ++ [(x, none)]) ++ [(d, some ⟨e, X, cells, false, true, false⟩)]:=by simp
                rw [e1, ju, ju];exact this
              · cases i
            · cases i
          · cases i
        · cases i
      · cases i
    · cases i
  · cases i
inductive qZ(Q:D->Value->Prop):List D->List Value->Prop
 | nil:qZ Q [] []
 | cons {d:D} {u:Value} {ds:List D} {us:List Value} (h:Q d u) (hs:qZ Q ds us):qZ Q (d::ds) (u::us)
def qZ.length{Q:D->Value->Prop}{a:List D}{b:List Value}(h:qZ Q a b):b.length=a.length:=by
 induction h with
 | nil=>rfl
 | cons h hs c=>simp[c]
def qZ.of{Q:D->Value->Prop}:∀{a:List D}{b:List Value},b.length=a.length->(∀(j:Nat) d,a[j]? = some d->Q d (b.getD j undef))->qZ Q a b
 | [],[],_,_ =>.nil
 | [],_::_,h,_=>by simp at h
 | _::_,[],h,_=>by simp at h
 | d::a,u::b,h,c =>.cons (by simpa using c 0 d rfl) (qZ.of (by simpa using h) fun j x e=>by simpa using c (j+1) x (by simpa using e))
def qZ.at_{Q:D->Value->Prop}{a:List D}{b:List Value}(h:qZ Q a b):∀(j:Nat) d,a[j]? = some d->∃u,b[j]? = some u∧Q d u:=by
 induction h with
 | nil=>simp_all
 | cons h hs c =>
  grind
def qZ.append{Q:D->Value->Prop}{c a:List D}{d b:List Value}(h:qZ Q c d)(e:qZ Q a b):qZ Q (c++a) (d++b):=by
 induction h with
 | nil=>exact e
 | cons h hs f=>exact .cons h f
def qZ.take{Q:D->Value->Prop}{a:List D}{b:List Value}(h:qZ Q a b):∀n:Nat,qZ Q (a.take n) (b.take n):=by
 induction h with
 | nil=>intro n;simp;exact .nil
 | cons h hs c =>
  intro n;cases n with
  | zero=>exact .nil
  | succ n=>exact .cons h (c n)
def qZ.drop{Q:D->Value->Prop}{a:List D}{b:List Value}(h:qZ Q a b):∀n:Nat,qZ Q (a.drop n) (b.drop n):=by
 induction h with
 | nil=>intro n;simp;exact .nil
 | cons h hs c =>
  intro n;cases n with
  | zero=>exact .cons h hs
  | succ n=>exact c n
def qZ.mono{Q Q':D->Value->Prop}{a:List D}{b:List Value}(h:qZ Q a b)(c:∀d u,Q d u->Q' d u):qZ Q' a b:=by
 induction h with
 | nil=>exact .nil
 | cons h hs e=>exact .cons (c _ _ h) e
def Inv.ak9(m:Inv N M L w0 blk V t h a w){x v s n:Nat}{r:Row}{u:Value}(o:live h x v=some r)(z:RT w (Own M h blk) h blk V (.buf x v s 0 n) u) :
  ∃p,acG w r.ty s (blk x) u n p∧qZ (fun d u=>bH d=true∧RP w (Own M h blk) d u) r.cells p:=by
 obtain⟨f,B⟩:=da o;rcases z.2 r f B with⟨g,I,c,C,J,b,rfl,D,E,F,K⟩|⟨b,rfl,A,rfl⟩
 ·obtain⟨arr,G,O,P⟩:=m.Jr f b (kc o);obtain⟨q,Q⟩:=D (.inr rfl);have R:C=arr.size:=by
   grind[World.shape?,Option.some.injEq,Prod.mk.injEq]
  rw[anE]at q;subst q;refine⟨(List.range r.cells.length).map fun j=>arr.getD (g.2+j) undef,.inl ⟨g,c,arr,b,rfl,G,by omega,E,F,fun j y k =>?_⟩,qZ.of (by simp) fun j d k =>?_⟩
  ·rw[am3,am4]at k;obtain⟨i,l,rfl⟩:=k;have e:=(anx.1 l).1;rw[List.getElem?_range (by simpa using e)]at l;cases l;simp only[anA]at e;rw[ana,aob (show g.2+j<arr.size by omega)];rfl
  grind
 ·have:=(m.rows x r f).2;rw[b]at this;have H:r.cells=[]:=this;exact⟨[],.inr ⟨b,rfl,rfl,A,rfl⟩,by rw[H];exact .nil⟩
def ada{g:Nat}{p:Nat×Nat×Nat}(f:acs P g p)(hI:Inv N M L w0 blk V t h a w){A:Option Nat}{E:cI}{Q:List D}{H:Array Value}(B:yO h e A p Q=some E)(hV:∀d,A=some d->lE N V d e)(R:H.size=Q.length)
  (hr:∀(j:Nat) d,Q[j]? = some d->RT w (Own M h blk) h blk V d (H.getD j undef)):fB P g∧Calls P g H w fun e' w'=>∃v,e'=.returned v∧bz N M L w0 V t h a e A E v w':=by
 refine⟨f.callable,?_⟩;unfold yO at B;split at B<;>try (cases B;done)
 rename_i x v s o n i y v' s' o' m;split at B<;>try (cases B;done)
 rename_i r S d hl T;split at B<;>try (cases B;done)
 rename_i hc;obtain⟨hz,aA,ax,ab,hxy,rfl,rfl,ad,U,rfl,rfl,W,I,aB,aC,ae,X⟩:=hc;simp only[anf]at B;subst B;obtain⟨hx,hv⟩:=da hl;obtain⟨hy,aD⟩:=da T;have ag:H = #[H.getD 0 undef,H.getD 1 undef,H.getD 2 undef]:=by
  simp only[List.length_cons,List.length_nil]at R;apply aoc
  ·simp[R]
  ·intro j h1 h2;have:j=0∨j=1∨j=2:=by omega
   rcases this with rfl|rfl|rfl<;>simp[aob h1]
 have h0:=hr 0 _ rfl;have h1:=pV (hr 1 _ rfl);have h2:=hr 2 _ rfl;obtain⟨Y,a1,a2⟩:=hI.ak9 hl h0;obtain⟨J,b1,b2⟩:=hI.ak9 T h2;rw[ad]at a1;rw[U]at b1;have F:∀{Q:List D}{us:List Value},qZ (fun d u=>bH d=true∧RP w (Own M h blk) d u) Q us->∀u∈us,u.oneCell'=true:=by
  intro Q us hR
  induction hR with
  | nil=>grind
  | cons h hs ih =>
   intro u hu;rcases anc.1 hu with rfl|hu
   ·exact h.2.tL h.1
   ·exact ih u hu
 rw[ag,h1,show i=((i.toNat:Nat):Int) by omega];refine (f.calls w (blk x) (blk y) _ _ i.toNat n m Y J a1 b1 (fun g g' hg ah K=>hxy (hI.inj x y r S g g' hx hy hg ah K)) (by rw[a2.length,W]) (by rw[b2.length,I]) (F a2) (F b2) (by omega) ae X).mono fun e' w' hg =>?_;obtain⟨u,K,hb,g,c,ai,rfl,g1,g2,g3,g4,g5,g6⟩:=hg;refine⟨_,K,?_⟩;have aj:=hI.drop y;have aE:cq h y none x=some r:=by rw[aG _ _ hxy];exact hx
 have G:qZ (fun d u=>bH d=true∧RP w (Own M h blk) d u) (r.cells.take (i.toNat*p.2.1)++(S.cells++r.cells.drop (i.toNat*p.2.1))) (Y.take (i.toNat*p.2.1)++(J++Y.drop (i.toNat*p.2.1))):=(a2.take _).append (b2.append (a2.drop _));have ay:∀b,Own M (forget (cq h y none) (some x)) blk b->Own M h blk b:=by
  intro b hb;rcases CR hb with hb|⟨z,q,O,C,ak,al,ao⟩
  ·exact .inl hb
  ·by_cases Z:z=y
   ·subst Z;simp[cq]at C
   ·rw[aG _ _ Z]at C;exact .inr ⟨z,q,O,C,ak,al,ao⟩
 have aq:∀b,yN (blk x) b->Own M h blk b:=fun b ⟨O,l,ar⟩ =>.inr ⟨x,r,O,hx,hz,l,ar.symm⟩;have aa:=aj.fresh (e:=e) (ty:=p.1) (s:=p.2.1) (cells:=r.cells.take (i.toNat*p.2.1)++(S.cells++r.cells.drop (i.toNat*p.2.1))) (n:=n+m) (v:=.slice (some ⟨g.1,g.2,none⟩) (n+m) c) (old:=some x) (dst:=some d) rfl (hV d rfl) (w':=w')
  ⟨hb.os,hb.tape,hb.output,hb.size,fun k hk hn=>hb.block k hk (fun⟨O,l,K⟩=>hn ⟨x,O,rfl,l,K⟩)⟩ (fun z C=>by grind)
  (.inl ⟨g,c,ai,rfl,g1.imp id (fun⟨O,l,K⟩=>⟨x,O,rfl,l,K⟩),g2,g3,g4,g5,?_,fun j d' hj =>?_⟩)
 ·unfold bz;exact aa
 ·have az:=f.pos;have e1:(Y.take (i.toNat*p.2.1)++(J++Y.drop (i.toNat*p.2.1))).length=(r.cells.take (i.toNat*p.2.1)++(S.cells++r.cells.drop (i.toNat*p.2.1))).length:=G.length;have e2:(r.cells.take (i.toNat*p.2.1)++(S.cells++r.cells.drop (i.toNat*p.2.1))).length=(n+m)*p.2.1:=by
   grind
  rw[e2];have:=anM p.2.1 g3;omega
 ·obtain⟨u,hu,au,av⟩:=G.at_ j d' hj;have aw:=g6 j u hu;refine⟨au,?_⟩;rw[ana,aw];refine av.keep fun b q1 q2=>⟨am9 q1 hb.size,?_,hb.block b q1 (fun hn=>q2 (aq b hn))⟩;grind
def ac8{g:Nat}{p:Grow}(O:ahD P g p)(Q:Inv N M L w0 blk V t h a w)(hP:∀x v,V x v->x<N∨2*PK<=x){au:Option Nat}{E:cI}{ds:List D}{vs:Array Value}(B:BP h p ds=some E)(av:vs.size=ds.length)
  (hr:∀(j:Nat) d,ds[j]? = some d->RT w (Own M h blk) h blk V d (vs.getD j undef)):fB P g∧Calls P g vs w fun e' R=>∃v,e'=.returned v∧bz N M L w0 V t h a e au E v R:=by
 refine⟨O.callable,?_⟩;unfold BP at B;split at B<;>try (cases B;done)
 rename_i y v k m;split at B<;>try (cases B;done)
 rename_i i l s n r aw hk;split at B<;>try (cases B;done)
 rename_i S;obtain⟨rfl,aa,ab,ad,ax,aR,aS,rfl,ay,I,ae⟩:=S;split at B<;>try (cases B;done)
 rename_i cs J;simp only[anf]at B;subst B;obtain⟨hy,hv,ag,az⟩:=CI aw;obtain⟨f1,f2,f3,f4⟩:=O.flat _ _ _ J;have h0:=hr 0 _ rfl;obtain⟨f,q,aU⟩:=h0.2 i hy hv;have T:=Q.rowIs hy q;unfold fp at T;rw[ag]at T;rcases T with⟨_,_,aV,_⟩|⟨_,G,y1,y2,_⟩
 ·simp_all
 replace y2:f.2<G.size:=by grind
 obtain⟨_,u,C,aB⟩:=Q.pha y i f hy ag q 0 _ _ _ (by rw[az];rfl);rw[anE]at C;have aC:y<N:=by have:=hP _ _ h0.1;omega
 have aD:G[f.2]? = some u:=by
  rw[bm y1 y2]at C;simp_all
 have aQ:=Q.big;have aX:PK=1000000:=rfl;have hyk:y≠l:=by omega
 have aE:acG w p.ty p.k (blk l) u n (r.cells.map QH):=by
  rcases aB r hk with⟨g',c,N',aY,K,rfl,g2,g3,g4,g5⟩|⟨K,rfl,A,rfl⟩
  ·obtain⟨F,k1,k2,k3⟩:=Q.Jr hk K ax;rw[ay]at k1;refine .inl ⟨g',c,F,K,rfl,k1,?_,g3,g4,fun j x o =>?_⟩
   ·grind[World.shape?,Option.some.injEq,Prod.mk.injEq]
   ·rw[am3,am4]at o;obtain⟨d,o,rfl⟩:=o;have aF:=(anx.1 o).1;have:=Nk (f1 d (anv o)) (k3 j d o).2;rw[aob (by omega),<- this,ana,aob (by omega)];rfl
  ·have:=(Q.rows l r hk).2;rw[K]at this;have hc:r.cells=[]:=this;exact .inr ⟨K,rfl,by rw[hc];rfl,A,rfl⟩
 have ah:∀g,blk l=some g->g.1≠f.1:=fun g hg he=>hyk (Q.inj y l i r f g hy hk q hg he.symm);have aH:vs = #[.pointer (some ⟨f.1,f.2,none⟩)]++(m.map ahx).toArray:=by
  apply aoc
  ·simp_all
  ·intro j h1 h2;cases j with
   | zero =>
    simp_all
   | succ j =>
    have o:j<m.length:=by simp at av;omega
    have Y:=hr (j+1) _ (by rw[an4];exact anj o);have H:=f2 _ (ani o);have aI:RP w (Own M h blk) m[j] (vs.getD (j+1) undef):=by
     revert Y H;generalize m[j]=d;intro Y H;cases d<;>first|exact Y|cases H
    have:=aaY H aI;simp_all
 rw[aH];refine (O.calls w f G i.ty (blk l) u n r.cells m cs y1 aD aE ah I J ae).mono fun e' R U =>?_;obtain⟨he,W,g,c,F,q1,q2,q3,q4,q5,q6,q7⟩:=U;refine⟨_,he,cq blk l (some g),?_,RP.int _ _⟩;have aJ:∀v,¬V l v:=fun v hv=>by grind
 generalize aK:Value.slice (some ⟨g.1,g.2,none⟩) (n+1) c=X at q2;have ai:(w.setRow f.1 (G.setIfInBounds f.2 X)).heap[f.1]? = some (.cells (G.setIfInBounds f.2 X) i.ty (0,0)):=setRow_heap w f.1 G _ i.ty (0,0) y1;have aj:(w.setRow f.1 (G.setIfInBounds f.2 X)).heap.size=w.heap.size:=by simp[World.setRow]
 have hheap:∀b,b≠f.1->(w.setRow f.1 (G.setIfInBounds f.2 X)).heap[b]? = w.heap[b]?:=by
  grind[World.setRow]
 have aL:=Q.lM (r0:=⟨i.v,i.ty,[],false,false,false⟩) (w':=w.setRow f.1 (G.setIfInBounds f.2 X)) hy ad rfl rfl rfl rfl (by omega) (fun b _ W=>hheap b (W f q)) (by
  rw[q];exact⟨by simp[World.shape?,ai,y1],_,ai,by simp;omega,fun j d o=>by simp at o⟩) (fun h=>by cases h)
 have aZ:cq h y (some (⟨i.v,i.ty,[],false,false,false⟩:Row)) l=some r:=by rw[aG _ _ (Ne.symm hyk)];exact hk
 have hA:=aL.acQ (w':=R) (h1:=forget (cq h y (some ⟨i.v,i.ty,[],false,false,false⟩)) (some l)) (old:=some l) (d:=l) (r0:=⟨r.v,p.ty,r.cells++cs,false,true,false⟩) (go:=some g) (y0:=y) W.os W.tape W.output (by rw[aj];exact W.size)
  (fun b aF hn=>by
   by_cases ak:b=f.1
   ·simp_all
   ·rw[hheap b ak];refine W.block b (by omega) ?_;rintro (Z|⟨K,al,Z⟩)
    ·exact ak Z
    grind) (fun y' a1=>by simp_all) rfl aa aC aJ
  (fun r' aM=>by
   simp only[forget]at aM;grind[aG,aA]) (by
  refine⟨q1.imp (fun Z=>by rw[aj];exact Z) (fun⟨K,al,Z⟩=>⟨l,K,rfl,al,Z⟩),F,q3,?_,fun j d o =>?_⟩
  ·simp only[an7,f4,I];have:=anM p.k q4;grind
  ·have aN:Gp d=true:=by
    grind
   have hx:=q7 j (QH d) (by grind);have:F.getD (g.2+j) undef=QH d:=by simp_all
   rw[this];exact adZ aN) rfl
 have aO:cq (forget (cq h y (some (⟨i.v,i.ty,[],false,false,false⟩:Row))) (some l)) l (some (⟨r.v,p.ty,r.cells++cs,false,true,false⟩:Row)) y=some ⟨i.v,i.ty,[],false,false,false⟩:=by
  rw[aG _ _ hyk];simp only[forget];rw[aG _ _ hyk,aA]
 have ao:cq blk l (some g) y=some f:=by rw[aG _ _ hyk,q]
 have aq:f.2<(G.setIfInBounds f.2 X).size:=by simpa using y2
 have hB:=hA.lM (r0:=⟨i.v,i.ty,[.ph l p.k (n+1)],false,false,true⟩) (w':=R) aO rfl rfl rfl rfl rfl (am6 _) (fun b _ _=>rfl) (by
  rw[ao];refine⟨rfl,.inr ⟨fun d Y=>by simp only[anr]at Y;subst Y;rfl,_,q2,by grind,fun j d o =>?_⟩⟩;cases j with
  | zero=>simp only[List.getElem?_cons_zero,anf]at o;subst o;trivial
  | succ j=>simp at o) (fun h=>by cases h) (fun _ g' ar j x' s' n' hc=>by
  rw[ao]at ar;cases ar;cases j with
  | succ j=>simp at hc
  | zero =>
  simp only[List.getElem?_cons_zero,anf,D.ph.injEq]at hc;obtain⟨rfl,rfl,rfl⟩:=hc;rw[anE];refine⟨⟨ab,.inl aa⟩,X,?_,fun r' _ =>.inl ⟨g,c,F.size,p.ty,aA _ _ _,aK.symm,q6,q4,q5,by simp[World.shape?,q3]⟩⟩;rw[bm q2 aq];simp_all)
 have aP:aW h [(l,some (⟨r.v,p.ty,r.cells++cs,false,true,false⟩:Row)),(y,some ⟨i.v,i.ty,[.ph l p.k (n+1)],false,false,true⟩)]=cq (cq (forget (cq h y (some (⟨i.v,i.ty,[],false,false,false⟩:Row))) (some l)) l (some (⟨r.v,p.ty,r.cells++cs,false,true,false⟩:Row))) y (some ⟨i.v,i.ty,[.ph l p.k (n+1)],false,false,true⟩):=by
  funext z;simp only[aW,forget,cq];simp_all
 show Inv _ _ _ _ _ _ _ (aW h _) _ _;rw[aP];exact hB.weaken fun _ _ h =>.inl h
def aaK(O:bN P Γ)(hI:Inv N M L w0 blk V t h a w){c:Call}{f:Operand}{E:cI}(ho:o.op=.call c)(hc:c.callee=.value f)(R:∀d,o.dst=some d->lE N V d e)(hP:∀x v,V x v->x<N∨2*PK<=x)(C:kD Γ h e o.dst (ev t f) (c.args.toList.map (ev t))=some E):fC P o a w (bz N M L w0 V t h a e o.dst E):=by
 have hf:=hI.ev f;have b:∀(j:Nat) d,(c.args.toList.map (ev t))[j]? = some d->RT w (Own M h blk) h blk V d ((c.args.map a.eval).getD j undef):=by
  intro j d A;rw[am3]at A;cases hx:c.args.toList[j]? with
  | none=>simp[hx]at A
  | some x =>
   simp only[hx,Option.map_some,anf]at A;subst A;have:(c.args.map a.eval).getD j undef=a.eval x:=by
    simp_all
   rw[this];exact hI.ev x
 have D:(c.args.map a.eval).size=(c.args.toList.map (ev t)).length:=by simp
 have S:∀{g:Nat}{Q l:Array Value},a.eval f=.func (.func g) Q l->fB P g->(execOp a.eval o).run P w=.ok (.enter g (Q++c.args.map a.eval++l)) w:=by
  intro g Q l z ⟨fn,aa,J,ab⟩;have hn:¬fn.name = "runtime.NumGoroutine":=by simpa using J
  have hb:¬fn.body=none:=by
   grind
  simp[execOp,ho,resolve,hc,z,Deferred.ofValue,invoke,callFunc,program,Sem.run,aa,hn,hb]
 generalize c.args.toList.map (ev t)=ds at *;generalize c.args.map a.eval=k at *;generalize ev t f=q at *;have y:∀{g:Nat}{Q l:Array Value}{args:Array Value},a.eval f=.func (.func g) Q l->args=Q++k++l->(fB P g∧Calls P g args w fun e' w'=>∃v,e'=.returned v∧bz N M L w0 V t h a e o.dst E v w')->fC P o a w (bz N M L w0 V t h a e o.dst E) :=
  fun z b ⟨Y,Z⟩ =>.inr (.inr ⟨_,_,b ▸ S z Y,Z⟩)
 cases q with
 | fn g =>
  have z:a.eval f=.func (.func g) #[] #[]:=by
   have ad:RP w (Own M h blk) (.fn g) (a.eval f):=hf;generalize a.eval f=u at *;cases ad;rfl
  simp only[kD]at C;split at C
  ·rename_i p hp;exact y z (by simp) (ada (O.ins g p hp) hI C R D b)
  split at C
  ·rename_i p hp;exact y z (by simp) (ac8 (O.grw g p hp) hI hP C D b)
  split at C
  ·split at C
   ·rename_i x v s c0 n B;have m:(k.extract 1 k.size).size=B.length:=by simp_all
    have T:k = #[k.getD 0 undef]++k.extract 1 k.size:=by
     have:0<k.size:=by simp at D;omega
     apply aoc
     ·simp;omega
     ·intro i Y Z;cases i with
      | zero=>simp_all
      | succ i=>simp[Array.getElem_append];congr 1;omega
    have I:=b 0 _ rfl;refine y z (by grind) (H7 O hI C R I.1 (fun r U=>(hI.aia U).1 _ _ _ I) m (fun j d A =>?_));have:=b (j+1) d (by simpa using A);have W:(k.extract 1 k.size).getD j undef=k.getD (j+1) undef:=by
     simp only[ana];grind
    rw[W];exact this
   ·rename_i x v c0 B;have m:(k.extract 1 k.size).size=B.length:=by simp_all
    have T:k = #[k.getD 0 undef]++k.extract 1 k.size:=by
     have:0<k.size:=by simp at D;omega
     apply aoc
     ·simp;omega
     ·intro i Y Z;cases i with
      | zero=>simp_all
      | succ i=>simp[Array.getElem_append];congr 1;omega
    have I:=b 0 _ rfl;refine y z (by grind) (H7 O hI C R I.1 (fun r U=>(hI.aia U).2 _ I) m (fun j d A =>?_));have:=b (j+1) d (by simpa using A);have W:(k.extract 1 k.size).getD j undef=k.getD (j+1) undef:=by
     simp only[ana];grind
    rw[W];exact this
   ·rename_i x v B;have m:(k.extract 1 k.size).size=B.length:=by simp_all
    have T:k = #[k.getD 0 undef]++k.extract 1 k.size:=by
     have:0<k.size:=by simp at D;omega
     apply aoc
     ·simp;omega
     ·intro i Y Z;cases i with
      | zero=>simp_all
      | succ i=>simp[Array.getElem_append];congr 1;omega
    have I:=b 0 _ rfl;refine y z (by grind) (H7 O hI C R I.1 (fun r U=>hI.aew U I) m (fun j d A =>?_));have:=b (j+1) d (by simpa using A);have W:(k.extract 1 k.size).getD j undef=k.getD (j+1) undef:=by
     simp only[ana];grind
    rw[W];exact this
   ·cases C
  grind[Rk]
 | clo g F l =>
  obtain⟨H,k1,k2,k3⟩:=hf;simp only[kD]at C
  by_cases ae:l.all vT=true
  rotate_left
  ·simp_all
  rw[if_pos ae]at C;have ai:((H.take F).toArray++k++(H.drop F).toArray).toList=H.take F++(k.toList++H.drop F):=by simp
  have ag:(H.take F).length=(l.take F).length:=by simp_all
  have m:k.toList.length=ds.length:=by simpa using D
  refine y k1 rfl (Rk O hI C R (by simp[D,k2]) (fun j d A =>?_));have X:((H.take F).toArray++k++(H.drop F).toArray).getD j undef=(H.take F++(k.toList++H.drop F)).getD j undef:=by
   grind[Array.getD_eq_getD_getElem?]
  rw[X,anG];rw[List.getElem?_append]at A ⊢;rw[ag];split at A
  ·rename_i K;rw[if_pos K];have ah:j<F:=by grind
   rw[anw,if_pos ah]at A ⊢;grind[HO]
  ·rename_i K;rw[if_neg K];rw[List.getElem?_append]at A ⊢;rw[m];split at A
   ·rename_i G;rw[if_pos G];have:=b _ d A;simp_all
   ·rename_i G;rw[if_neg G];grind[HO]
 | _=>simp[kD]at C
def RT.aml{d:D}{n:Nat}{u:Value}(y:Inv N M L w0 blk V t h a w)(e:G8 d=some n)(i:alive h d=true)(j:RT w (Own M h blk) h blk V d u) :
  (∀s,d=.str s->u=.string s∧s.size=n)∧((∀s,d ≠ .str s)->∃A c,u=.slice A n c):=by
 cases d with
 | str s =>
  simp only[G8,anf]at e;grind[HQ]
 | sl nl tight m xs =>
  simp only[G8,anf]at e;subst e;refine⟨fun k f=>(by cases f),fun _ =>?_⟩;have b:RP w (Own M h blk) (.sl nl tight m xs) u:=j;cases b with
  | sl A c nl tight n xs us h1 h2 h3 h4 h5 h6 h7 h8=>simp_all
 | buf x v s o m =>
  simp only[G8,anf]at e;subst e;refine⟨fun k f=>(by cases f),fun _ =>?_⟩;simp only[alive,Option.isSome_iff_exists]at i;obtain⟨r,b⟩:=i;obtain⟨l,p⟩:=uT b;rcases j.2 r l p with⟨g,z,c,B,C,_,q,_⟩|⟨_,rfl,A,q⟩
  ·simp_all
  simp_all
 | _=>simp[G8]at e
def UL(k:IntKind):∀(b:List D)(us:List Value)(x z:Int),CJ (fun x y=>if y>x then y else x) k x b=some z->us.length=b.length->(∀j d,b[j]? = some d->RT w (Own M h blk) h blk V d (us.getD j undef)) ->
  (us.foldlM Builtin.max2 (.int k x)).run P w=.ok (.int k z) w
 | [],us,x,z,a,e,_=>by
  simp_all[CJ,aod,anf]
 | d::b,us,x,z,a,e,f=>by
  cases us with
  | nil=>simp at e
  | cons u us =>
   have g:=f 0 d rfl;cases d with
   | int k' y =>
    simp only[CJ]at a;split at a
    ·have c:=pV g;simp only[an2]at c;subst c;have l:=UL k b us _ z a (by simpa using e) (fun j d i=>by simpa using f (j+1) d (by simpa using i));grind[Builtin.max2,Sem.run_bind,Sem.run_pure,Result.andThen_ok]
    ·cases a
   | _=>simp[CJ]at a
def UM(k:IntKind):∀(b:List D)(us:List Value)(x z:Int),CJ (fun x y=>if y<x then y else x) k x b=some z->us.length=b.length->(∀j d,b[j]? = some d->RT w (Own M h blk) h blk V d (us.getD j undef)) ->
  (us.foldlM Builtin.min2 (.int k x)).run P w=.ok (.int k z) w
 | [],us,x,z,a,e,_=>by
  simp_all[CJ,aod,anf]
 | d::b,us,x,z,a,e,f=>by
  cases us with
  | nil=>simp at e
  | cons u us =>
   have g:=f 0 d rfl;cases d with
   | int k' y =>
    simp only[CJ]at a;split at a
    ·have c:=pV g;simp only[an2]at c;subst c;have l:=UM k b us _ z a (by simpa using e) (fun j d i=>by simpa using f (j+1) d (by simpa using i));grind[Builtin.min2,Sem.run_bind,Sem.run_pure,Result.andThen_ok]
    ·cases a
   | _=>simp[CJ]at a
end
end Go.Proofs.YtobnihfgnbnncaaGreat.Am
