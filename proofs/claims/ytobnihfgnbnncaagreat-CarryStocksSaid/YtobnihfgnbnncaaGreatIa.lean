import Derived.WalkKit
import Derived.Orders
import Derived.Maps.AppendAt
import Derived.Laws.OwnMore
import Derived.Laws.CopyRow
import Derived.Laws.Concat
import Derived.Laws.Cover3
import Derived.WalkSmall
import Derived.MapKept
import Derived.ArgAppend
import Derived.Deep.LoopGhost
import Derived.Maps.RangeRun
import Derived.Test.YtobnihfgnbnncaaGreatChecked
import Derived.KernelRfl
import GoSem.Claim
import Derived.RowKit
import Derived.Sort.Grow
import Derived.OpenShut
import Derived.Deep.Slices
import Derived.WideKeyArgs
import Derived.SizedLaws
import Derived.ProofKit
import Derived.Below
import Derived.Handed
import Derived.Lib.ItoaMem
import Derived.Lib.SlicesCompact
import Derived.Shelf.Sort.Plain
import Derived.Shelf.Slices.In.SortNone
import Derived.Ground.NamesProg
import Derived.Shelf.SlIterI.Sorted
import Derived.Shelf.SlGeneric
import Derived.Ground.GgzProg
import Derived.Shelf.SlSortCmp.NoneTotal
import Derived.Ground.SlsfProg
import Derived.Test.YtobnihfgnbnncaaGreatProg
import Derived.Shelf.Spec.SlicesInsertGrow
import Derived.RangeFuncBox
import Derived.RangeFuncNested
import Derived.RangeFuncLeaves
import Derived.Shelf.Abstract
import Derived.OwnWalkIn
import Derived.TacticsInMore
import Derived.LoopNIn
import Derived.LoopIn
import Derived.Test.YtobnihfgnbnncaaGreatRows
import Derived.Lib.LaidTab
import Derived.Lib.ItoaNum
import Derived.LaidMore
import Derived.LaidHandle
import Derived.MakeChecks
import Derived.Stop.LaidErr
import Derived.Lib.SlicesDelete
import Derived.Shelf.RegionOpenPlain
import Derived.Deep.RegionLaw
import Derived.Lib.Walk
import Derived.Shelf.GgSortFunc.InsertionK
import Derived.Shelf.SlSortCmp.Insertion
import Derived.Lib.Small
import Derived.StillTailTactics
set_option linter.unusedSimpArgs false
set_option linter.unusedVariables false
set_option linter.defProp false
noncomputable section
open Go.Proofs.Tryz
namespace Go.Proofs.YtobnihfgnbnncaaGreat
def alk:=@World.cell?_of_block
def aln:=@List.getElem?_map.{0,0}
def alo:=@Option.map_eq_some_iff.{0,0}
def alp:=@List.mem_map.{0,0}
def alq:=@Nat.le_refl
def alr:=@Nat.zero_le
def als:=@Nat.le_trans
def alu:=@Nat.lt_of_lt_of_le
def alv:=@Array.getD_eq_getD_getElem?.{0}
def alw:=@List.map_cons.{0,0}
def alx:=@List.mem_cons.{0}
def aly:=@Option.map_some.{0,0}
def alz:=@Option.some.injEq.{0}
def alA:=@Array.getElem?_modify.{0}
def alB:=@List.all_eq_true.{0}
def alC:=@List.getElem_mem.{0}
def alE:=@List.getElem?_eq_getElem.{0}
def alF:=@List.mem_append_left.{0}
def alG:=@List.mem_append_right.{0}
def alH:=@Nat.eq_zero_or_pos
def alI:=@List.length_take.{0}
def alJ:=@List.length_drop.{0}
def alK:=@Nat.add_assoc
def alL:=@List.getElem?_of_mem.{0}
def alM:=@List.mem_singleton.{0}
def alO:=@List.cons.injEq.{0}
def alP:=@List.getElem?_drop.{0}
def alQ:=@List.getElem?_cons_zero.{0}
def alR:=@List.mem_of_getElem?.{0}
def alS:=@List.getElem?_take.{0}
def alT:=@List.getElem?_eq_some_iff.{0}
def alU:=@List.length_map.{0,0}
def alV:=@List.length_range
def alW:=@Sem.run_bind
def alX:=@Result.andThen_ok
def alY:=@Bool.false_eq_true
def alZ:=@Nat.add_zero
def al0:=@Bool.and_eq_true
def al1:=@Bool.not_eq_true'
def al2:=@List.getD_eq_getElem?_getD.{0}
def al3:=@Array.length_toList.{0}
def al4:=@List.mem_of_mem_drop.{0}
def al5:=@Sem.run_pure
def al6:=@List.mem_of_mem_take.{0}
def al7:=@Nat.lt_or_ge
def al8:=@Nat.mul_le_mul_right
def al9:=@List.foldl_cons.{0,0}
def ama:=@List.length_cons.{0}
def amb:=@List.map_nil.{0,0}
def amc:=@Option.getD_some.{0}
def amd:=@Array.mapM_eq_mapM_toList.{0,0,0}
def ame:=@Array.toList_map.{0,0}
def amf:=@Nat.mod_lt
def amg:=@List.replicate_succ.{0}
def amh:=@List.getElem?_append_left.{0}
def ami:=@Nat.mod_eq_of_lt
def amj:=@List.getElem?_append_right.{0}
def amk:=@Int.toNat_natCast
def aml:=@List.idxOf_cons.{0}
def amm:=@List.contains_cons.{0}
def amn:=@Bool.false_or
def amo:=@List.getD_cons_zero.{0}
def amp:=@List.getD_cons_succ.{0}
def amq:=@List.getElem?_cons_succ.{0}
def amr:=@Nat.zero_add
def ams:=@Array.getElem?_eq_some_iff.{0}
def amu:=@List.length_append.{0}
def amv:=@List.length_nil.{0}
def amw:=@Array.getElem?_toList.{0}
def amx:=@Nat.sub_self
def amy:=@Array.getElem?_eq_getElem.{0}
def amz:=@Array.ext.{0}
def amA:=@List.eq_nil_of_length_eq_zero.{0}
def amB:=@List.size_toArray.{0}
def amC:=@Bool.not_true
def amD:=@Bool.true_and
def amE:=@List.map_append.{0,0}
def amF:=@List.mem_flatMap.{0,0}
def amG:=@List.mem_append.{0}
def amH:=@List.mem_cons_self.{0}
def amI:=@List.mem_cons_of_mem.{0}
def amJ:=@List.toList_toArray.{0}
def amK:=@Array.toList_append.{0}
def amL:=@List.map_congr_left.{0,0}
def amM:=@List.not_mem_nil.{0}
def amN:=@Option.bind_some.{0,0}
def amO:=@List.mem_filter.{0}
def amP:=@List.pairwise_cons.{0}
def amQ:=@List.mem_range
def amR:=@List.pairwise_lt_range
def amT:=@Nat.zero_lt_one
def amU:=@List.nil_append.{0}
def amV:=@Nat.le_of_ble_eq_true
def amW:=@List.drop_append.{0}
def amX:=@List.drop_eq_nil_of_le.{0}
def amY:=@Nat.succ_mul
def amZ:=@Nat.add_sub_cancel
def am0:=@List.drop_drop.{0}
def am1:=@List.take_append_drop.{0}
def am2:=@Nat.zero_mul
def am3:=@List.drop_zero.{0}
def am4:=@List.take_of_length_le.{0}
def am5:=@List.length_pos_iff.{0}
def am6:=@List.append_nil.{0}
def am7:=@List.cons_append.{0}
def am8:=@List.append_assoc.{0}
def am9:=@List.drop_succ_cons.{0}
def ana:=@List.take_succ_cons.{0}
def anb:=@List.append_inj.{0}
def anc:=@List.drop_eq_getElem_cons.{0}
def ane:=@List.take_zero.{0}
def anf:=@Nat.add_sub_cancel_left
def ang:=@List.take_append_of_le_length.{0}
def anh:=@List.drop_append_of_le_length.{0}
def ani:=@Array.getElem?_setIfInBounds.{0}
def anj:=@Option.isSome_some.{0}
def ank:=@Bool.false_and
def anl:=@Nat.one_ne_zero
def anm:=@List.length_set.{0}
def ann:=@Nat.min_eq_left
def ano:=@List.take_length.{0}
def anp:=@List.ext_getElem?.{0}
def anq:=@Option.some.inj.{0}
def anr:=@List.pairwise_map.{0,0}
def ans:=@List.pairwise_iff_getElem.{0}
def ant:=@List.getElem_of_mem.{0}
def anu:=@Nat.lt_irrefl
def anv:=@Int.mul_le_mul_of_nonneg_left
def anw:=@Int.mul_add
def anx:=@Nat.and_two_pow_sub_one_eq_mod
def anz:=@Int.ediv_nonneg
def anA:=@Int.ediv_lt_of_lt_mul
def anB:=@Int.emod_lt_of_pos
def anC:=@Int.mul_ediv_add_emod
def anD:=@Int.mul_nonneg
def anE:=@Int.mul_le_mul_of_nonneg_right
def anF:=@Int.natCast_mul
def anG:=@Int.sign_eq_one_of_pos
def anH:=@Rat.div_def
def anI:=@Nat.le_of_not_lt
def anJ:=@List.head?_drop.{0}
def anK:=@List.getElem?_mapIdx.{0,0}
def anL:=@List.getElem?_eq_none.{0}
def anM:=@List.take_succ_eq_append_getElem.{0}
def anN:=@Nat.mul_le_mul
def anO:=@List.filter_append.{0}
def anP:=@List.range_succ
def anQ:=@Rat.mul_nonneg
def anR:=@Nat.lt_trichotomy
def anS:=@List.filter_cons_of_pos.{0}
def anT:=@List.length_filter_le.{0}
def anU:=@List.getElem?_set.{0}
def anV:=@Nat.pow_le_pow_right
def anW:=@Bool.true_eq_false
def anX:=@Rat.divInt_eq_div
def anY:=@Array.replicate_succ.{0}
def anZ:=@Array.replicate_zero.{0}
def an0:=@List.push_toArray.{0}
def an1:=@List.append_toArray.{0}
def an2:=@Addr.add_lit
def an3{α:Type}{a:α}:a=a:=Eq.trans rfl rfl
end Go.Proofs.YtobnihfgnbnncaaGreat
namespace Go.Proofs.YtobnihfgnbnncaaGreat.Am
open Go.RowKit
abbrev eB:=Int×Option Int
def oL:eB->Value
 | (n,none) =>.int .i64 n
 | (a,some b) =>.agg #[.int .i64 a,.int .i64 b]
def KD (k:eB):Bool:=k.2.isSome
def acW {k c:eB} (h:oL k=oL c):k=c:=by
 obtain⟨a,x⟩:=k;obtain⟨b,y⟩:=c;cases x<;>cases y<;>simp[oL]at h
 ·subst h;rfl
 simp_all
inductive D where
 | int (k:IntKind) (n:Int)
 | bool (b:Bool)
 | str (s:ByteArray)
 | sl (nl tight:Bool) (n:Nat) (xs:List D)
 | ptr (x v o:Nat)
 | ip (xs:List D)
 | buf (x v s o n:Nat)
 | agg (xs:List D)
 | tup (xs:List D)
 | fn (f:Nat)
 | clo (f k:Nat) (caps:List D)
 | ali (x v s o n:Nat)
 | box1 (x v s o n:Nat)
 | mp (x v:Nat)
 | mpc (ks:List eB) (vs:List D)
 | alm (x v:Nat)
 | pm (x v y:Nat)
 | ph (x s n:Nat)
 | nx (n:Nat) (xs:List D)
 | nr (ty s nv:Nat) (cs:List D)
 | und
 | skp
structure Row where
 v:Nat
 ty:Nat
 cells:List D
 fz:Bool
 lst:Bool
 mp:Bool:=false
def bE:D->Bool
 | .int _ _ | .bool _ | .str _ | .sl _ _ _ _ | .ali _ _ _ _ _ | .mpc _ _ | .alm _ _=>true
 | _=>false
def canon:D->D
 | .sl _ _ n xs =>.sl false false n xs
 | d=>d
def kp:D->D
 | .sl _ _ n xs =>.sl false false n xs
 | .agg xs =>.agg (xs.map canon)
 | d=>d
def cq {α:Type} (f:Nat->α) (i:Nat) (v:α):Nat->α:=fun j=>if j=i then v else f j
inductive Ds where
 | int (k:IntKind)|bool|str
 | struct (fs:List (Nat×Nat))
 | slice (e:Nat)
 | arr (n e:Nat)
 | map (k e:Nat)
 | other
structure Ty where
 ds:Ds
 size:Nat
 bytes:Nat
 zero:List Value
 eqok:Bool:=false
def conv:TypeDesc->Ds
 | .int k =>.int k
 | .bool =>.bool
 | .string =>.str
 | .struct F =>.struct (F.toList.map fun f=>(f.type,f.offset))
 | .slice e =>.slice e
 | .array n e =>.arr n e
 | .map k e =>.map k e
 | _ =>.other
def rH:Value->D
 | .int k n =>.int k n
 | .bool b =>.bool b
 | .string s =>.str s
 | .slice none 0 0 =>.sl true true 0 []
 | .map none =>.mpc [] []
 | _ =>.und
def Ds.we:Ds->Bool
 | .struct _ | .arr _ _=>true
 | _=>false
def ev (t:Nat->D):Operand->D
 | .tmp i=>t i
 | .const v=>rH v
 | .global _ =>.und
 | .func f =>.fn f
def Ve:Value->Bool
 | .agg _=>true
 | _=>false
structure eS (P:Program) (t:Nat) (τ:Ty):Prop where
 desc:(P.underlying t).map conv=some τ.ds
 info:(P.info? t).map (fun i=>(i.size,i.bytes,i.zero.map fun z=>z.cells.toList))=some (τ.size,τ.bytes,some τ.zero)
 agg:(P.info? t).map (fun i=>i.zero.map Ve)=some (some τ.ds.we)
 eqs:τ.eqok=true->P.stoodInHeld t=false∧P.eqGuardType P.depth t=false∧(match P.underlying t with|some (.struct F)=>F.all (fun f=>f.name != "_")|_=>true)=true
def ke (P:Program) (T:Nat->Option Ty):Prop:=∀t τ,T t=some τ->eS P t τ
inductive RP (w:World) (M:Nat->Prop):D->Value->Prop
 | int (k:IntKind) (n:Int):RP w M (.int k n) (.int k n)
 | bool (b:Bool):RP w M (.bool b) (.bool b)
 | str (s:ByteArray):RP w M (.str s) (.string s)
 | sl (A:Option Addr) (c:Nat) (nl tight:Bool) (n:Nat) (xs:List D) (us:Nat->Value) (h1:n<=c) (h2:c<=maxLen) (h3:nl=true->(tight=true->A=none∧c=0)∧(tight=false->A≠none)) (h4:A=none->n=0∧c=0)
   (h5:tight=true->c=n) (h6:xs≠[]->∃b o,A=some ⟨b,o,none⟩∧b<w.heap.size∧¬M b∧∀j,j<xs.length->w.cell? ⟨b,o+j,none⟩=some (us j))
   (h7:∀j x,xs[j]? = some x->RP w M x (us j)) (h8:∀x∈xs,bE x=true):RP w M (.sl nl tight n xs) (.slice A n c)
 | ip (xs:List D) (ad:Addr) (us:Nat->Value) (h6:xs≠[]->∃b o,ad=⟨b,o,none⟩∧b<w.heap.size∧¬M b∧∀j,j<xs.length->w.cell? ⟨b,o+j,none⟩=some (us j))
   (h7:∀j x,xs[j]? = some x->RP w M x (us j)) (h8:∀x∈xs,bE x=true):RP w M (.ip xs) (.pointer (some ad))
 | agg (xs:List D) (us:List Value) (h1:us.length=xs.length) (h2:∀j x,xs[j]? = some x->RP w M x (us.getD j undef)) (h3:∀x∈xs,bE x=true):RP w M (.agg xs) (.agg us.toArray)
 | tup (xs:List D) (us:List Value) (h1:us.length=xs.length) (h2:∀j x,xs[j]? = some x->RP w M x (us.getD j undef)):RP w M (.tup xs) (.tuple us.toArray)
 | fn (f:Nat):RP w M (.fn f) (.func (.func f) #[] #[])
 | ali (x v s o n:Nat) (u:Value) (h1:u.oneCell'=true):RP w M (.ali x v s o n) u
 | alm (x v:Nat) (u:Value) (h1:u.oneCell'=true):RP w M (.alm x v) u
 | mpc (ks:List eB) (vs:List D) (mb:Option Nat) (us:Nat->Value) (h1:vs.length=ks.length) (h2:mb=none->ks=[])
   (h3:∀b,mb=some b->b<w.heap.size∧¬M b∧∃(ents:Array MapEntry) (clock:Nat),w.heap[b]? = some (.map ents clock)∧ents.size=ks.length∧∀j k,ks[j]? = some k->∃e:MapEntry,ents[j]? = some e∧e.key=oL k∧e.val=us j)
   (h4:∀j x,vs[j]? = some x->RP w M x (us j)):RP w M (.mpc ks vs) (.map mb)
 | clo (f k:Nat) (xs:List D) (us:List Value) (h1:us.length=xs.length) (h2:∀j x,xs[j]? = some x->RP w M x (us.getD j undef)):RP w M (.clo f k xs) (.func (.func f) (us.take k).toArray (us.drop k).toArray)
def RP.keep {w l:World} {M B:Nat->Prop} (C:∀b,b<w.heap.size->¬M b->b<l.heap.size∧¬B b∧l.heap[b]? = w.heap[b]?) {d:D} {u:Value} (h:RP w M d u):RP l B d u:=by
 induction h with
 | int k n=>exact .int k n
 | bool b=>exact .bool b
 | str s=>exact .str s
 | sl A c nl tight n xs us h1 h2 h3 h4 h5 h6 h7 h8 e =>
  refine .sl A c nl tight n xs us h1 h2 h3 h4 h5 (fun g =>?_) e h8;obtain⟨b,o,m,i,p,q⟩:=h6 g;obtain⟨r,t,y⟩:=C b i p;exact⟨b,o,m,r,t,fun j z=>(alk (a:=⟨b,o+j,none⟩) y).trans (q j z)⟩
 | ip xs ad us h6 h7 h8 e =>
  refine .ip xs ad us (fun g =>?_) e h8;obtain⟨b,o,m,i,p,q⟩:=h6 g;obtain⟨r,t,y⟩:=C b i p;exact⟨b,o,m,r,t,fun j z=>(alk (a:=⟨b,o+j,none⟩) y).trans (q j z)⟩
 | agg xs us h1 h2 h3 e=>exact .agg xs us h1 e h3
 | tup xs us h1 h2 e=>exact .tup xs us h1 e
 | fn f=>exact .fn f
 | ali x v s o n u h1=>exact .ali x v s o n u h1
 | alm x v u h1=>exact .alm x v u h1
 | mpc ks vs mb us h1 h2 h3 h4 e =>
  refine .mpc ks vs mb us h1 h2 (fun b i =>?_) e;grind
 | clo f E xs us h1 h2 e=>exact .clo f E xs us h1 e
def RP.canon {w:World} {M:Nat->Prop} {d:D} {u:Value} (h:RP w M d u):RP w M (canon d) u:=by
 cases h with
 | sl A c nl tight n xs us h1 h2 h3 a h5 e g i=>exact .sl A c false false n xs us h1 h2 (fun h=>by cases h) a (fun h=>by cases h) e g i
 | int k n=>exact .int k n
 | bool b=>exact .bool b
 | str s=>exact .str s
 | ip xs ad us e g i=>exact .ip xs ad us e g i
 | agg xs us h1 h2 h3=>exact .agg xs us h1 h2 h3
 | tup xs us h1 h2=>exact .tup xs us h1 h2
 | fn f=>exact .fn f
 | ali x v s o n u h1=>exact .ali x v s o n u h1
 | alm x v u h1=>exact .alm x v u h1
 | mpc ks vs mb us h1 h2 h3 a=>exact .mpc ks vs mb us h1 h2 h3 a
 | clo f j xs us h1 h2=>exact .clo f j xs us h1 h2
def p8 (d:D):bE (canon d)=bE d:=by cases d<;>rfl
def RP.kp {w:World} {M:Nat->Prop} {d:D} {u:Value} (h:RP w M d u):RP w M (kp d) u:=by
 cases h with
 | agg xs us h1 h2 h3 =>
  refine .agg _ us (by simpa using h1) (fun j x m =>?_) (fun x p =>?_)
  ·rw[aln,alo]at m;obtain⟨y,a,rfl⟩:=m;exact (h2 j y a).canon
  ·obtain⟨y,a,rfl⟩:=alp.1 p;rw[p8];exact h3 y a
 | sl A c nl tight n xs us h1 h2 h3 e h5 g i l=>exact .sl A c false false n xs us h1 h2 (fun h=>by cases h) e (fun h=>by cases h) g i l
 | int k n=>exact .int k n
 | bool b=>exact .bool b
 | str s=>exact .str s
 | ip xs ad us g i l=>exact .ip xs ad us g i l
 | tup xs us h1 h2=>exact .tup xs us h1 h2
 | fn f=>exact .fn f
 | ali x v s o n u h1=>exact .ali x v s o n u h1
 | alm x v u h1=>exact .alm x v u h1
 | mpc ks vs mb us h1 h2 h3 e=>exact .mpc ks vs mb us h1 h2 h3 e
 | clo f q xs us h1 h2=>exact .clo f q xs us h1 h2
def RC (w:World) (M:Nat->Prop) (h:Nat->Option Row) (blk:Nat->Option (Nat×Nat)) (V:Nat->Nat->Prop):D->Value->Prop
 | .ptr x v o,u=>V x v∧∀r,h x=some r->r.v=v->∃g,blk x=some g∧u=.pointer (some ⟨g.1,g.2+o,none⟩)
 | .mp x v,u=>V x v∧∀r,h x=some r->r.v=v->∃g,blk x=some g∧u=.map (some g.1)
 | .pm x v _,u=>V x v∧∀r,h x=some r->r.v=v->∃g,blk x=some g∧u=.pointer (some ⟨g.1,g.2+0,none⟩)
 | d,u=>RP w M d u
def RT (w:World) (M:Nat->Prop) (h:Nat->Option Row) (blk:Nat->Option (Nat×Nat)) (V:Nat->Nat->Prop):D->Value->Prop
 | .ptr x v o,u=>V x v∧∀r,h x=some r->r.v=v->∃g,blk x=some g∧u=.pointer (some ⟨g.1,g.2+o,none⟩)
 | .buf x v s o n,u=>V x v∧∀r,h x=some r->r.v=v ->
   (∃g o' c N t,blk x=some g∧u=.slice (some ⟨g.1,o',none⟩) n c∧(0<c∨o=0->o'=g.2+o∧c*s+o'=N)∧n<=c∧c<=maxLen∧w.shape? g.1=some (t,N))∨(blk x=none∧n=0∧∃A,u=.slice A 0 0)
 | .clo f e xs,u=>∃a:List Value,u=.func (.func f) (a.take e).toArray (a.drop e).toArray∧a.length=xs.length∧∀(j:Nat) x,xs[j]? = some x->RC w M h blk V x (a.getD j undef)
 | .mp x v,u=>V x v∧∀r,h x=some r->r.v=v->∃g,blk x=some g∧u=.map (some g.1)
 | .pm x v _,u=>V x v∧∀r,h x=some r->r.v=v->∃g,blk x=some g∧u=.pointer (some ⟨g.1,g.2+0,none⟩)
 | .box1 x v s o n,u=>∃b:Value,u=.agg #[b]∧b.oneCell'=true∧V x v∧∀r,h x=some r->r.v=v ->
   (∃g o' c N t,blk x=some g∧b=.slice (some ⟨g.1,o',none⟩) n c∧(0<c∨o=0->o'=g.2+o∧c*s+o'=N)∧n<=c∧c<=maxLen∧w.shape? g.1=some (t,N))∨(blk x=none∧n=0∧∃A,b=.slice A 0 0)
 | .und,_=>True
 | .skp,u=>u=undef
 | d,u=>RP w M d u
def Own (M:Nat->Prop) (h:Nat->Option Row) (blk:Nat->Option (Nat×Nat)) (b:Nat):Prop:=M b∨∃x r g,h x=some r∧r.fz=false∧blk x=some g∧g.1=b
def aa9 (w:World) (M:Nat->Prop) (g:Nat×Nat) (r:Row):Prop :=
 ∃a:Array Value,w.heap[g.1]? = some (.cells a r.ty (0,0))∧g.2+r.cells.length<=a.size∧∀j d,r.cells[j]? = some d->bE d=true∧RP w M d (a.getD (g.2+j) undef)
def aeI (w:World) (M:Nat->Prop) (g:Nat×Nat) (c:List eB) (f:List D):Prop :=
 ∃(a:Array MapEntry) (b:Nat),w.heap[g.1]? = some (.map a b)∧a.size=c.length∧MapKept.Stamped a b∧∃d:Nat->Value,(∀j k,c[j]? = some k->∃e:MapEntry,a[j]? = some e∧e.key=oL k∧e.val=d j)∧∀j x,f[j]? = some x->RP w M x (d j)
def PH (w:World) (M:Nat->Prop) (g:Nat×Nat) (m:Nat) (f:List eB) (n:List D):Prop :=
 g.2=0∧∃(b:Nat) (d:Array MapEntry) (a:Nat) (seen:Array Nat) (c l:List Nat) (h:Nat->Value),w.heap[g.1]? = some (.mapIter (some b) a seen a)∧b<w.heap.size∧¬M b∧w.heap[b]? = some (.map d a)∧MapKept.Stamped d a ∧
  c.length=m-900000∧c.length<=1∧(c++l).length=f.length∧l.Nodup∧(∀i,i∈l↔∃e:MapEntry,d[i]? = some e∧seen.contains e.born=false)∧(∀i,i∈c->∃e:MapEntry,d[i]? = some e∧seen.back? = some e.born) ∧
  (∀j k,f[j]? = some k->∃(i:Nat) (e:MapEntry),(c++l)[j]? = some i∧d[i]? = some e∧e.key=oL k∧e.val=h j)∧∀j x,n[j]? = some x->RP w M x (h j)
def Cg (w:World) (M:Nat->Prop) (g:Nat×Nat) (r:Row):Prop :=
 ∃a b,r.cells=[.mpc a b]∧b.length=a.length∧(r.ty<900000->aeI w M g a b)∧(900000<=r.ty->PH w M g r.ty a b)
def phC:D->Bool
 | .ph _ _ _ | .und | .int _ _ | .bool _ | .str _ | .sl _ _ _ _=>true
 | _=>false
def GJ (w:World) (M:Nat->Prop):D->Value->Prop
 | .ph _ _ _,_=>True
 | .und,_=>True
 | d,u=>RP w M d u
def GK (w:World) (M:Nat->Prop) (g:Nat×Nat) (r:Row):Prop:=(∀d∈r.cells,phC d=true)∧∃a:Array Value,w.heap[g.1]? = some (.cells a r.ty (0,0))∧g.2+r.cells.length<=a.size∧∀j d,r.cells[j]? = some d->GJ w M d (a.getD (g.2+j) undef)
def fh (w:World) (M:Nat->Prop) (g:Nat×Nat) (r:Row):Prop :=
 match r.mp with
 | true=>Cg w M g r∨GK w M g r
 | false=>aa9 w M g r
def Wu (L:Nat->Prop) (w0 w:World) (M:Nat->Prop) (g:Option (Nat×Nat)) (r:Row):Prop :=
 match g with
 | some g=>(w0.heap.size<=g.1∨L g.1)∧fh w M g r
 | none=>r.cells=[]
def ad6:Option Nat:=none
def ahN:Array Value:=((List.range 20).map fun i=>Value.int .u64 ((10 ^ i:Nat):Int)).toArray
structure Wy (w:World) (M:Nat->Prop) (b:Nat):Prop where
 lt:b<w.heap.size
 no:¬M b
 is:∃ty fr,w.heap[b]? = some (.cells ahN ty fr)
def Wy.less {w:World} {M1 a:Nat->Prop} {b:Nat} (h:Wy w M1 b) (c:∀b,a b->M1 b):Wy w a b:=⟨h.lt,fun d=>h.no (c _ d),h.is⟩
def YW (w:World) (M:Nat->Prop):Prop:=∀b,ad6=some b->Wy w M b
def YW.keep {w a:World} {M c:Nat->Prop} (d:∀b,b<w.heap.size->¬M b->b<a.heap.size∧¬c b∧a.heap[b]? = w.heap[b]?) (h:YW w M):YW a c:=fun b e=>by
 obtain⟨f,g,i,j,k⟩:=h b e;obtain⟨l,m,n⟩:=d b f g;exact⟨l,m,i,j,n.trans k⟩
structure eV (L:Nat->Prop) (w0 w:World):Prop where
 os:w.os=w0.os
 tape:w.tape=w0.tape
 output:w.output=w0.output
 size:w0.heap.size<=w.heap.size
 block:∀k,k<w0.heap.size->¬L k->w.heap[k]? = w0.heap[k]?
def alD:D->Option D
 | .ali x v s o n=>some (.buf x v s o n)
 | .alm x v=>some (.mp x v)
 | _=>none
abbrev lG:=Option (Option (Nat×Nat)×(Nat->Prop))
def LB (L:lG) (b:Nat):Prop:=∃p,L=some p∧((∃g:Nat×Nat,p.1=some g∧b=g.1)∨p.2 b)
def OD (a:Option (Nat×Nat)):lG:=some (a,fun _=>False)
def uY {b:Nat} : ¬LB none b:=fun⟨_,h,_⟩=>by cases h
def NJ {a:Option (Nat×Nat)} {b:Nat} : LB (OD a) b↔∃g,a=some g∧b=g.1 :=
 ⟨fun⟨p,c,d⟩=>by cases c;simp_all,fun h=>⟨_,rfl,.inl h⟩⟩
def PK:Nat:=1000000
def NK (y j:Nat):Nat:=PK*(j+2)+y
def Um (y j x:Nat):Prop:=y<PK∧(x=PK+y∨x=NK y j)
def PhR (w:World) (h:Nat->Option Row) (blk:Nat->Option (Nat×Nat)) (x s n:Nat) (u:Value):Prop:=∀r,h x=some r ->
 (∃g c a b,blk x=some g∧u=.slice (some ⟨g.1,g.2,none⟩) n c∧c*s+g.2=a∧n<=c∧c<=maxLen∧w.shape? g.1=some (b,a))∨(blk x=none∧n=0∧∃A,u=.slice A 0 0)
structure kZ (N:Nat) (V:Nat->Nat->Prop) (d e:Nat):Prop where
 no:¬V d e
 lt:d<N
structure Inv (N:Nat) (M:Nat->Prop) (L:lG) (w0:World) (blk:Nat->Option (Nat×Nat)) (V:Nat->Nat->Prop) (t:Nat->D) (h:Nat->Option Row) (a:Act) (w:World):Prop where
 tab:YW w (Own M h blk)
 below:eV (LB L) w0 w
 mlt:∀b,M b->b<w0.heap.size
 cc:∀b,LB L b->¬M b
 pin:∀go,L=some go->V 0 0∧∀r,h 0=some r->r.v=0->blk 0=go.1∧∀g,go.1=some g->w.shape? g.1=w0.shape? g.1
 defers:a.defers=[]
 tsz:a.tmps.size=N
 slots:∀i,RT w (Own M h blk) h blk V (t i) (a.tmps.getD i undef)
 rows:∀x r,h x=some r->(x<N->V x r.v)∧Wu (LB L) w0 w (Own M h blk) (blk x) r
 inj:∀x y r s g g',h x=some r->h y=some s->blk x=some g->blk y=some g'->g.1=g'.1->x=y
 ali:∀y r g,h y=some r->r.fz=true->r.lst=false->blk y=some g->∀j c d,r.cells[j]? = some c->alD c=some d->∃u,w.cell? ⟨g.1,g.2+j,none⟩=some u∧RT w (Own M h blk) h blk V d u
 big:N<=PK
 pha:∀y r g,h y=some r->r.mp=true->blk y=some g->∀j x s n:Nat,r.cells[j]? = some (D.ph x s n)->Um y j x∧∃u,w.cell? ⟨g.1,g.2+j,none⟩=some u∧PhR w h blk x s n u
def kj:D->List Nat
 | .ptr x _ _=>[x]
 | .box1 x _ _ _ _=>[x]
 | .mp x _=>[x]
 | .pm x _ y=>[x,y]
 | .buf x _ _ _ _=>[x]
 | _=>[]
def nm:D->List Nat
 | .clo _ _ xs=>xs.flatMap kj
 | d=>kj d
def live (h:Nat->Option Row) (x v:Nat):Option Row :=
 match h x with
 | some r=>if r.v=v∧r.mp=false then some r else none
 | none=>none
def rY (h:Nat->Option Row) (x v:Nat):Option Row :=
 match h x with
 | some r=>if r.v=v then some r else none
 | none=>none
def wB (h:Nat->Option Row) (x v:Nat):Option (Row×Nat×Nat×Nat) :=
 match h x with
 | some r=>if r.v=v∧r.mp=true then (match r.cells with | [.ph y s n]=>some (r,y,s,n)|_=>none) else none
 | none=>none
def ny (h:Nat->Option Row) (x v:Nat):Option (List eB×List D) :=
 match h x with
 | some r=>if r.v=v∧r.mp=true∧r.ty<900000 then (match r.cells with | [.mpc a b]=>some (a,b)|_=>none) else none
 | none=>none
def yt (r:Row):Bool :=
 match r.mp,r.cells with
 | true,[.mpc _ _]=>decide (r.ty<900000)
 | true,_=>false
 | false,_=>true
def BL (h:Nat->Option Row) (x v:Nat):Option Row :=
 match h x with
 | some r=>if r.v=v∧r.mp=true∧yt r=true then some r else none
 | none=>none
def CW (d:D) (h:Nat->Option Row) (x v:Nat):Option Row :=
 match d with
 | .mp _ _=>BL h x v
 | _=>live h x v
def content (h:Nat->Option Row):D->Option (Nat×List D)
 | .sl _ _ n xs=>some (n,xs)
 | .buf x v s o n =>
  match live h x v with
  | some r=>if o+n*s<=r.cells.length then some (n,(r.cells.drop o).take (n*s)) else none
  | none=>none
 | _=>none
def eY (h:Nat->Option Row):D->Option (D×List Nat)
 | .int k n=>some (.int k n,[])
 | .bool b=>some (.bool b,[])
 | .str s=>some (.str s,[])
 | .sl a b n xs=>some (.sl a b n xs,[])
 | .buf x v s o n =>
  match live h x v with
  | some r=>if o+n*s<=r.cells.length then some (.sl false false n ((r.cells.drop o).take (n*s)),[x]) else none
  | none=>none
 | _=>none
def gY (h:Nat->Option Row):D->Option (List D×List Nat)
 | .agg xs=>some (xs,[])
 | d =>
  match eY h d with
  | some (a,fr)=>some ([a],fr)
  | none=>none
def bX (h:Nat->Option Row):D->Option (D×List Nat)
 | .ptr x v o =>
  match live h x v with
  | some r=>if o<=r.cells.length then some (.ip (r.cells.drop o),[x]) else none
  | none=>none
 | .agg xs=>some (.agg (xs.map canon),[])
 | .ip xs=>some (.ip xs,[])
 | .fn f=>some (.fn f,[])
 | .box1 x v s o n =>
  match eY h (.buf x v s o n) with
  | some (a,fr)=>some (.agg [canon a],fr)
  | none=>none
 | .mp x v =>
  match ny h x v with
  | some (ks,vs)=>some (.mpc ks vs,[x])
  | none=>none
 | .mpc ks vs=>some (.mpc ks vs,[])
 | .pm x v y =>
  match live h x v with
  | some r =>
   match r.cells with
   | [.alm b c] =>
    if r.fz=true∧r.lst=false∧b=y then
     match ny h y c with
     | some (ks,vs)=>some (.ip [.mpc ks vs],[x,y])
     | none=>none
    else none
   | _=>none
  | none=>none
 | d =>
  match eY h d with
  | some (a,fr)=>some (canon a,fr)
  | none=>none
def eC (h:Nat->Option Row):List D->Option (List D×List Nat)
 | []=>some ([],[])
 | d::c =>
  match bX h d with
  | some (e,fr) =>
   match eC h c with
   | some (a,b)=>some (e::a,fr++b)
   | none=>none
  | none=>none
def cZ (h:Nat->Option Row):D->Option (D×List Nat)
 | .clo f a b =>
  match eC h b with
  | some (c,fr)=>some (.clo f a c,fr)
  | none=>none
 | d=>bX h d
def b9 (h:Nat->Option Row):List D->Option (List D×List Nat)
 | []=>some ([],[])
 | d::c =>
  match cZ h d with
  | some (e,fr) =>
   match b9 h c with
   | some (a,b)=>some (e::a,fr++b)
   | none=>none
  | none=>none
def ym (r:Row):Row :=
 match r.fz with
 | true=>r
 | false=>{ r with fz:=true,lst:=true }
def lh (h:Nat->Option Row) (a:List Nat):List (Nat×Option Row):=a.map fun x=>(x,(h x).map ym)
structure cH where
 val:D
 hw:List (Nat×Option Row)
def aZ (h:Nat->Option Row):List (Nat×Option Row)->Nat->Option Row
 | []=>h
 | (x,r)::l=>aZ (cq h x r) l
def vp (b:Bool) (a:List D):List D:=if b then a.map canon else a
def putCells (cells:List D) (o:Nat) (a:List D):List D:=cells.take o++a++cells.drop (o+a.length)
def mf (τ:Ty) (a:List D):Option D :=
 if τ.ds.we then some (.agg a) else match a with | [d]=>some d|_=>none
def aha (b:Bool):List D->Option D
 | [.ali x v s o n]=>some (if b then .box1 x v s o n else .buf x v s o n)
 | _=>none
def fW (τ:Ty) (h:Nat->Option Row):D->Option cH
 | .ptr x v o =>
  match live h x v with
  | some r=>if o+τ.size<=r.cells.length then (match mf τ ((r.cells.drop o).take τ.size) with|some d=>some ⟨d,[]⟩|none=>none) else none
  | none=>none
 | .ip a=>if τ.size<=a.length then (match mf τ (a.take τ.size) with|some d=>some ⟨d,[]⟩|none=>none) else none
 | _=>none
def vG (τ:Ty) (h:Nat->Option Row) (x v o:Nat):Option Row->Option cH
 | some r =>
  if r.fz && !r.lst then
   if o+τ.size<=r.cells.length then
    match aha τ.ds.we ((r.cells.drop o).take τ.size) with
    | some d=>some ⟨d,[]⟩
    | none=>fW τ h (.ptr x v o)
   else none
  else fW τ h (.ptr x v o)
 | none=>none
def Bm (τ:Ty) (h:Nat->Option Row) (x v y:Nat):Option (Row×Nat×Nat×Nat)->Option cH
 | some (_,a,s,n) =>
  match h y with
  | some r=>if a=y∧y=PK+x∧r.mp=false∧r.lst=true∧r.cells.length=n*s∧τ.size=1 then some ⟨if τ.ds.we then .agg [.sl false false n r.cells] else .sl false false n r.cells,lh h [y]⟩ else none
  | none=>none
 | none=>none
def tY (τ:Ty) (h:Nat->Option Row):D->Option cH
 | .ptr x v o=>vG τ h x v o (live h x v)
 | .pm x v y =>
  match live h x v with
  | some r =>
   match r.cells with
   | [.alm a b]=>if r.fz=true∧r.lst=false∧τ.size=1∧τ.ds.we=false then some ⟨.mp a b,[]⟩ else none
   | _=>none
  | none=>Bm τ h x v y (wB h x v)
 | d=>fW τ h d
def ji (τ:Ty) (h:Nat->Option Row):D->D->Option cH
 | .ptr x v o,d =>
  match live h x v with
  | some r =>
   match gY h d with
   | some (a,b)=>if a.length=τ.size∧o+τ.size<=r.cells.length∧r.fz=false∧b.contains x=false then some ⟨.und,lh h b++[(x,some { r with cells:=putCells r.cells o (vp r.lst a) })]⟩ else none
   | none=>none
  | none=>none
 | _,_=>none
def jh (τ:Ty) (h:Nat->Option Row) (p d:D):Option cH :=
 match d with
 | .box1 y a s b n =>
  match p with
  | .ptr x v o =>
   match live h x v with
   | some r=>if τ.size=1∧o=0∧r.cells.length=1∧r.fz=false∧r.lst=false then some ⟨.und,[(x,some ⟨r.v,r.ty,[.ali y a s b n],true,false,false⟩)]⟩ else none
   | none=>none
  | .pm x v k =>
   match live h x v,live h y a with
   | some r,some q=>if τ.size=1∧b=0∧r.cells.length=1∧r.fz=false∧r.lst=false∧q.fz=false∧q.lst=true∧q.cells.length=n*s∧x≠y∧k=PK+x∧x<PK then
     some ⟨.und,[(y,none),(k,some ⟨0,q.ty,q.cells,false,true,false⟩),(x,some ⟨r.v,r.ty,[.ph k s n],false,false,true⟩)]⟩ else none
   | _,_=>none
  | _=>none
 | .mp c e =>
  match p with
  | .pm x v y =>
   match live h x v with
   | some r=>if τ.size=1∧c=y∧r.cells.length=1∧r.fz=false∧r.lst=false∧(ny h y e).isSome then some ⟨.und,[(x,some ⟨r.v,r.ty,[.alm c e],true,false,false⟩)]⟩ else none
   | none=>none
  | _=>none
 | d=>ji τ h p d
def qM (h:Nat->Option Row):D->Option cH
 | .ptr x v o=>match rY h x v with|some _=>some ⟨.ptr x v o,[]⟩|none=>none
 | .ip xs=>some ⟨.ip xs,[]⟩
 | _=>none
def ia (T:Nat->Option Ty) (τ:Ty) (h:Nat->Option Row) (i:Nat):D->Option cH
 | .ptr x v o =>
  match rY h x v,τ.ds with
  | some _,.struct b=>match b[i]? with
   | some (c,a)=>match T c with|some φ=>if φ.size=0 then none else some ⟨.ptr x v (o+a),[]⟩|none=>none
   | none=>none
  | _,_=>none
 | .pm x v k =>
  match wB h x v,τ.ds with
  | some _,.struct b=>match b[i]? with
   | some (c,0)=>match T c with|some φ=>if φ.size=0 then none else some ⟨.pm x v k,[]⟩|none=>none
   | _=>none
  | _,_=>none
 | .ip d =>
  match τ.ds with
  | .struct b=>match b[i]? with
   | some (c,a)=>match T c with|some φ=>if φ.size=0 then none else some ⟨.ip (d.drop a),[]⟩|none=>none
   | none=>none
  | _=>none
 | _=>none
def X6 (φ:Ty) (b:List D) (a:Nat):Option D :=
 if φ.ds.we then (if a+φ.size<=b.length then some (.agg ((b.drop a).take φ.size)) else none) else b[a]?
def CI (T:Nat->Option Ty) (τ:Ty) (i:Nat):D->Option cH
 | .agg b =>
  match τ.ds with
  | .struct c=>match c[i]? with
   | some (e,a)=>match T e with|some φ=>(match X6 φ b a with|some d=>some ⟨d,[]⟩|none=>none)|none=>none
   | none=>none
  | _=>none
 | _=>none
def df (T:Nat->Option Ty) (τ:Ty) (h:Nat->Option Row):D->D->Option cH
 | .sl _ _ n a,.int _ i =>
  match τ.ds with
  | .slice el=>match T el with|some φ=>if 0<=i∧i<n then some ⟨.ip (a.drop (i.toNat*φ.size)),[]⟩ else none|none=>none
  | _=>none
 | .buf x v s o n,.int _ i =>
  match rY h x v,τ.ds with
  | some _,.slice el=>match T el with|some φ=>if φ.size=s∧0<=i∧i<n then some ⟨.ptr x v (o+i.toNat*s),[]⟩ else none|none=>none
  | _,_=>none
 | .ptr x v o,.int _ i =>
  match live h x v,τ.ds with
  | some _,.arr n el=>match T el with|some φ=>if 0<=i∧i<n then some ⟨.ptr x v (o+i.toNat*φ.size),[]⟩ else none|none=>none
  | _,_=>none
 | _,_=>none
def nR (T:Nat->Option Ty) (τ:Ty):D->D->Option cH
 | .str s,.int _ i =>
  match τ.ds with
  | .str=>if 0<=i then (match s[i.toNat]? with|some b=>some ⟨.int .u8 b.toNat,[]⟩|none=>none) else none
  | _=>none
 | .agg a,.int _ i =>
  match τ.ds with
  | .arr n el=>match T el with|some φ=>if 0<=i∧i<n then (match X6 φ a (i.toNat*φ.size) with|some d=>some ⟨d,[]⟩|none=>none) else none|none=>none
  | _=>none
 | _,_=>none
def ur:D->Option Nat
 | .int _ i=>if 0<=i then some i.toNat else none
 | _=>none
def Bf (n:Nat) (a b:Option D):Option (Nat×Nat) :=
 match (match b with|none=>some n|some d=>ur d),(match a with|none=>some 0|some d=>ur d) with
 | some h,some l=>if l<=h∧h<=n then some (l,h) else none
 | _,_=>none
def jg (T:Nat->Option Ty) (τ:Ty) (h:Nat->Option Row) (x:D) (b a c:Option D):Option cH :=
 match x with
 | .str s =>
  match τ.ds,c,Bf s.size b a with
  | .str,none,some (l,k)=>some ⟨.str (s.extract l k),[]⟩
  | _,_,_=>none
 | .sl nl tight n d =>
  match τ.ds with
  | .slice el =>
   match T el,Bf n b a with
   | some φ,some (l,k) =>
    match c with
    | none=>some ⟨.sl (nl&&tight) (tight&&k==n) (k-l) ((d.drop (l*φ.size)).take ((k-l)*φ.size)),[]⟩
    | some m=>match ur m,a with
     | some m,some _=>if k<=m∧m<=n then some ⟨.sl false (m==k) (k-l) ((d.drop (l*φ.size)).take ((k-l)*φ.size)),[]⟩ else none
     | _,_=>none
   | _,_=>none
  | _=>none
 | .buf y v s o n =>
  match live h y v,τ.ds,c with
  | some _,.slice el,none =>
   match T el,Bf n b a with
   | some φ,some (l,k)=>if φ.size=s∧0<s then some ⟨.buf y v s (o+l*s) (k-l),[]⟩ else none
   | _,_=>none
  | _,_,_=>none
 | _=>none
def kK (h:Nat->Option Row) (a:Nat->Option (Nat×Nat)) (cells:List D):List (Nat×D)->Option (List D×List Nat)
 | []=>some (cells,[])
 | (i,d)::c =>
  match a i,gY h d with
  | some (e,b),some (g,fr) =>
   if g.length=b∧e+b<=cells.length then
    match kK h a (putCells cells e g) c with
    | some (out,f)=>some (out,fr++f)
    | none=>none
   else none
  | _,_=>none
def fieldAt (T:Nat->Option Ty) (b:List (Nat×Nat)) (i:Nat):Option (Nat×Nat) :=
 match b[i]? with
 | some (c,a)=>match T c with|some φ=>some (a,φ.size)|none=>none
 | none=>none
def jf (T:Nat->Option Ty) (τ:Ty) (h:Nat->Option Row) (parts:List (Nat×D)):Option cH :=
 match τ.ds with
 | .struct a =>
  if (a.all fun f=>(T f.1).isSome)&&(τ.zero.map rH).all bE then
   match kK h (fieldAt T a) (τ.zero.map rH) parts with
   | some (cs,fr)=>some ⟨.agg cs,lh h fr⟩
   | none=>none
  else none
 | _=>none
def alive (h:Nat->Option Row):D->Bool
 | .ptr x v _=>(rY h x v).isSome
 | .buf x v _ _ _=>(rY h x v).isSome
 | _=>true
def cE:Option cH->Option cH
 | some ⟨.agg cs,hw⟩=>some ⟨.agg (cs.map canon),hw⟩
 | _=>none
def tW (q:Nat->Bool) (T:Nat->Option Ty) (τ:Ty) (h:Nat->Option Row) (b:Option Nat) (parts:List (Nat×D)):Option cH :=
 match b with
 | some d =>
  if q d then jf T τ h parts else
   match τ.ds,parts with
   | .struct a,[(0,.buf x v s o n)]=>if (alive h (.buf x v s o n))∧(a.all fun f=>(T f.1).isSome)∧fieldAt T a 0=some (0,1)∧τ.zero.length=1 then some ⟨.box1 x v s o n,[]⟩ else none
   | .struct a,[(0,.box1 x v s o n)]=>if (alive h (.buf x v s o n))∧(a.all fun f=>(T f.1).isSome)∧fieldAt T a 0=some (0,1)∧τ.zero.length=1 then some ⟨.box1 x v s o n,[]⟩ else none
   | _,_=>cE (jf T τ h parts)
 | none=>jf T τ h parts
def rf (n:Nat) (a:List D):List D:=(List.replicate n a).flatten
def fu (T:Nat->Option Ty) (τ:Ty) (h:Nat->Option Row) (e d len:Nat) (parts:List (Nat×D)):Option cH :=
 match τ.ds with
 | .slice el =>
  match T el with
  | some φ =>
   if len*φ.size<=16777216∧0<φ.size∧(φ.zero.map rH).all bE=true∧φ.zero.length=φ.size then
    match kK h (fun i=>some (i*φ.size,φ.size)) (rf len (φ.zero.map rH)) parts with
    | some (b,a)=>if a.contains d=false then some ⟨.buf d e φ.size 0 len,lh h a++[(d,some ⟨e,el,b.map canon,false,true,false⟩)]⟩ else none
    | none=>none
   else none
  | none=>none
 | _=>none
def u9 (T:Nat->Option Ty) (τ:Ty) (e d:Nat) (l c:D):Option cH :=
 match τ.ds with
 | .slice el =>
  match T el,ur l,ur c with
  | some φ,some l,some c =>
   if l<=c∧c<=maxLen∧c*φ.bytes<=140737488355328∧0<φ.size∧(φ.zero.map rH).all bE=true∧φ.zero.length=φ.size then
    some ⟨.buf d e φ.size 0 l,[(d,some ⟨e,el,rf l ((φ.zero.map rH).map canon),false,true,false⟩)]⟩
   else none
  | _,_,_=>none
 | _=>none
def lx (T:Nat->Option Ty) (τ:Ty) (h:Nat->Option Row) (e d:Nat) (s x:D):Option cH :=
 match τ.ds with
 | .slice el =>
  match T el,content h x with
  | some φ,some (m,a) =>
   if 0<φ.size∧φ.zero.length=φ.size then
    match s with
    | .sl c tight n b =>
     if tight=true∧n+m<=maxLen∧(n+m)*φ.bytes<=140737488355328∧b.length=n*φ.size∧a.length=m*φ.size then
      if m=0 then some ⟨.sl c tight n b,[]⟩ else some ⟨.buf d e φ.size 0 (n+m),[(d,some ⟨e,el,b++a,false,true,false⟩)]⟩
     else none
    | .buf y v z o n =>
     match live h y v with
     | some r =>
      if z=φ.size∧r.ty=el∧r.fz=false∧o+n*φ.size<=r.cells.length∧n+m<=maxLen∧(n+m)*φ.bytes<=140737488355328∧a.length=m*φ.size then
       some ⟨.buf d e φ.size 0 (n+m),[(y,none),(d,some ⟨e,el,(r.cells.drop o).take (n*φ.size)++a,false,true,false⟩)]⟩
      else none
     | none=>none
    | _=>none
   else none
  | _,_=>none
 | _=>none
def ZQ:D->Option eB
 | .int .i64 n=>some (n,none)
 | .agg [.int .i64 a,.int .i64 b]=>some (a,some b)
 | _=>none
def vf (z:D):List eB->List D->eB->D
 | k::a,v::b,n=>if k=n then v else vf z a b n
 | _,_,_=>z
def BX (a:List eB) (n:eB):List eB:=if a.contains n then a else a++[n]
def Gb (a:List eB) (b:List D) (n:eB) (d:D):List D:=if a.contains n then b.set (a.idxOf n) d else b++[d]
def zo (T:Nat->Option Ty) (κ:Ty):Option Bool :=
 match κ.ds with
 | .int .i64=>some false
 | .struct [(a,0),(b,1)]=>match T a,T b with
  | some α,some β=>match α.ds,β.ds with
   | .int .i64,.int .i64=>if κ.eqok then some true else none
   | _,_=>none
  | _,_=>none
 | _=>none
def Iw (T:Nat->Option Ty) (τ:Ty):Option (Bool×Ty) :=
 match τ.ds with
 | .map k el=>match T k,T el with
  | some κ,some φ=>match zo T κ with|some b=>some (b,φ)|none=>none
  | _,_=>none
 | _=>none
def qL (T:Nat->Option Ty) (a:Nat) (τ:Ty) (e d:Nat):Option cH :=
 match Iw T τ with
 | some _=>if 900000<=a then none else some ⟨.mp d e,[(d,some ⟨e,a,[.mpc [] []],false,true,true⟩)]⟩
 | none=>none
def mapOf (h:Nat->Option Row):D->Option (List eB×List D)
 | .mp x v=>ny h x v
 | .mpc ks vs=>some (ks,vs)
 | _=>none
def vX (b:Bool) (n:eB) (a:List eB):Bool:=KD n==b&&a.all fun k=>KD k==b
def jE (T:Nat->Option Ty) (τ:Ty) (h:Nat->Option Row) (m i:D) (d:Bool):Option cH :=
 match Iw T τ,mapOf h m,ZQ i with
 | some (b,φ),some (a,c),some n =>
  match mf φ (φ.zero.map rH) with
  | some z=>if vX b n a=true∧(φ.zero.map rH).all bE=true then some ⟨if d then .tup [vf (kp z) a c n,.bool (a.contains n)] else vf (kp z) a c n,[]⟩ else none
  | none=>none
 | _,_,_=>none
def AN (h:Nat->Option Row):D->Option (D×List Nat)
 | .agg xs=>some (.agg (xs.map canon),[])
 | d =>
  match eY h d with
  | some (a,fr)=>some (canon a,fr)
  | none=>none
def eZ (T:Nat->Option Ty) (τ:Ty) (h:Nat->Option Row) (m i x:D):Option cH :=
 match Iw T τ,m,ZQ i,AN h x with
 | some (b,_),.mp y v,some n,some (d,c) =>
  match h y with
  | some r =>
   match ny h y v with
   | some (a,e)=>if vX b n a=true∧r.fz=false∧c.contains y=false then some ⟨.und,lh h c++[(y,some ⟨r.v,r.ty,[.mpc (BX a n) (Gb a e n d)],false,true,true⟩)]⟩ else none
   | none=>none
  | none=>none
 | _,_,_,_=>none
def eqC:D->D->Option Bool
 | .int k a,.int c b=>if k=c then some (a==b) else none
 | .bool a,.bool b=>some (a==b)
 | .str a,.str b=>some (a==b)
 | _,_=>none
def eqL:List D->List D->Option Bool
 | [],[]=>some true
 | x::c,y::d=>match eqC x y,eqL c d with|some a,some b=>some (a&&b)|_,_=>none
 | _,_=>none
def Tv:Ds->Bool
 | .int _ | .bool | .str=>true
 | _=>false
def kindOk:Ds->D->Bool
 | .int _,.int _ _=>true
 | .bool,.bool _=>true
 | .str,.str _=>true
 | _,_=>false
def oG (T:Nat->Option Ty):Nat->List (Nat×Nat)->List D->Bool
 | _,[],[]=>true
 | o,(a,off)::b,x::c=>off==o&&(match T a with|some φ=>kindOk φ.ds x|none=>false)&&oG T (o+1) b c
 | _,_,_=>false
def afA (a tight:Bool) (n:Nat):Option Bool:=if 0<n then some false else if a then some tight else none
def eqD (T:Nat->Option Ty) (τ:Ty):D->D->Option Bool
 | .bool a,.bool b=>match τ.ds with | .bool=>some (a==b)|_=>none
 | .sl d tight n _,.sl true true 0 []=>match τ.ds with | .slice _=>afA d tight n|_=>none
 | .agg c,.agg e =>
  match τ.ds with
  | .struct f=>if τ.eqok&&oG T 0 f c then eqL c e else none
  | _=>none
 | _,_=>none
def GY (c:BinOp) (k:IntKind) (x y:Int):Int :=
 let a:=BitVec.ofInt k.bits x
 let b:=BitVec.ofInt k.bits y
 match c with
 | .and=>k.wrap (a &&& b).toNat
 | .or=>k.wrap (a ||| b).toNat
 | .xor=>k.wrap (a ^^^ b).toNat
 | _=>k.wrap (a &&& ~~~b).toNat
def j0 (a:BinOp) (k:IntKind) (x y:Int):Option D :=
 match a with
 | .add=>some (.int k (k.wrap (x+y)))
 | .sub=>some (.int k (k.wrap (x-y)))
 | .mul=>some (.int k (k.wrap (x*y)))
 | .quo=>if y=0 then none else some (.int k (k.wrap (x.tdiv y)))
 | .rem=>if y=0 then none else some (.int k (x.tmod y))
 | .and=>some (.int k (GY .and k x y))
 | .or=>some (.int k (GY .or k x y))
 | .xor=>some (.int k (GY .xor k x y))
 | .andNot=>some (.int k (GY .andNot k x y))
 | .eql=>some (.bool (x==y))
 | .neq=>some (.bool (x != y))
 | .lss=>some (.bool (x<y))
 | .leq=>some (.bool (x<=y))
 | .gtr=>some (.bool (x>y))
 | .geq=>some (.bool (x>=y))
 | _=>none
def KC (a:BinOp) (x y:ByteArray):Option D :=
 match a with
 | .add=>if ((x.size+y.size:Nat):Int)>IntKind.i64.max then none else some (.str (x++y))
 | .eql=>some (.bool (x.toList==y.toList))
 | .neq=>some (.bool !(x.toList==y.toList))
 | .lss=>some (.bool (Op.bytesLess x.toList y.toList))
 | .leq=>some (.bool (Op.bytesLess x.toList y.toList||x.toList==y.toList))
 | .gtr=>some (.bool !(Op.bytesLess x.toList y.toList||x.toList==y.toList))
 | .geq=>some (.bool !Op.bytesLess x.toList y.toList)
 | _=>none
def B0 (a:BinOp) (k:IntKind) (x y:Int):Option D :=
 if y<0 then none else
 match a with
 | .shl=>some (.int k (k.wrap (x*2 ^ (min y.toNat k.bits))))
 | .shr=>some (.int k (x.fdiv (2 ^ (min y.toNat k.bits))))
 | _=>none
def ou:BinOp->Bool
 | .shl | .shr=>true
 | _=>false
def GX (T:Nat->Option Ty) (e:Nat) (d:BinOp) (a b:D):Option D :=
 match a,b with
 | .int k x,.int f y=>if ou d then B0 d k x y else if k=f then j0 d k x y else none
 | .str x,.str y=>KC d x y
 | a,b =>
  match T e with
  | some τ =>
   match d with
   | .eql=>match eqD T τ a b with|some c=>some (.bool c)|none=>none
   | .neq=>match eqD T τ a b with|some c=>some (.bool !c)|none=>none
   | _=>none
  | none=>none
def unD (a:UnOp):D->Option D
 | .int k n=>match a with
  | .neg=>some (.int k (k.wrap (0-n)))
  | .xor=>some (.int k (GY .xor k (if k.signed then -1 else k.max) n))
  | _=>none
 | .bool b=>match a with | .not=>some (.bool !b)|_=>none
 | _=>none
mutual
def kv:D->Bool
 | .int _ _ | .bool _ | .str _=>true
 | .agg xs | .tup xs=>uf xs
 | _=>false
def uf:List D->Bool
 | []=>true
 | x::xs=>kv x&&uf xs
end
def F3:D->Option Nat
 | .str s=>some s.size
 | .sl _ _ n _=>some n
 | .buf _ _ _ _ n=>some n
 | _=>none
def BO (f:Int->Int->Int) (k:IntKind):Int->List D->Option Int
 | x,[]=>some x
 | x,.int a y::r=>if k=a then BO f k (f x y) r else none
 | _,_=>none
def fF (T:Nat->Option Ty) (h:Nat->Option Row) (e:Nat) (c:Option Nat) (b:Builtin) (f:List Nat) (a:List D):Option cH :=
 match b,f,a with
 | .len,t::_,[x] =>
  if alive h x then
   match T t,F3 x with
   | some τ,some n=>match τ.ds,x with
    | .str,.str _=>some ⟨.int .i64 n,[]⟩
    | .slice _,.sl _ _ _ _=>some ⟨.int .i64 n,[]⟩
    | .slice _,.buf _ _ _ _ _=>some ⟨.int .i64 n,[]⟩
    | _,_=>none
   | some τ,none=>match τ.ds,mapOf h x with
    | .map _ _,some (g,_)=>some ⟨.int .i64 (g.length:Nat),[]⟩
    | _,_=>none
   | _,_=>none
  else none
 | .append,[t,i],[s,x] =>
  if t=i then
   match T t,c with
   | some τ,some d=>lx T τ h e d s x
   | _,_=>none
  else none
 | .max,_,.int k x::r=>match BO (fun x y=>if y>x then y else x) k x r with|some z=>some ⟨.int k z,[]⟩|none=>none
 | .min,_,.int k x::r=>match BO (fun x y=>if y<x then y else x) k x r with|some z=>some ⟨.int k z,[]⟩|none=>none
 | _,_,_=>none
def vl:D->Bool
 | .buf _ _ _ _ _ | .clo _ _ _ | .und | .skp | .box1 _ _ _ _ _=>false
 | _=>true
inductive RK where
 | clean (d:D)
 | same (s o n:Nat)
 | fresh (ty s n:Nat) (cells:List D)
structure Grow where
 ty:Nat
 k:Nat
 bytes:Nat
 sem:List D->List D->Option (List D)
def IB (a b:Nat) (c:Bool):Option D->Option Row
 | some (.nx n xs)=>some ⟨b,a,xs,c,true,false⟩
 | _=>none
def Mv (a:Bool) (o:Nat):List D->Option Row
 | [.nr ty s nv cs]=>IB ty nv a (cs.drop o).head?
 | _=>none
def vk (r:Row) (o:Nat):Option Row:=if r.mp then Mv r.fz o r.cells else none
def gN:D->Bool
 | .int _ _ | .bool _ | .str _ | .sl _ _ _ _=>true
 | _=>false
def wO (y s o:Nat):D->D
 | .nx n _ =>.ph (NK y o) s n
 | d=>if gN d then d else .und
def mo {y s o:Nat} {d:D} (h:gN d=true):wO y s o d=d:=by
 cases d<;>first|rfl|cases h
def uK {y s o x a n:Nat} {d:D} (h:wO y s o d=.ph x a n):∃b,d=.nx n b∧x=NK y o∧a=s:=by
 cases d<;>simp[wO,gN]at h;simp_all
def oA (y s o:Nat) (d:D):phC (wO y s o d)=true:=by
 cases d<;>rfl
def skL (y:Nat):List D->List D
 | [.nr ty s nv cs]=>cs.mapIdx (wO y s)
 | cs=>cs
def Gs (y:Nat) (r:Row):Row:=if r.mp then { r with cells:=skL y r.cells } else r
def ltB (a b:Nat):Decidable (a<b):=@Eq.rec Prop (¬b<=a) (fun p _=>Decidable p) instDecidableNot (a<b) (propext Nat.not_le)
def EH (h:Nat->Option Row) (k:Nat):Option Row:=@ite _ (k<2*PK) (ltB k (2*PK)) ((h k).map (Gs k)) ((h (k % PK)).bind fun r=>vk r (k / PK-2))
def rt (k:Nat):Nat:=if k<2*PK then k else k % PK
structure akz where
 lnd:Nat->Option (Nat×(Nat->Nat->Nat->Nat->List D->List D->Option (D×List D))):=fun _=>none
 res:Nat->Option (List D->Option (Nat×Nat×Nat×Nat×Nat×List D)):=fun _=>none
structure Env where
 lends:Nat->Bool
 sem:Nat->Option (D×Row)->List D->Option (RK×Option Row)
 own:Nat->Bool
 hint:Nat->Option Nat:=fun _=>none
 ins:Nat->Option (Nat×Nat×Nat):=fun _=>none
 grw:Nat->Option Grow:=fun _=>none
 nst:Nat->Option (Nat×Nat×Nat):=fun _=>none
 nx:akz:={}
def yI (Γ:Env) (h:Nat->Option Row) (e:Nat) (b:Option Nat) (g:Nat) (a:List D):Option cH :=
 match b9 h a with
 | some (c,f) =>
  match Γ.sem g none c with
  | some (.clean r,_)=>some ⟨r,if kv r then [] else lh h f⟩
  | some (.fresh i s n cells,_) =>
   match b with
   | some d=>if f.contains d=false then some ⟨.buf d e s 0 n,(if uf cells then [] else lh h f)++[(d,some ⟨e,i,cells,false,true,false⟩)]⟩ else none
   | none=>none
  | _=>none
 | none=>none
def tT (Γ:Env) (h:Nat->Option Row) (e:Nat) (f:Option Nat) (g x v:Nat) (d0:D) (a:List D):Option cH :=
 match CW d0 h x v with
 | some r =>
  if r.fz=false then
   match b9 h a with
   | some (alj,b) =>
    if b.contains x=false then
     match Γ.sem g (some (d0,{ r with v:=0 })) alj with
     | some (.clean c,some i)=>some ⟨c,lh h b++[(x,some { i with v:=v })]⟩
     | some (.same s o n,some i)=>some ⟨.buf x v s o n,lh h b++[(x,some { i with v:=v })]⟩
     | some (.fresh j s n cells,none) =>
      match f with
      | some d=>if b.contains d=false then some ⟨.buf d e s 0 n,lh h b++[(x,none),(d,some ⟨e,j,cells,false,true,false⟩)]⟩ else none
      | none=>none
     | _=>none
    else none
   | none=>none
  else none
 | none=>none
def AO (h:Nat->Option Row) (p:Grow) (a:List D):Option cH :=
 match a with
 | .pm y v k::b =>
  match wB h y v,h k with
  | some (c,d,s,n),some r =>
   if d=k∧k=PK+y∧y<PK∧c.fz=false∧r.mp=false∧r.fz=false∧r.lst=true∧s=p.k∧r.ty=p.ty∧r.cells.length=n*p.k∧(n+1)*p.bytes<=140737488355328 then
    match p.sem r.cells b with
    | some cs=>some ⟨.int .i64 (n:Int),[(k,some ⟨r.v,p.ty,r.cells++cs,false,true,false⟩),(y,some ⟨c.v,c.ty,[.ph k p.k (n+1)],false,false,true⟩)]⟩
    | none=>none
   else none
  | _,_=>none
 | _=>none
def xX (h:Nat->Option Row) (e:Nat) (c:Option Nat) (p:Nat×Nat×Nat) (a:List D):Option cH :=
 match a with
 | [.buf x v s o n,.int .i64 i,.buf y f g j m] =>
  match live h x v,live h y f,c with
  | some r,some b,some d =>
   if r.fz=false∧b.fz=false∧r.lst=true∧b.lst=true∧x≠y∧s=p.2.1∧g=p.2.1∧r.ty=p.1∧b.ty=p.1∧o=0∧j=0∧r.cells.length=n*p.2.1∧b.cells.length=m*p.2.1∧0<=i∧i<=n∧0<m∧(n+m)*p.2.2<=140737488355328 then
    some ⟨.buf d e p.2.1 0 (n+m),[(y,none),(x,none),(d,some ⟨e,p.1,r.cells.take (i.toNat*p.2.1)++(b.cells++r.cells.drop (i.toNat*p.2.1)),false,true,false⟩)]⟩
   else none
  | _,_,_=>none
 | _=>none
def ki (Γ:Env) (h:Nat->Option Row) (e:Nat) (b:Option Nat) (f:D) (a:List D):Option cH :=
 match f with
 | .fn g =>
  match Γ.ins g with
  | some p=>xX h e b p a
  | none =>
  match Γ.grw g with
  | some p=>AO h p a
  | none =>
  if Γ.lends g then
   match a with
   | .buf x v s o n::rest=>tT Γ h e b g x v (.buf 0 0 s o n) rest
   | .ptr x v o::rest=>tT Γ h e b g x v (.ptr 0 0 o) rest
   | .mp x v::rest=>tT Γ h e b g x v (.mp 0 0) rest
   | _=>none
  else yI Γ h e b g a
 | .clo g d c=>if c.all vl then yI Γ h e b g (c.take d++(a++c.drop d)) else none
 | _=>none
def dH (T:Nat->Option Ty) (b e:Nat) (a:Option Nat) (h:Nat->Option Row) (x:D):Option cH :=
 match x with
 | .buf y v s o n =>
  match a,live h y v with
  | some d,some r=>if r.fz then some ⟨.buf y v s o n,[]⟩ else some ⟨.buf d e s o n,[(y,none),(d,some { r with v:=e })]⟩
  | _,_=>if (rY h y v).isSome then some ⟨.buf y v s o n,[]⟩ else some ⟨.und,[]⟩
 | .sl true true 0 [] =>
  match a,T b with
  | some d,some τ =>
   match τ.ds with
   | .slice el=>match T el with|some φ=>some ⟨.buf d e φ.size 0 0,[(d,some ⟨e,el,[],false,true,false⟩)]⟩|none=>none
   | _=>none
  | _,_=>none
 | x=>some ⟨x,[]⟩
def tU (h:Nat->Option Row):D->Option (D×List Nat)
 | .agg xs=>some (.agg xs,[])
 | d=>eY h d
def pO (h:Nat->Option Row) (x:D):Option cH :=
 match tU h x with
 | some (a,fr)=>some ⟨kp a,lh h fr⟩
 | none=>none
def vF (T:Nat->Option Ty) (q:Nat->Bool) (b e:Nat) (a:Option Nat) (h:Nat->Option Row) (x:D):Option cH :=
 match a with
 | some d=>if q d then dH T b e (some d) h x else pO h x
 | none=>dH T b e none h x
def uO (T:Nat->Option Ty) (Γ:Env) (e:Nat) (o:Oper) (g:Operand->D) (h:Nat->Option Row):Option cH :=
 match o.op with
 | .move x=>some ⟨g x,[]⟩
 | .assign x=>vF T Γ.own o.type e o.dst h (g x)
 | .pick c a b=>match g c with | .bool true=>some ⟨g a,[]⟩ | .bool false=>some ⟨g b,[]⟩|_=>none
 | .alloc j=>match T j,o.dst with
  | some τ,some d=>if (τ.zero.map rH).all bE then some ⟨match Γ.hint d with|some y =>.pm d e y|none =>.ptr d e 0,[(d,some ⟨e,j,τ.zero.map rH,false,false,false⟩)]⟩ else none
  | _,_=>none
 | .box j x=>match o.dst,gY h (g x) with
  | some d,some (u,s)=>if s.contains d=false then some ⟨.ptr d e 0,lh h s++[(d,some ⟨e,j,u,false,false,false⟩)]⟩ else none
  | _,_=>none
 | .load j p=>match T j with|some τ=>tY τ h (g p)|none=>none
 | .store j p x=>match T j with|some τ=>jh τ h (g p) (g x)|none=>none
 | .nilCheck x=>qM h (g x)
 | .fieldAddr j x i=>match T j with|some τ=>ia T τ h i (g x)|none=>none
 | .field j x i=>match T j with|some τ=>CI T τ i (g x)|none=>none
 | .indexAddr j x i=>match T j with|some τ=>df T τ h (g x) (g i)|none=>none
 | .index j x i=>match T j with|some τ=>nR T τ (g x) (g i)|none=>none
 | .slice j x v w z=>match T j with|some τ=>jg T τ h (g x) (v.map g) (w.map g) (z.map g)|none=>none
 | .build j parts=>match T j with|some τ=>tW Γ.own T τ h o.dst (parts.toList.map fun p=>(p.1,g p.2))|none=>none
 | .buildSlice j len parts=>match T j,o.dst with|some τ,some d=>fu T τ h e d len (parts.toList.map fun p=>(p.1,g p.2))|_,_=>none
 | .makeSlice j l c=>match T j,o.dst with|some τ,some d=>u9 T τ e d (g l) (g c)|_,_=>none
 | .binOp q j x y _=>match GX T j q (g x) (g y) with|some d=>some ⟨d,[]⟩|none=>none
 | .unOp q _ x=>match unD q (g x) with|some d=>some ⟨d,[]⟩|none=>none
 | .convert src r x=>match T r,T src,g x with
  | some τ,some _,.int _ n=>(match τ.ds with | .int k=>some ⟨.int k (k.wrap n),[]⟩|_=>none)
  | _,_,_=>none
 | .makeFunc A first caps=>match A with | .func f=>if (first.toList.map g++caps.toList.map g).all vl then some ⟨.clo f first.size (first.toList.map g++caps.toList.map g),[]⟩ else none|_=>none
 | .makeMap j none=>match T j,o.dst with|some τ,some d=>qL T j τ e d|_,_=>none
 | .lookup j m i B=>match T j with|some τ=>jE T τ h (g m) (g i) B|none=>none
 | .insert j m i x=>match T j with|some τ=>eZ T τ h (g m) (g i) (g x)|none=>none
 | .mapUpdate j m i x=>match T j with|some τ=>eZ T τ h (g m) (g i) (g x)|none=>none
 | .extract t i=>match g t with | .tup C=>(match C[i]? with|some d=>some ⟨d,[]⟩|none=>none)|_=>none
 | .call c=>match c.callee with
  | .value f=>ki Γ h e o.dst (g f) (c.args.toList.map g)
  | .builtin b=>fF T h e o.dst b c.argTypes.toList (c.args.toList.map g)
  | _=>none
 | _=>none
def jm (o:Oper) (a:Operand->D):List Nat :=
 match o.op with
 | .move _ | .pick _ _ _=>[]
 | .makeFunc _ _ _=>[]
 | op=>(op.operands.toList.flatMap fun x=>nm (a x))++o.dst.toList
def ay {α:Type} (f:Nat->α) (i:Nat) (v:α):cq f i v i=v:=by simp[cq]
def aD {α:Type} (f:Nat->α) {i j:Nat} (v:α) (h:j≠i):cq f i v j=f j:=by simp[cq,h]
def aep {α:Type} (f:Nat->α) {i j:Nat} (v u:α) (h:i≠j):cq (cq f i v) j u=cq (cq f j u) i v:=by
 funext k;unfold cq;grind
def RP.tw {w:World} {M:Nat->Prop} {d:D} {u:Value} (h:RP w M d u) (a:bE d=true):u.oneCell'=true:=by
 cases h<;>simp_all [bE,Value.oneCell']
def RP.cells {w:World} {M:Nat->Prop} {d:D} {u:Value} (h:RP w M d u) (a:bE d=true):u.cells = #[u]:=by
 cases h with
 | ali x v s o n u h1=>cases u<;>simp_all [Value.oneCell',Value.cells]
 | alm x v u h1=>cases u<;>simp_all [Value.oneCell',Value.cells]
 | _=>simp_all [bE,Value.cells]
def ca {w:World} {M:Nat->Prop} {h:Nat->Option Row} {blk:Nat->Option (Nat×Nat)} {V:Nat->Nat->Prop} {d:D} {u:Value} (a:RP w M d u):RT w M h blk V d u:=by
 cases a with
 | int k n=>exact .int k n
 | bool b=>exact .bool b
 | str s=>exact .str s
 | sl A c nl tight n xs us h1 h2 h3 h4 h5 h6 h7 h8=>exact .sl A c nl tight n xs us h1 h2 h3 h4 h5 h6 h7 h8
 | ip xs ad us h6 h7 h8=>exact .ip xs ad us h6 h7 h8
 | agg xs us h1 h2 h3=>exact .agg xs us h1 h2 h3
 | tup xs us h1 h2=>exact .tup xs us h1 h2
 | fn f=>exact .fn f
 | ali x v s o n u h1=>exact .ali x v s o n u h1
 | mpc ks vs mb us h1 h2 h3 h4=>exact .mpc ks vs mb us h1 h2 h3 h4
 | alm x v u h1=>exact .alm x v u h1
 | clo f g xs us h1 h2 =>
  refine⟨us,rfl,h1,fun j x e =>?_⟩;have:=h2 j x e;cases x with
  | ptr x v o=>cases this
  | mp x v=>cases this
  | pm x v y=>cases this
  | _=>exact this
def abe (w:World) (M:Nat->Prop) (h:Nat->Option Row) (blk:Nat->Option (Nat×Nat)) (V:Nat->Nat->Prop) (v:Value):RT w M h blk V (rH v) v:=by
 unfold rH;split
 ·exact .int _ _
 ·exact .bool _
 ·exact .str _
 ·exact .sl none 0 true true 0 [] (fun _=>undef) (alq _) (alr _) (fun _=>⟨fun _=>⟨rfl,rfl⟩,fun h=>by cases h⟩) (fun _=>⟨rfl,rfl⟩) (fun _=>rfl) (fun h=>absurd rfl h) (fun j x a=>by simp at a) (fun x a=>by simp at a)
 ·exact .mpc [] [] none (fun _=>undef) rfl (fun _=>rfl) (fun b c=>by cases c) (fun j x d=>by simp at d)
 ·trivial
structure KI (w w':World) (M M':Nat->Prop) (h h':Nat->Option Row) (blk blk':Nat->Option (Nat×Nat)) (V V':Nat->Nat->Prop):Prop where
 hk:∀b,b<w.heap.size->¬M b->b<w'.heap.size∧¬M' b∧w'.heap[b]? = w.heap[b]?
 hV:∀x v,V x v->V' x v
 hrow:∀x v,V x v->∀r',h' x=some r'->r'.v=v->(∃r,h x=some r∧r.v=v)∧blk' x=blk x∧∀g,blk x=some g->w'.shape? g.1=w.shape? g.1
def RC.mono {w l:World} {M m:Nat->Prop} {h n:Nat->Option Row} {blk b:Nat->Option (Nat×Nat)} {V p:Nat->Nat->Prop} (k:KI w l M m h n blk b V p) {d:D} {u:Value}
  (a:RC w M h blk V d u):RC l m n b p d u:=by
 cases d with
 | ptr x v o =>
  refine⟨k.hV _ _ a.1,fun c e f =>?_⟩;obtain⟨⟨r,g,i⟩,j,_⟩:=k.hrow x v a.1 c e f;rw[j];exact a.2 r g i
 | mp x v =>
  refine⟨k.hV _ _ a.1,fun c e f =>?_⟩;obtain⟨⟨r,g,i⟩,j,_⟩:=k.hrow x v a.1 c e f;rw[j];exact a.2 r g i
 | pm x v y =>
  refine⟨k.hV _ _ a.1,fun c e f =>?_⟩;obtain⟨⟨r,g,i⟩,j,_⟩:=k.hrow x v a.1 c e f;rw[j];exact a.2 r g i
 | _=>exact RP.keep k.hk a
def RT.mono {w A:World} {M B:Nat->Prop} {h C:Nat->Option Row} {blk b:Nat->Option (Nat×Nat)} {V E:Nat->Nat->Prop} (k:KI w A M B h C blk b V E) {d:D} {u:Value}
  (a:RT w M h blk V d u):RT A B C b E d u:=by
 cases d with
 | ptr x v o=>exact RC.mono (d := .ptr x v o) k a
 | mp x v=>exact RC.mono (d := .mp x v) k a
 | pm x v y=>exact RC.mono (d := .pm x v y) k a
 | buf x v s o n =>
  refine⟨k.hV _ _ a.1,fun m e i =>?_⟩;obtain⟨⟨r,l,p⟩,q,F⟩:=k.hrow x v a.1 m e i;rw[q];rcases a.2 r l p with⟨g,G,c,N,t,H,I,J,K,L,O⟩|z
  ·grind
  ·exact .inr z
 | clo f U xs =>
  obtain⟨P,e,i,l⟩:=a;exact⟨P,e,i,fun j x Q=>(l j x Q).mono k⟩
 | box1 x v s o n =>
  obtain⟨R,S,T,a⟩:=a;refine⟨R,S,T,k.hV _ _ a.1,fun m e i =>?_⟩;obtain⟨⟨r,l,p⟩,q,F⟩:=k.hrow x v a.1 m e i;rw[q];rcases a.2 r l p with⟨g,G,c,N,t,H,I,J,K,L,O⟩|z
  ·simp_all
  ·exact .inr z
 | und=>trivial
 | skp=>exact a
 | _=>exact RP.keep k.hk a
def du {w a:World} {b:Nat} (h:a.heap[b]? = w.heap[b]?):a.shape? b=w.shape? b:=by simp[World.shape?,h]
def eV.refl (L:Nat->Prop) (w:World):eV L w w:=⟨rfl,rfl,rfl,alq _,fun _ _ _=>rfl⟩
def eV.trans {L L':Nat->Prop} {a b c:World} (h:eV L a b) (k:eV L' b c) (e:∀x,L' x->x<a.heap.size->L x):eV L a c :=
 ⟨k.os.trans h.os,k.tape.trans h.tape,k.output.trans h.output,als h.size k.size,fun i d hn=>(k.block i (alu d h.size) (fun f=>hn (e i f d))).trans (h.block i d hn)⟩
def eV.wF {L:Nat->Prop} {w a:World} (h:Below w.heap.size w a):eV L w a:=⟨h.os,h.tape,h.output,h.size,fun k b _=>h.block k b⟩
def eV.below {L:Nat->Prop} {w a:World} (h:eV L w a) (c:∀b,¬L b):Below w.heap.size w a:=⟨h.os,h.tape,h.output,h.size,fun k d=>h.block k d (c k)⟩
def aa9.keep {w a:World} {M c:Nat->Prop} {g:Nat×Nat} {r:Row} (h:aa9 w M g r) (i:a.heap[g.1]? = w.heap[g.1]?) (k:∀b,b<w.heap.size->¬M b->b<a.heap.size∧¬c b∧a.heap[b]? = w.heap[b]?):aa9 a c g r:=by
 obtain⟨l,m,n,e⟩:=h;exact⟨l,i.trans m,n,fun j d f=>⟨(e j d f).1,(e j d f).2.keep k⟩⟩
def Cg.keep {w f:World} {M v:Nat->Prop} {g:Nat×Nat} {r r':Row} (h:Cg w M g r) (z:r'.cells=r.cells) (i:r'.ty=r.ty) (y:f.heap[g.1]? = w.heap[g.1]?) (k:∀b,b<w.heap.size->¬M b->b<f.heap.size∧¬v b∧f.heap[b]? = w.heap[b]?):Cg f v g r':=by
 obtain⟨A,B,C,D,E,F⟩:=h;refine⟨A,B,z.trans C,D,fun q =>?_,fun q =>?_⟩
 ·obtain⟨d,a,m,n,e,o,p,s⟩:=E (i ▸ q);exact⟨d,a,y.trans m,n,e,o,p,fun j x t=>(s j x t).keep k⟩
 ·rw[i];obtain⟨u,b,d,a,seen,c,l,o,m,n,p,s,e,G,H,I,J,K,L,N,O⟩:=F (i ▸ q);obtain⟨P,Q,R⟩:=k b n p;exact⟨u,b,d,a,seen,c,l,o,y.trans m,P,Q,R.trans s,e,G,H,I,J,K,L,N,fun j x t=>(O j x t).keep k⟩
def GJ.keep {w a:World} {M c:Nat->Prop} {d:D} {u:Value} (h:GJ w M d u) (e:∀b,b<w.heap.size->¬M b->b<a.heap.size∧¬c b∧a.heap[b]? = w.heap[b]?):GJ a c d u:=by
 cases d with
 | ph _ _ _=>trivial
 | und=>trivial
 | _=>exact RP.keep e h
def GK.keep {w a:World} {M c:Nat->Prop} {g:Nat×Nat} {r r':Row} (h:GK w M g r) (e:r'.cells=r.cells) (n:r'.ty=r.ty) (o:a.heap[g.1]? = w.heap[g.1]?) (f:∀b,b<w.heap.size->¬M b->b<a.heap.size∧¬c b∧a.heap[b]? = w.heap[b]?):GK a c g r':=by
 obtain⟨i,k,p,l,m⟩:=h;exact⟨by rw[e];exact i,k,by simp_all,by rw[e];exact l,fun j d q=>(m j d (by simp_all)).keep f⟩
def fh.keep {w c:World} {M k:Nat->Prop} {g:Nat×Nat} {r r':Row} (h:fh w M g r) (e:r'.cells=r.cells) (l:r'.ty=r.ty) (o:r'.mp=r.mp) (m:c.heap[g.1]? = w.heap[g.1]?) (f:∀b,b<w.heap.size->¬M b->b<c.heap.size∧¬k b∧c.heap[b]? = w.heap[b]?):fh c k g r':=by
 unfold fh at h ⊢;rw[o];cases a:r.mp with
 | true =>
  rw[a]at h;rcases h with h|h
  ·exact .inl (Cg.keep h e l m f)
  ·exact .inr (GK.keep h e l m f)
 | false =>
  rw[a]at h;obtain⟨p,s,q,n⟩:=h;refine⟨p,by simp_all,by rw[e];exact q,fun j d i =>?_⟩;rw[e]at i;exact⟨(n j d i).1,(n j d i).2.keep f⟩
def fh.heap {w:World} {M:Nat->Prop} {g:Nat×Nat} {r:Row} (h:fh w M g r):g.1<w.heap.size:=by
 unfold fh at h;cases d:r.mp with
 | true =>
  rw[d]at h;rcases h with⟨m,n,_,_,i,j⟩|⟨_,k,f,_⟩
  ·by_cases q:r.ty<900000
   ·obtain⟨e,a,f,_⟩:=i q;grind
   ·obtain⟨_,b,e,a,seen,c,l,o,f,_⟩:=j (by omega);grind
  grind
 | false=>rw[d]at h;obtain⟨k,f,_⟩:=h;grind
def PhR.mono {w w':World} {h d:Nat->Option Row} {blk a:Nat->Option (Nat×Nat)} {x s n:Nat} {u:Value} (k:PhR w h blk x s n u) (e:∀b,d x=some b->(∃r,h x=some r)∧a x=blk x∧∀g,blk x=some g->w'.shape? g.1=w.shape? g.1):PhR w' d a x s n u:=by
 intro b f;obtain⟨⟨r,i⟩,j,m⟩:=e b f;rw[j];rcases k r i with⟨g,c,o,p,q,t,v,y,z,A⟩|l
 ·simp_all
 ·exact .inr l
def Wu.keep {L:Nat->Prop} {w0 w w':World} {M a:Nat->Prop} {g:Option (Nat×Nat)} {r:Row} (h:Wu L w0 w M g r) (c:∀b,g=some b->w'.heap[b.1]? = w.heap[b.1]?) (d:∀b,b<w.heap.size->¬M b->b<w'.heap.size∧¬a b∧w'.heap[b]? = w.heap[b]?):Wu L w0 w' a g r:=by
 cases g with
 | none=>exact h
 | some g=>exact⟨h.1,h.2.keep rfl rfl rfl (c g rfl) d⟩
section
variable {N:Nat} {M:Nat->Prop} {L:lG} {w0:World} {blk:Nat->Option (Nat×Nat)} {V:Nat->Nat->Prop} {t:Nat->D} {h:Nat->Option Row} {a:Act} {w:World}
def Inv.ev (b:Inv N M L w0 blk V t h a w) (x:Operand):RT w (Own M h blk) h blk V (ev t x) (a.eval x):=by
 cases x with
 | tmp i=>exact b.slots i
 | const v=>exact abe _ _ _ _ _ v
 | global g=>trivial
 | func f=>exact RP.fn f
def Inv.Iq (b:Inv N M L w0 blk V t h a w) {x:Nat} {r:Row} {g:Nat×Nat} (c:h x=some r) (d:blk x=some g) (e:r.mp=false):aa9 w (Own M h blk) g r:=by
 have:=(b.rows x r c).2;rw[d]at this;have:=this.2;unfold fh at this;simp_all
def Inv.rowIs (b:Inv N M L w0 blk V t h a w) {x:Nat} {r:Row} {g:Nat×Nat} (c:h x=some r) (d:blk x=some g):fh w (Own M h blk) g r:=by
 have:=(b.rows x r c).2;rw[d]at this;exact this.2
def Inv.base (b:Inv N M L w0 blk V t h a w) {x:Nat} {r:Row} {g:Nat×Nat} (c:h x=some r) (d:blk x=some g):w0.heap.size<=g.1∨LB L g.1:=by
 have:=(b.rows x r c).2;rw[d]at this;exact this.1
def Inv.lt (b:Inv N M L w0 blk V t h a w) {x:Nat} {r:Row} {g:Nat×Nat} (c:h x=some r) (d:blk x=some g):g.1<w.heap.size:=by
 exact (b.rowIs c d).heap
def Inv.BW (c:Inv N M L w0 blk V t h a w) {b:Nat} (d:Own M h blk b):b<w.heap.size:=by
 rcases d with d|⟨x,r,g,e,_,f,rfl⟩
 ·exact alu (c.mlt b d) c.below.size
 ·exact c.lt e f
def Inv.notM (b:Inv N M L w0 blk V t h a w) {x:Nat} {r:Row} {g:Nat×Nat} (c:h x=some r) (d:blk x=some g):¬M g.1:=by
 rcases b.base c d with h1|h1
 ·intro e;have:=b.mlt _ e;omega
 ·exact b.cc _ h1
def acJ (a:Array Value) (d i:Nat) (v:Value) (b:d<a.size):(a.setIfInBounds d v).getD i undef=if i=d then v else a.getD i undef:=by
 simp only[alv];grind
def Inv.put (b:Inv N M L w0 blk V t h a w) {d:Nat} (e:d<N) {x:D} {v:Value} (f:RT w (Own M h blk) h blk V x v):Inv N M L w0 blk V (cq t d x) h (a.put (some d) v) w where
 tab:=b.tab
 below:=b.below
 mlt:=b.mlt
 cc:=b.cc
 pin:=b.pin
 defers:=b.defers
 tsz:=by simp[Act.put,b.tsz]
 slots i:=by
  simp only[Act.put];rw[acJ _ _ _ _ (by rw[b.tsz];exact e)]
  by_cases c:i=d
  ·subst c;simpa [cq] using f
  ·simpa [cq,c] using b.slots i
 rows:=b.rows
 inj:=b.inj
 ali:=b.ali
 pha:=b.pha
 big:=b.big
def Inv.weaken (b:Inv N M L w0 blk V t h a w) {V':Nat->Nat->Prop} (hV:∀x v,V x v->V' x v):Inv N M L w0 blk V' t h a w where
 tab:=b.tab
 below:=b.below
 mlt:=b.mlt
 cc:=b.cc
 pin go k:=⟨hV _ _ (b.pin go k).1,(b.pin go k).2⟩
 defers:=b.defers
 tsz:=b.tsz
 slots i:=(b.slots i).mono ⟨fun _ e f=>⟨e,f,rfl⟩,hV,fun _ _ _ l e f=>⟨⟨l,e,f⟩,rfl,fun _ _=>rfl⟩⟩
 rows x r m:=⟨fun n=>hV _ _ ((b.rows x r m).1 n),(b.rows x r m).2⟩
 pha:=b.pha
 big:=b.big
 inj:=b.inj
 ali y r g o p q k j c d s z:=by
  obtain⟨u,e,f⟩:=b.ali y r g o p q k j c d s z;exact⟨u,e,f.mono ⟨fun _ e f=>⟨e,f,rfl⟩,hV,fun _ _ _ l e f=>⟨⟨l,e,f⟩,rfl,fun _ _=>rfl⟩⟩⟩
def Inv.later (e:Inv N M L w0 blk V t h a w) {C:World} (hb:Below w.heap.size w C):Inv N M L w0 blk V t h a C where
 tab:=e.tab.keep fun b f l=>⟨alu f hb.size,l,hb.block b f⟩
 below:=e.below.trans (eV.wF (L:=LB L) hb) (fun _ h _=>h)
 mlt:=e.mlt
 cc:=e.cc
 pin go k:=⟨(e.pin go k).1,fun r z D=>⟨((e.pin go k).2 r z D).1,fun g m=>by
  have f:=(e.pin go k).2 r z D;rw[<- f.2 g m];exact du (hb.block _ (e.lt z (f.1.trans m)))⟩⟩
 defers:=e.defers
 tsz:=e.tsz
 slots i:=(e.slots i).mono ⟨fun b f l=>⟨alu f hb.size,l,hb.block b f⟩,fun _ _ h=>h,
  fun x v _ o f l=>⟨⟨o,f,l⟩,rfl,fun g k=>du (hb.block _ (e.lt f k))⟩⟩
 rows x r A:=⟨(e.rows x r A).1,(e.rows x r A).2.keep (fun g k=>hb.block _ (e.lt A k)) (fun b p E=>⟨alu p hb.size,E,hb.block b p⟩)⟩
 inj:=e.inj
 big:=e.big
 pha y r g q hm k j x s n F:=by
  obtain⟨G,u,f,l⟩:=e.pha y r g q hm k j x s n F;exact⟨G,u,(alk (a:=⟨g.1,g.2+j,none⟩) (hb.block _ (e.lt q k))).trans f,l.mono fun o p=>⟨⟨o,p⟩,rfl,fun O B=>du (hb.block _ (e.lt p B))⟩⟩
 ali y r g q H I k j c d J K:=by
  obtain⟨u,f,l⟩:=e.ali y r g q H I k j c d J K;refine⟨u,(alk (a:=⟨g.1,g.2+j,none⟩) (hb.block _ (e.lt q k))).trans f,l.mono ⟨fun b f l=>⟨alu f hb.size,l,hb.block b f⟩,fun _ _ h=>h,
   fun x v _ o f l=>⟨⟨o,f,l⟩,rfl,fun g k=>du (hb.block _ (e.lt f k))⟩⟩⟩
def Inv.drew (b:Inv N M L w0 blk V t h a w):Inv N M L w0 blk V t h a w.drew:=b.later ((Below.refl _ _).drew)
def JZ (l a:List (Nat×Option Row)):∀h:Nat->Option Row,aZ h (l++a)=aZ (aZ h l) a:=by
 induction l with
 | nil=>intro h;rfl
 | cons p l b=>intro h;obtain⟨x,r⟩:=p;exact b _
def jc (h:Nat->Option Row) (l:List (Nat×Option Row)) (x:Nat) (r:Option Row):aZ h (l++[(x,r)])=cq (aZ h l) x r:=by rw[JZ];rfl
def Oj (r:Row):(ym r).fz=true:=by
 unfold ym;grind
def ahv (r:Row):(ym r).v=r.v∧(ym r).ty=r.ty∧(ym r).cells=r.cells∧(ym r).mp=r.mp∧((ym r).lst=false->ym r=r):=by
 unfold ym;grind
def Us (h:Nat->Option Row) (x:Nat):∀(a:List Nat) (g:Nat->Option Row),(∀y,y∉a->g y=h y∨g y=(h y).map ym) ->
  (x∈a->aZ g (lh h a) x=(h x).map ym)∧(x∉a->aZ g (lh h a) x=g x):=by
 intro a
 induction a with
 | nil=>intro g _;exact⟨fun b=>by simp at b,fun _=>rfl⟩
 | cons y a i =>
  intro g k;simp only[lh,alw,aZ];have e:∀z,z∉a->(cq g y ((h y).map ym)) z=h z∨(cq g y ((h y).map ym)) z=(h z).map ym:=by
   intro z l
   by_cases c:z=y
   ·subst c;right;simp[cq]
   ·simp only[cq,c,if_false];simp_all
  obtain⟨j,f⟩:=i _ e;refine⟨fun b =>?_,fun b =>?_⟩
  ·by_cases d:x∈a
   ·exact j d
   ·have:x=y:=by simp_all
    subst this;exact (f d).trans (by simp[cq])
  ·simp only[alx,not_or]at b;exact (f b.2).trans (by simp[cq,b.1])
def DM (h:Nat->Option Row) (a:List Nat) (x:Nat):aZ h (lh h a) x=if x∈a then (h x).map ym else h x:=by
 have:=Us h x a h (fun _ _ =>.inl rfl);grind
def Inv.freeze (f:Inv N M L w0 blk V t h a w) (E:List Nat):Inv N M L w0 blk V t (aZ h (lh h E)) a w:=by
 have o:∀x r',aZ h (lh h E) x=some r'->∃r,h x=some r∧r'.v=r.v∧r'.ty=r.ty∧r'.cells=r.cells∧(r'.fz=false->r.fz=false)∧(r'.lst=false->r'=r)∧r'.mp=r.mp:=by
  intro x r' k;rw[DM]at k;split at k
  ·cases A:h x with
   | none=>simp[A]at k
   | some r =>
    simp only[A,Option.map_some,alz]at k;subst k;obtain⟨B,F,Q,R,S⟩:=ahv r;exact⟨r,rfl,B,F,Q,(fun h=>by rw[Oj]at h;cases h),S,R⟩
  simp_all
 have C:∀b,¬Own M h blk b->¬Own M (aZ h (lh h E)) blk b:=by
  intro b q p;rcases p with p|⟨x,r',g,k,G,l,rfl⟩
  ·exact q (.inl p)
  ·obtain⟨r,e,_,_,_,T,_⟩:=o x r' k;exact q (.inr ⟨x,r,g,e,T G,l,rfl⟩)
 exact {
  tab:=f.tab.keep fun b e d=>⟨e,C b d,rfl⟩
  below:=f.below
  mlt:=f.mlt
  cc:=f.cc
  pin:=fun O l=>⟨(f.pin O l).1,fun r' A hv=>by
   obtain⟨r,m,D,_⟩:=o 0 r' A;exact (f.pin O l).2 r m (by omega)⟩
  defers:=f.defers
  tsz:=f.tsz
  slots:=fun i=>(f.slots i).mono ⟨fun b e d=>⟨e,C b d,rfl⟩,fun _ _ h=>h,fun x v _ r' e d=>by
   grind⟩
  rows:=fun x r' k=>by
   obtain⟨r,m,D,U,H,_,_,I⟩:=o x r' k;obtain⟨e,d⟩:=f.rows x r m;rw[D];refine⟨e,?_⟩;cases q:blk x with
   | none=>rw[q]at d;exact H.trans d
   | some g =>
    rw[q]at d;exact⟨d.1,d.2.keep H U I rfl fun b B F=>⟨B,C b F,rfl⟩⟩
  inj:=fun x y r s g W k z l J X=>by
   obtain⟨r',m,_⟩:=o x r k;obtain⟨Y,D,_⟩:=o y s z;exact f.inj x y r' Y g W m D l J X
  big:=f.big
  pha:=fun y r' g z Z l j x s n hc=>by
   obtain⟨r,m,_,_,H,_,_,I⟩:=o y r' z;obtain⟨h0,u,e,d⟩:=f.pha y r g m (I.symm.trans Z) l j x s n (by simp_all);exact⟨h0,u,e,d.mono fun aa B=>by
    grind⟩
  ali:=fun y r' g z G P l j c d' hj K=>by
   obtain⟨r,m,_,_,_,_,g6,_⟩:=o y r' z;obtain rfl:=g6 P;obtain⟨u,e,d⟩:=f.ali y r' g m G P l j c d' hj K;exact⟨u,e,d.mono ⟨fun b e d=>⟨e,C b d,rfl⟩,fun _ _ h=>h,fun x v _ r' e d=>by
    grind⟩⟩ }
def forget (h:Nat->Option Row):Option Nat->Nat->Option Row
 | some y=>cq h y none
 | none=>h
def Inv.GP (p:Inv N M L w0 blk V t h a w) {w':World} {h1:Nat->Option Row} {old:Option Nat} {d e:Nat} {r0:Row} {go:Option (Nat×Nat)}
  (ai:w'.os=w.os) (R:w'.tape=w.tape) (aa:w'.output=w.output) (S:w.heap.size<=w'.heap.size)
  (hblock:∀k,k<w.heap.size->(∀y g,old=some y->blk y=some g->k≠g.1)->w'.heap[k]? = w.heap[k]?)
  (z:∀y,old=some y->∃r,h y=some r∧r.fz=false) (ab:h1=forget h old) (hV:kZ N V d e)
  (E:match go with
   | some g=>(w.heap.size<=g.1∨∃y G,old=some y∧blk y=some G∧g.1=G.1)∧fh w' (fun b=>Own M h1 blk b∨b=g.1) g r0
   | none=>r0.cells=[]) (ar:r0.fz=false) (K:r0.v=e) (au:r0.mp=true->∀g,go=some g->∀j x s n:Nat,r0.cells[j]? = some (D.ph x s n)->Um d j x∧∃u,w'.cell? ⟨g.1,g.2+j,none⟩=some u∧PhR w' (cq h1 d (some r0)) (cq blk d go) x s n u:=by (intro h;cases h)) :
  Inv N M L w0 (cq blk d go) (fun x v=>V x v∨(x=d∧v=e)) t (cq h1 d (some r0)) a w':=by
 have C:∀x r,h1 x=some r->h x=some r∧∀y,old=some y->x≠y:=by
  intro x r o;cases old with
  | none=>subst ab;simp_all
  | some y =>
   subst ab;simp only[forget]at o
   by_cases ad:x=y
   ·subst ad;simp[cq]at o
   ·rw[aD _ _ ad]at o;simp_all
 have hne:∀x r g,h1 x=some r->blk x=some g->∀y G,old=some y->blk y=some G->g.1≠G.1:=by
  intro x r g o l y G m A F;obtain⟨s,O,_⟩:=z y m;exact (C x r o).2 y m (p.inj x y r s g G (C x r o).1 O l A F)
 have av:∀x r g I,h1 x=some r->blk x=some g->go=some I->g.1≠I.1:=by
  intro x r g I o l aj F;subst aj;rcases E.1 with hn|⟨y,G,m,A,P⟩
  ·have:=p.lt (C x r o).1 l;omega
  grind
 have T:∀b,b<w.heap.size->¬Own M h blk b->w'.heap[b]? = w.heap[b]?:=by
  intro b Q hn;refine hblock b Q fun y g m l F =>?_;obtain⟨s,O,U⟩:=z y m;exact hn (.inr ⟨y,s,g,O,U,l,F.symm⟩)
 have ae:∀b,b<w.heap.size->¬Own M h blk b->¬Own M (cq h1 d (some r0)) (cq blk d go) b:=by
  intro b Q hn W;rcases W with W|⟨x,r,g,o,U,l,F⟩
  ·exact hn (.inl W)
  ·by_cases f:x=d
   ·subst f;rw[ay]at l;subst l;rcases E.1 with aw|⟨y,G,m,A,P⟩
    ·omega
    ·obtain⟨s,O,ak⟩:=z y m;exact hn (.inr ⟨y,s,G,O,ak,A,by rw[<- P,F]⟩)
   ·rw[aD _ _ f]at o l;exact hn (.inr ⟨x,r,g,(C x r o).1,U,l,F⟩)
 have hk:∀b,b<w.heap.size->¬Own M h blk b->b<w'.heap.size∧¬Own M (cq h1 d (some r0)) (cq blk d go) b∧w'.heap[b]? = w.heap[b]? :=
  fun b h1 h2=>⟨by omega,ae b h1 h2,T b h1 h2⟩
 have hrowsame:∀x r g,h1 x=some r->blk x=some g->w'.heap[g.1]? = w.heap[g.1]?:=fun x r g o l=>hblock _ (p.lt (C x r o).1 l) (fun y G m A=>hne x r g o l y G m A);exact {
  tab:=p.tab.keep hk
  below:=p.below.trans (L':=fun k=>∃y g,old=some y∧blk y=some g∧k=g.1) ⟨ai,R,aa,S,fun k al hn=>hblock k al (fun y g m l F=>hn ⟨y,g,m,l,F⟩)⟩ (fun k ⟨y,g,m,l,F⟩ an=>by
   obtain⟨s,O,_⟩:=z y m;rcases p.base O l with Q|Q
   ·omega
   grind)
  mlt:=p.mlt
  cc:=p.cc
  pin:=fun X l=>⟨.inl (p.pin X l).1,fun r Z Y=>by
   by_cases f:0=d
   ·subst f;rw[ay]at Z;simp only[alz]at Z;subst Z;rw[K]at Y;subst Y;exact absurd (p.pin X l).1 hV.no
   ·rw[aD _ _ f]at Z;rw[aD _ _ f];obtain⟨k1,k2⟩:=(p.pin X l).2 r (C 0 r Z).1 Y;exact⟨k1,fun g ag=>(du (hrowsame 0 r g Z (k1.trans ag))).trans (k2 g ag)⟩⟩
  defers:=p.defers
  tsz:=p.tsz
  slots:=fun i=>(p.slots i).mono ⟨hk,fun _ _ h =>.inl h,fun x v Y J B I=>by
   by_cases f:x=d
   ·subst f;rw[ay]at B;simp only[alz]at B;subst B;rw[K]at I;subst I;exact absurd Y hV.no
   ·rw[aD _ _ f]at B;exact⟨⟨J,(C x J B).1,I⟩,aD _ _ f,fun g l=>du (hrowsame x J g B l)⟩⟩
  rows:=fun x r o=>by
   by_cases f:x=d
   ·subst f;rw[ay]at o;simp only[alz]at o;subst o;rw[ay];refine⟨fun _ =>.inr ⟨rfl,K⟩,?_⟩;cases go with
    | none=>exact E
    | some g =>
     obtain⟨n1,n2⟩:=E;refine⟨?_,n2.keep rfl rfl rfl rfl fun b q1 q2=>⟨q1,fun Q=>q2 ?_,rfl⟩⟩;rotate_left
     ·rcases Q with Q|⟨x',r,g',o,U,l,F⟩
      ·exact .inl (.inl Q)
      ·by_cases f:x'=x
       ·subst f;rw[ay]at l;grind
       ·rw[aD _ _ f]at o l;exact .inl (.inr ⟨x',r,g',o,U,l,F⟩)
     rcases n1 with l|⟨y,G,m,A,P⟩
     ·exact .inl (als p.below.size l)
     ·obtain⟨s,O,_⟩:=z y m;rw[P];exact p.base O A
   ·rw[aD _ _ f]at o;rw[aD _ _ f];exact⟨fun hn =>.inl ((p.rows x r (C x r o).1).1 hn),(p.rows x r (C x r o).1).2.keep (fun g l=>hrowsame x r g o l) hk⟩
  inj:=fun x y r s g g' o m l H F=>by
   by_cases f:x=d
   ·by_cases q:y=d
    ·rw[f,q]
    ·subst f;rw[aD _ _ q]at m H;rw[ay]at l;grind
   ·by_cases q:y=d
    ·subst q;rw[aD _ _ f]at o l;rw[ay]at H;grind
    ·rw[aD _ _ f]at o l;rw[aD _ _ q]at m H;exact p.inj x y r s g g' (C x r o).1 (C y s m).1 l H F
  big:=p.big
  pha:=fun y r g m hm l j x s n hc=>by
   by_cases q:y=d
   ·subst q;rw[ay]at m;simp only[alz]at m;subst m;rw[ay]at l;grind
   ·rw[aD _ _ q]at m l;obtain⟨h0,u,k1,k2⟩:=p.pha y r g (C y r m).1 hm l j x s n hc;have an:=hV.lt;have aq:=p.big;have ax:PK=1000000:=rfl;have f:x≠d:=by simp only[Um,NK]at h0;grind
    exact⟨h0,u,(alk (a:=⟨g.1,g.2+j,none⟩) (hrowsame y r g m l)).trans k1,k2.mono fun J B=>by
     rw[aD _ _ f]at B;exact⟨⟨J,(C x J B).1⟩,aD _ _ f,fun g' H=>du (hrowsame x J g' B H)⟩⟩
  ali:=fun y r g m U hl l j c d' hj ao=>by
   by_cases q:y=d
   ·subst q;rw[ay]at m;grind
   ·rw[aD _ _ q]at m l;obtain⟨u,h1,h2⟩:=p.ali y r g (C y r m).1 U hl l j c d' hj ao;exact⟨u,(alk (a:=⟨g.1,g.2+j,none⟩) (hrowsame y r g m l)).trans h1,h2.mono ⟨hk,fun _ _ h =>.inl h,fun x v Y J B I=>by
     by_cases f:x=d
     ·subst f;rw[ay]at B;simp only[alz]at B;subst B;rw[K]at I;subst I;exact absurd Y hV.no
     ·rw[aD _ _ f]at B;exact⟨⟨J,(C x J B).1,I⟩,aD _ _ f,fun g l=>du (hrowsame x J g B l)⟩⟩⟩ }
def Inv.abn (p:Inv N M L w0 blk V t h a w) {w':World} {h1:Nat->Option Row} {old:Option Nat} {d:Nat} {r0:Row} {go:Option (Nat×Nat)}
  (ab:w'.os=w.os) (O:w'.tape=w.tape) (U:w'.output=w.output) (P:w.heap.size<=w'.heap.size)
  (hblock:∀k,k<w.heap.size->(∀y g,old=some y->blk y=some g->k≠g.1)->w'.heap[k]? = w.heap[k]?)
  (q:∀y,old=some y->∃r,h y=some r∧r.fz=false) (W:h1=forget h old) (ak:N<=d) (al:d≠0) (an:¬V d r0.v) (ao:∀(y:Nat) (r:Row) (j s n:Nat),h1 y=some r->r.mp=true->r.cells[j]? = some (D.ph d s n)->False)
  (B:match go with
   | some g=>(w.heap.size<=g.1∨∃y E,old=some y∧blk y=some E∧g.1=E.1)∧fh w' (fun b=>Own M h1 blk b∨b=g.1) g r0
   | none=>r0.cells=[]) (aq:r0.fz=false) (ar:r0.mp=true->∀j x s n:Nat,r0.cells[j]?≠some (D.ph x s n):=by (intro h;cases h)) :
  Inv N M L w0 (cq blk d go) V t (cq h1 d (some r0)) a w':=by
 have aj:=p.big;have au:PK=1000000:=rfl;have A:∀x r,h1 x=some r->h x=some r∧∀y,old=some y->x≠y:=by
  intro x r l;cases old with
  | none=>subst W;simp_all
  | some y =>
   subst W;simp only[forget]at l
   by_cases X:x=y
   ·subst X;simp[cq]at l
   ·rw[aD _ _ X]at l;simp_all
 have hne:∀x r g,h1 x=some r->blk x=some g->∀y E,old=some y->blk y=some E->g.1≠E.1:=by
  intro x r g l f y E m z C;obtain⟨s,I,_⟩:=q y m;exact (A x r l).2 y m (p.inj x y r s g E (A x r l).1 I f z C)
 have av:∀x r g Q,h1 x=some r->blk x=some g->go=some Q->g.1≠Q.1:=by
  intro x r g Q l f ad C;subst ad;rcases B.1 with hn|⟨y,E,m,z,J⟩
  ·have:=p.lt (A x r l).1 f;omega
  grind
 have R:∀b,b<w.heap.size->¬Own M h blk b->w'.heap[b]? = w.heap[b]?:=by
  intro b K hn;refine hblock b K fun y g m f C =>?_;obtain⟨s,I,S⟩:=q y m;exact hn (.inr ⟨y,s,g,I,S,f,C.symm⟩)
 have Y:∀b,b<w.heap.size->¬Own M h blk b->¬Own M (cq h1 d (some r0)) (cq blk d go) b:=by
  intro b K hn T;rcases T with T|⟨x,r,g,l,S,f,C⟩
  ·exact hn (.inl T)
  ·by_cases e:x=d
   ·subst e;rw[ay]at f;subst f;rcases B.1 with aw|⟨y,E,m,z,J⟩
    ·omega
    ·obtain⟨s,I,ae⟩:=q y m;exact hn (.inr ⟨y,s,E,I,ae,z,by rw[<- J,C]⟩)
   ·rw[aD _ _ e]at l f;exact hn (.inr ⟨x,r,g,(A x r l).1,S,f,C⟩)
 have hk:∀b,b<w.heap.size->¬Own M h blk b->b<w'.heap.size∧¬Own M (cq h1 d (some r0)) (cq blk d go) b∧w'.heap[b]? = w.heap[b]? :=
  fun b h1 h2=>⟨by omega,Y b h1 h2,R b h1 h2⟩
 have hrowsame:∀x r g,h1 x=some r->blk x=some g->w'.heap[g.1]? = w.heap[g.1]?:=fun x r g l f=>hblock _ (p.lt (A x r l).1 f) (fun y E m z=>hne x r g l f y E m z);exact {
  tab:=p.tab.keep hk
  below:=p.below.trans (L':=fun k=>∃y g,old=some y∧blk y=some g∧k=g.1) ⟨ab,O,U,P,fun k ag hn=>hblock k ag (fun y g m f C=>hn ⟨y,g,m,f,C⟩)⟩ (fun k ⟨y,g,m,f,C⟩ ax=>by
   obtain⟨s,I,_⟩:=q y m;rcases p.base I f with K|K
   ·omega
   grind)
  mlt:=p.mlt
  cc:=p.cc
  pin:=fun Z f=>⟨(p.pin Z f).1,fun r hr hv=>by
   by_cases e:0=d
   ·omega
   ·rw[aD _ _ e]at hr;rw[aD _ _ e];obtain⟨k1,k2⟩:=(p.pin Z f).2 r (A 0 r hr).1 hv;exact⟨k1,fun g aa=>(du (hrowsame 0 r g hr (k1.trans aa))).trans (k2 g aa)⟩⟩
  defers:=p.defers
  tsz:=p.tsz
  slots:=fun i=>(p.slots i).mono ⟨hk,fun _ _ h=>h,fun x v hv H F Q=>by
   by_cases e:x=d
   ·subst e;rw[ay]at F;grind
   ·rw[aD _ _ e]at F;exact⟨⟨H,(A x H F).1,Q⟩,aD _ _ e,fun g f=>du (hrowsame x H g F f)⟩⟩
  rows:=fun x r l=>by
   by_cases e:x=d
   ·subst e;rw[ay]at l;simp only[alz]at l;subst l;rw[ay];refine⟨fun hn=>by omega,?_⟩;cases go with
    | none=>exact B
    | some g =>
     obtain⟨n1,n2⟩:=B;refine⟨?_,n2.keep rfl rfl rfl rfl fun b q1 q2=>⟨q1,fun K=>q2 ?_,rfl⟩⟩;rotate_left
     ·rcases K with K|⟨x',r,g',l,S,f,C⟩
      ·exact .inl (.inl K)
      ·by_cases e:x'=x
       ·subst e;rw[ay]at f;grind
       ·rw[aD _ _ e]at l f;exact .inl (.inr ⟨x',r,g',l,S,f,C⟩)
     rcases n1 with f|⟨y,E,m,z,J⟩
     ·exact .inl (als p.below.size f)
     ·obtain⟨s,I,_⟩:=q y m;rw[J];exact p.base I z
   ·rw[aD _ _ e]at l;rw[aD _ _ e];exact⟨fun hn=>(p.rows x r (A x r l).1).1 hn,(p.rows x r (A x r l).1).2.keep (fun g f=>hrowsame x r g l f) hk⟩
  inj:=fun x y r s g g' l m f G C=>by
   by_cases e:x=d
   ·by_cases o:y=d
    ·rw[e,o]
    ·subst e;rw[aD _ _ o]at m G;rw[ay]at f;grind
   ·by_cases o:y=d
    ·subst o;rw[aD _ _ e]at l f;rw[ay]at G;grind
    ·rw[aD _ _ e]at l f;rw[aD _ _ o]at m G;exact p.inj x y r s g g' (A x r l).1 (A y s m).1 f G C
  big:=p.big
  pha:=fun y r g m hm f j x s n hc=>by
   by_cases o:y=d
   ·subst o;rw[ay]at m;grind
   ·rw[aD _ _ o]at m f;obtain⟨h0,u,k1,k2⟩:=p.pha y r g (A y r m).1 hm f j x s n hc;have e:x≠d:=by
     grind
    exact⟨h0,u,(alk (a:=⟨g.1,g.2+j,none⟩) (hrowsame y r g m f)).trans k1,k2.mono fun H F=>by
     rw[aD _ _ e]at F;exact⟨⟨H,(A x H F).1⟩,aD _ _ e,fun g' G=>du (hrowsame x H g' F G)⟩⟩
  ali:=fun y r g m S hl f j c d' hj ai=>by
   by_cases o:y=d
   ·subst o;rw[ay]at m;grind
   ·rw[aD _ _ o]at m f;obtain⟨u,h1,h2⟩:=p.ali y r g (A y r m).1 S hl f j c d' hj ai;exact⟨u,(alk (a:=⟨g.1,g.2+j,none⟩) (hrowsame y r g m f)).trans h1,h2.mono ⟨hk,fun _ _ h=>h,fun x v hv H F Q=>by
     by_cases e:x=d
     ·subst e;rw[ay]at F;grind
     ·rw[aD _ _ e]at F;exact⟨⟨H,(A x H F).1,Q⟩,aD _ _ e,fun g f=>du (hrowsame x H g F f)⟩⟩⟩ }
def Inv.abo (B:Inv N M L w0 blk V t h a w) {w':World} {h1:Nat->Option Row} {old:Option Nat} {d:Nat} {r0:Row} {go:Option (Nat×Nat)}
  (C:w'.os=w.os) (f:w'.tape=w.tape) (m:w'.output=w.output) (i:w.heap.size<=w'.heap.size)
  (c:∀k,k<w.heap.size->(∀y g,old=some y->blk y=some g->k≠g.1)->w'.heap[k]? = w.heap[k]?)
  (o:∀y,old=some y->∃r,h y=some r∧r.fz=false) (l:h1=forget h old) {y0:Nat} (P:d=PK+y0) (I:y0<N) (E:∀v,¬V d v) (Q:∀r,h1 y0=some r->r.mp=false)
  (p:match go with
   | some g=>(w.heap.size<=g.1∨∃y J,old=some y∧blk y=some J∧g.1=J.1)∧fh w' (fun b=>Own M h1 blk b∨b=g.1) g r0
   | none=>r0.cells=[]) (F:r0.fz=false) (G:r0.mp=true->∀j x s n:Nat,r0.cells[j]?≠some (D.ph x s n):=by (intro h;cases h)) :
  Inv N M L w0 (cq blk d go) V t (cq h1 d (some r0)) a w':=by
 have R:PK=1000000:=rfl;have K:=B.big;refine B.abn C f m i c o l (by omega) (by omega) (E _) (fun y r j s n q S H =>?_) p F G;have u:h y=some r:=by
  cases old with
  | none=>subst l;exact q
  | some z =>
   subst l;simp only[forget]at q
   by_cases A:y=z
   ·subst A;rw[ay]at q;cases q
   ·rwa [aD _ _ A]at q
 have e:=(B.rows y r u).2;cases O:blk y with
 | none =>
  rw[O]at e;rw[show r.cells=[] from e]at H;cases H
 | some g =>
  have T:=(B.pha y r g u S O j _ s n H).1;have:y=y0:=by simp only[Um,NK]at T;grind
  simp_all
def Inv.Uq (E:Inv N M L w0 blk V t h a w) {w':World} {p:Nat->Option Row} {old:Option Nat} {d e q:Nat} {m s:Bool} {go:Option (Nat×Nat)} {cs:List D}
  (u:w'.os=w.os) (i:w'.tape=w.tape) (n:w'.output=w.output) (l:w.heap.size<=w'.heap.size)
  (c:∀k,k<w.heap.size->(∀y g,old=some y->blk y=some g->k≠g.1)->w'.heap[k]? = w.heap[k]?)
  (o:∀y,old=some y->∃r,h y=some r∧r.fz=false) (z:p=forget h old) (F:kZ N V d e)
  (f:match go with
   | some g=>(w.heap.size<=g.1∨∃y C,old=some y∧blk y=some C∧g.1=C.1)∧∃A:Array Value,w'.heap[g.1]? = some (.cells A q (0,0))∧g.2+cs.length<=A.size∧∀j x,cs[j]? = some x->bE x=true∧RP w' (fun b=>Own M p blk b∨b=g.1) x (A.getD (g.2+j) undef)
   | none=>cs=[]) (B:s=false:=by rfl) :
  Inv N M L w0 (cq blk d go) (fun x v=>V x v∨(x=d∧v=e)) t (cq p d (some ⟨e,q,cs,s,m,false⟩)) a w':=by
 refine E.GP (r0:=⟨e,q,cs,s,m,false⟩) u i n l c o z F ?_ B rfl;cases go with
 | none=>exact f
 | some g=>exact f
def Inv.abm (P:Inv N M L w0 blk V t h a w) {w':World} {h1:Nat->Option Row} {old:Option Nat} {d e ty:Nat} {lst fz:Bool} {go:Option (Nat×Nat)} {cs:List D}
  (C:w'.os=w.os) (l:w'.tape=w.tape) (p:w'.output=w.output) (m:w.heap.size<=w'.heap.size)
  (c:∀k,k<w.heap.size->(∀y g,old=some y->blk y=some g->k≠g.1)->w'.heap[k]? = w.heap[k]?)
  (f:∀y,old=some y->∃r,h y=some r∧r.fz=false) (q:h1=forget h old) (Q:kZ N V d e)
  (i:match go with
   | some g=>(w.heap.size<=g.1∨∃y o,old=some y∧blk y=some o∧g.1=o.1)∧∃s:Array Value,w'.heap[g.1]? = some (.cells s ty (0,0))∧g.2+cs.length<=s.size∧∀j x,cs[j]? = some x->bE x=true∧RP w (Own M h blk) x (s.getD (g.2+j) undef)
   | none=>cs=[]) (hfz:fz=false:=by rfl) :
  Inv N M L w0 (cq blk d go) (fun x v=>V x v∨(x=d∧v=e)) t (cq h1 d (some ⟨e,ty,cs,fz,lst,false⟩)) a w':=by
 refine P.Uq C l p m c f q Q ?_ hfz;cases go with
 | none=>exact i
 | some g =>
  obtain⟨E,s,R,S,K⟩:=i;refine⟨E,s,R,S,fun j x O=>⟨(K j x O).1,(K j x O).2.keep fun b T F=>⟨by omega,?_,?_⟩⟩⟩
  ·rintro (G|rfl)
   ·apply F;rcases G with G|⟨x,r,U,B,u,H,z⟩
    ·exact .inl G
    ·refine .inr ⟨x,r,U,?_,u,H,z⟩;subst q;cases old with
     | none=>exact B
     | some y =>
      simp only[forget]at B
      by_cases A:x=y
      ·subst A;simp[cq]at B
      ·rwa [aD _ _ A]at B
   ·rcases E with E|⟨y,o,I,n,z⟩
    ·omega
    ·obtain⟨r,J,u⟩:=f y I;exact F (.inr ⟨y,r,o,J,u,n,z.symm⟩)
  ·refine c b T fun y o I n z =>?_;obtain⟨r,J,u⟩:=f y I;exact F (.inr ⟨y,r,o,J,u,n,z.symm⟩)
def Inv.alloc (f:Inv N M L w0 blk V t h a w) {d e ty:Nat} {lst:Bool} {cs:List D} {vs:Array Value} (g:kZ N V d e) (i:cs.length<=vs.size)
  (n:∀j x,cs[j]? = some x->bE x=true∧RP w (Own M h blk) x (vs.getD j undef)) :
  Inv N M L w0 (cq blk d (some (w.heap.size,0))) (fun x v=>V x v∨(x=d∧v=e)) t (cq h d (some ⟨e,ty,cs,false,lst,false⟩)) a (w.alloc (.cells vs ty)):=by
 have hold:∀b,b<w.heap.size->(w.alloc (.cells vs ty)).heap[b]? = w.heap[b]?:=fun b c=>Below.heap_alloc w _ b c;have c:=(Below.refl w.heap.size w).alloc (alq _) (.cells vs ty);refine f.abm (h1:=h) (old:=none) c.os c.tape c.output c.size (fun k l _=>hold k l) (fun y m=>by cases m) rfl g ?_;exact⟨.inl (alq _),vs,heap_alloc_new w _,by simpa using i,fun j x o=>by grind⟩
def Inv.drop (hI:Inv N M L w0 blk V t h a w) (y:Nat):Inv N M L w0 blk V t (cq h y none) a w:=by
 have d:∀x r,cq h y none x=some r->h x=some r:=by
  intro x r k
  by_cases p:x=y
  ·subst p;rw[ay]at k;cases k
  ·rwa [aD _ _ p]at k
 have A:∀b,¬Own M h blk b->¬Own M (cq h y none) blk b:=by
  intro b H o;rcases o with o|⟨x,r,g,k,B,l,C⟩
  ·exact H (.inl o)
  ·exact H (.inr ⟨x,r,g,d x r k,B,l,C⟩)
 exact {
  tab:=hI.tab.keep fun b e f=>⟨e,A b f,rfl⟩
  below:=hI.below
  mlt:=hI.mlt
  cc:=hI.cc
  pin:=fun I l=>⟨(hI.pin I l).1,fun r J K=>(hI.pin I l).2 r (d 0 r J) K⟩
  defers:=hI.defers
  tsz:=hI.tsz
  slots:=fun i=>(hI.slots i).mono ⟨fun b e f=>⟨e,A b f,rfl⟩,fun _ _ h=>h,fun x v _ m e f=>⟨⟨m,d x m e,f⟩,rfl,fun _ _=>rfl⟩⟩
  rows:=fun x r k=>⟨(hI.rows x r (d x r k)).1,(hI.rows x r (d x r k)).2.keep (fun _ _=>rfl) (fun b D E=>⟨D,A b E,rfl⟩)⟩
  inj:=fun x y r s g O k q l F C=>hI.inj x y r s g O (d x r k) (d y s q) l F C
  big:=hI.big
  pha:=fun z r g q P l j x s n Q=>by
   obtain⟨R,u,D,E⟩:=hI.pha z r g (d z r q) P l j x s n Q;exact⟨R,u,D,E.mono fun m S=>⟨⟨m,d x m S⟩,rfl,fun _ _=>rfl⟩⟩
  ali:=fun z r g q B T l j c U W G=>by
   obtain⟨u,e,f⟩:=hI.ali z r g (d z r q) B T l j c U W G;exact⟨u,e,f.mono ⟨fun b e f=>⟨e,A b f,rfl⟩,fun _ _ h=>h,fun x v _ m e f=>⟨⟨m,d x m e,f⟩,rfl,fun _ _=>rfl⟩⟩⟩ }
def Inv.mn (m:Inv N M L w0 blk V t h a w) {x:Nat} {r:Row} (P:h x=some r) (hz:r.fz=false) {r0:Row} {w':World} (X:r0.v=r.v)
  (Y:w'.os=w.os) (C:w'.tape=w.tape) (Q:w'.output=w.output) (E:w.heap.size<=w'.heap.size) (hheap:∀b,b<w.heap.size->(∀g,blk x=some g->b≠g.1)->w'.heap[b]? = w.heap[b]?)
  (q:match blk x with
   | some g=>w'.shape? g.1=w.shape? g.1∧fh w' (Own M h blk) g r0
   | none=>r0.cells=[])
  (ag:r0.fz=true->r0.lst=false->∀g,blk x=some g->∀j c d,r0.cells[j]? = some c->alD c=some d->∃u,w'.cell? ⟨g.1,g.2+j,none⟩=some u∧RT w (Own M h blk) h blk V d u) (hph:r0.mp=true->∀g,blk x=some g->∀j I s n:Nat,r0.cells[j]? = some (D.ph I s n)->Um x j I∧∃u,w'.cell? ⟨g.1,g.2+j,none⟩=some u∧PhR w h blk I s n u:=by (intro h;cases h)) :
  Inv N M L w0 blk V t (cq h x (some r0)) a w':=by
 have S:∀y s,cq h x (some r0) y=some s->∃s',h y=some s'∧s.v=s'.v∧(s.fz=false->s'.fz=false):=by
  intro y s f
  by_cases hyx:y=x
  ·subst hyx;rw[ay]at f;simp_all
  ·rw[aD _ _ hyx]at f;simp_all
 have ho:∀b,¬Own M h blk b->¬Own M (cq h x (some r0)) blk b:=by
  intro b T F;rcases F with F|⟨y,s,p,f,G,o,U⟩
  ·exact T (.inl F)
  ·obtain⟨s',A,_,h3⟩:=S y s f;exact T (.inr ⟨y,s',p,A,h3 G,o,U⟩)
 have B:∀b,b<w.heap.size->¬Own M h blk b->w'.heap[b]? = w.heap[b]?:=fun b A h2=>hheap b A (fun g l e=>h2 (.inr ⟨x,r,g,P,hz,l,e.symm⟩));have J:∀b,b<w.heap.size->¬Own M h blk b->b<w'.heap.size∧¬Own M (cq h x (some r0)) blk b∧w'.heap[b]? = w.heap[b]? :=
  fun b A h2=>⟨by omega,ho b h2,B b A h2⟩
 have hother:∀y s p,y≠x->h y=some s->blk y=some p->w'.heap[p.1]? = w.heap[p.1]?:=fun y s p hyx f o=>hheap _ (m.lt f o) (fun g l e=>hyx (m.inj y x s r p g f P o l e));have Z:∀y s p,h y=some s->blk y=some p->w'.shape? p.1=w.shape? p.1:=by
  intro y s p f o
  by_cases hyx:y=x
  ·grind
  ·exact du (hother y s p hyx f o)
 exact {
  tab:=m.tab.keep J
  below:=m.below.trans (L':=fun k=>∃g,blk x=some g∧k=g.1) ⟨Y,C,Q,E,fun k J hn=>hheap k J (fun g l e=>hn ⟨g,l,e⟩)⟩ (fun k ⟨g,l,U⟩ ai=>by
   rcases m.base P l with T|T
   ·omega
   simp_all)
  mlt:=m.mlt
  cc:=m.cc
  pin:=fun go l=>⟨(m.pin go l).1,fun s hs hv=>by
   obtain⟨s',R,g2,_⟩:=S 0 s hs;obtain⟨K,O⟩:=(m.pin go l).2 s' R (by omega);grind⟩
  defers:=m.defers
  tsz:=m.tsz
  slots:=fun i=>(m.slots i).mono ⟨J,fun _ _ h=>h,fun y v _ s A h2=>by
   grind⟩
  rows:=fun y s f=>by
   by_cases hyx:y=x
   ·subst hyx;rw[ay]at f;simp only[alz]at f;subst f;refine⟨fun hn=>by rw[X];exact (m.rows y r P).1 hn,?_⟩;cases l:blk y with
    | none=>rw[l]at q;exact q
    | some g =>
     rw[l]at q;exact⟨m.base P l,q.2.keep rfl rfl rfl rfl fun b q1 q2=>⟨q1,ho b q2,rfl⟩⟩
   ·rw[aD _ _ hyx]at f;exact⟨(m.rows y s f).1,(m.rows y s f).2.keep (fun p o=>hother y s p hyx f o) J⟩
  inj:=fun y z s s' R g2 f G aa ab U=>by
   obtain⟨H,K,_⟩:=S y s f;obtain⟨r2,O,_⟩:=S z s' G;exact m.inj y z H r2 R g2 K O aa ab U
  big:=m.big
  pha:=fun y H g f W l j I s n hc=>by
   by_cases hyx:y=x
   ·subst hyx;rw[ay]at f;simp only[alz]at f;subst f;obtain⟨h0,u,K,O⟩:=hph W g l j I s n hc;exact⟨h0,u,K,O.mono fun r' R=>by
     grind⟩
   ·rw[aD _ _ hyx]at f;obtain⟨h0,u,K,O⟩:=m.pha y H g f W l j I s n hc;exact⟨h0,u,(alk (a:=⟨g.1,g.2+j,none⟩) (hother y H g hyx f l)).trans K,O.mono fun r' R=>by
     grind⟩
  ali:=fun y H g f ad hl l j c d' hj ae=>by
   have W:∀ {u:Value},RT w (Own M h blk) h blk V d' u->RT w' (Own M (cq h x (some r0)) blk) (cq h x (some r0)) blk V d' u:=fun h2=>h2.mono ⟨J,fun _ _ h=>h,fun y v _ s A h2=>by
    grind⟩
   by_cases hyx:y=x
   ·subst hyx;rw[ay]at f;grind
   ·rw[aD _ _ hyx]at f;obtain⟨u,A,h2⟩:=m.ali y H g f ad hl l j c d' hj ae;exact⟨u,(alk (a:=⟨g.1,g.2+j,none⟩) (hother y H g hyx f l)).trans A,W h2⟩ }
def Inv.rewrite (p:Inv N M L w0 blk V t h a w) {x:Nat} {r:Row} (q:h x=some r) (s:r.fz=false) {cs:List D} {lst fz:Bool} {w':World}
  (m:w'.os=w.os) (f:w'.tape=w.tape) (l:w'.output=w.output) (i:w.heap.size<=w'.heap.size) (k:∀b,b<w.heap.size->(∀g,blk x=some g->b≠g.1)->w'.heap[b]? = w.heap[b]?)
  (e:match blk x with
   | some g=>w'.shape? g.1=w.shape? g.1∧∃n:Array Value,w'.heap[g.1]? = some (.cells n r.ty (0,0))∧g.2+cs.length<=n.size∧∀j d,cs[j]? = some d->bE d=true∧RP w' (Own M h blk) d (n.getD (g.2+j) undef)
   | none=>cs=[])
  (o:fz=true->lst=false->∀g,blk x=some g->∀j c d,cs[j]? = some c->alD c=some d->∃u,w'.cell? ⟨g.1,g.2+j,none⟩=some u∧RT w (Own M h blk) h blk V d u) :
  Inv N M L w0 blk V t (cq h x (some ⟨r.v,r.ty,cs,fz,lst,false⟩)) a w':=by
 refine p.mn (r0:=⟨r.v,r.ty,cs,fz,lst,false⟩) q s rfl m f l i k ?_ o;cases v:blk x with
 | none=>simp_all
 | some g=>rw[v]at e;exact e
def Inv.write (y:Inv N M L w0 blk V t h a w) {x:Nat} {r:Row} {g:Nat×Nat} (o:h x=some r) (p:r.fz=false) (k:blk x=some g) (l:r.mp=false) {cs:List D} {c i:Array Value} (q:w.heap[g.1]? = some (.cells i r.ty (0,0))) (m:c.size=i.size)
  (z:g.2+cs.length<=c.size) (s:∀j d,cs[j]? = some d->bE d=true∧RP w (Own M h blk) d (c.getD (g.2+j) undef)) :
  Inv N M L w0 blk V t (cq h x (some { r with cells:=cs })) a (w.setRow g.1 c):=by
 have hheap:∀b,b≠g.1->(w.setRow g.1 c).heap[b]? = w.heap[b]?:=by
  intro b u;simp only[World.setRow,alA];grind
 have n:(w.setRow g.1 c).heap.size=w.heap.size:=by simp[World.setRow]
 have f:(w.setRow g.1 c).heap[g.1]? = some (.cells c r.ty (0,0)):=setRow_heap w g.1 i c r.ty (0,0) q;have A:({ r with cells:=cs } : Row)=⟨r.v,r.ty,cs,r.fz,r.lst,false⟩:=by rw[<- l]
 rw[A];refine y.rewrite (fz:=r.fz) (lst:=r.lst) o p rfl rfl rfl (by omega) (fun b _ u=>hheap b (u g k)) ?_ (fun h=>by simp_all);rw[k];exact⟨by simp[World.shape?,f,q,m],c,f,z,fun j d v=>⟨(s j d v).1,(s j d v).2.keep fun b B q2=>⟨by omega,q2,hheap b (fun e=>q2 (.inr ⟨x,r,g,o,p,k,e.symm⟩))⟩⟩⟩
end
structure Cb (w:World) (M:Nat->Prop) (args:List D) (vs:Array Value):Prop where
 size:vs.size=args.length
 at_:∀j d,args[j]? = some d->RP w M d (vs.getD j undef)
 tab:YW w M
def yC (w e:World) (M:Nat->Prop) (f:Nat->Prop) (v:Value):RK->Prop
 | .clean d=>RP e M d v
 | .fresh ty s n cells =>
  (∃(g:Nat×Nat) (c:Nat) (a:Array Value),v=.slice (some ⟨g.1,g.2,none⟩) n c∧(w.heap.size<=g.1∨f g.1)∧e.heap[g.1]? = some (.cells a ty (0,0))∧n<=c∧c<=maxLen∧c*s+g.2=a.size∧g.2+cells.length<=a.size ∧
   ∀(j:Nat) d,cells[j]? = some d->bE d=true∧RP e (fun b=>M b∨b=g.1) d (a.getD (g.2+j) undef))∨(n=0∧cells=[]∧∃A,v=.slice A 0 0)
 | .same _ _ _=>False
def xW (a:Option (Nat×Nat)) (b:Nat):Prop:=∃g,a=some g∧b=g.1
def Wt (w:World) (M:Nat->Prop) (a:Option (Nat×Nat)) (r:Row):Prop :=
 match a with
 | some g=>fh w M g r
 | none=>r.cells=[]
def EO (w:World) (go:Option (Nat×Nat)) (d:D) (u:Value):Prop:=RT w (fun _=>False) (fun x=>if x=0 then some ⟨0,0,[],false,false,false⟩ else none) (fun _=>go) (fun _ _=>True) d u
def agi (w w':World) (M:Nat->Prop) (a:Option (Nat×Nat)) (r:Row):Option Row->Prop
 | some r1=>r1.ty=r.ty∧r1.fz=false∧(r1.mp=r.mp∧yt r1=true)∧(∀g,a=some g->w'.shape? g.1=w.shape? g.1)∧Wt w' (fun b=>M b∨xW a b) a r1
 | none=>True
def agk (w a:World) (M:Nat->Prop) (c:Option (Nat×Nat)) (v:Value):RK->Prop
 | .same s o n=>EO a c (.buf 0 0 s o n) v
 | .clean d=>RP a (fun b=>M b∨xW c b) d v
 | .fresh ty s n cells=>yC w a M (xW c) v (.fresh ty s n cells)
def vB (P:Program) (f:FuncId) (cc:Option (D×Row)) (a:List D) (i:RK) (h:Option Row):Prop :=
 match cc with
 | none=>∀(w:World) (M:Nat->Prop) (g:Array Value),(∀b,M b->b<w.heap.size)->Cb w M a g->Calls P f g w fun e d=>∃v,e=.returned v∧Below w.heap.size w d∧yC w d M (fun _=>False) v i
 | some (d0,r)=>∀(w:World) (M:Nat->Prop) (c:Option (Nat×Nat)) (j:Value) (g:Array Value),(∀b,M b->b<w.heap.size)->(∀b,xW c b->¬M b)->r.fz=false->yt r=true->Wt w (fun b=>M b∨xW c b) c r->EO w c d0 j->Cb w (fun b=>M b∨xW c b) a g ->
  Calls P f (#[j]++g) w fun e d=>∃v,e=.returned v∧eV (xW c) w d∧agi w d M c r h∧agk w d M c v i
def Ug (P:Program) (f:FuncId) (a:List D) (r:D):Prop:=vB P f none a (.clean r) none
def fl (P:Program) (f:FuncId):Prop:=∃a,P.funcs[f]? = some a∧(a.name == "runtime.NumGoroutine")=false∧a.body.isNone=false
def abg (w:World) (d k:Nat) (a:Option (Nat×Nat)) (u:Value) (n:Nat) (b:List Value):Prop :=
 (∃g c arr,a=some g∧u=.slice (some ⟨g.1,g.2,none⟩) n c∧w.heap[g.1]? = some (.cells arr d (0,0))∧c*k+g.2=arr.size∧n<=c∧c<=maxLen∧∀(j:Nat) x,b[j]? = some x->arr[g.2+j]? = some x)∨(a=none∧n=0∧b=[]∧∃A,u=.slice A 0 0)
structure aa5 (P:Program) (f:FuncId) (p:Nat×Nat×Nat):Prop where
 callable:fl P f
 pos:0<p.2.1
 calls:∀(w:World) (go go':Option (Nat×Nat)) (u u':Value) (i n m:Nat) (cs cs':List Value),abg w p.1 p.2.1 go u n cs->abg w p.1 p.2.1 go' u' m cs'->(∀g g',go=some g->go'=some g'->g.1≠g'.1) ->
  cs.length=n*p.2.1->cs'.length=m*p.2.1->(∀x∈cs,x.oneCell'=true)->(∀x∈cs',x.oneCell'=true)->i<=n->0<m->(n+m)*p.2.2<=140737488355328 ->
  Calls P f #[u,.int .i64 i,u'] w fun e w'=>∃v,e=.returned v∧eV (xW go) w w' ∧
   ∃(g:Nat×Nat) (c:Nat) (arr:Array Value),v=.slice (some ⟨g.1,g.2,none⟩) (n+m) c∧(w.heap.size<=g.1∨xW go g.1)∧w'.heap[g.1]? = some (.cells arr p.1 (0,0))∧n+m<=c∧c<=maxLen∧c*p.2.1+g.2=arr.size ∧
    ∀(j:Nat) x,(cs.take (i*p.2.1)++(cs'++cs.drop (i*p.2.1)))[j]? = some x->arr[g.2+j]? = some x
def Pt:D->Value
 | .int k n =>.int k n
 | .bool b =>.bool b
 | .str s =>.string s
 | _=>undef
def Fm:D->Bool
 | .int _ _ | .bool _ | .str _=>true
 | _=>false
def af7:D->Value
 | .agg xs =>.agg (xs.map Pt).toArray
 | d=>Pt d
def agw:D->Bool
 | .agg xs=>xs.all Fm
 | d=>Fm d
def Ma {w:World} {M:Nat->Prop} {d:D} {u:Value} (a:Fm d=true) (h:RP w M d u):u=Pt d:=by
 cases h<;>first|rfl|cases a
def acz {w:World} {M:Nat->Prop} {d:D} (a:Fm d=true):bE d=true∧RP w M d (Pt d):=by
 cases d with
 | int k n=>exact⟨rfl,.int k n⟩
 | bool b=>exact⟨rfl,.bool b⟩
 | str s=>exact⟨rfl,.str s⟩
 | _=>cases a
def ZE {w:World} {M:Nat->Prop} {d:D} {u:Value} (b:agw d=true) (h:RP w M d u):u=af7 d:=by
 cases h with
 | agg xs us h1 h2 h3 =>
  simp only[af7];congr 2;apply List.ext_getElem
  ·simpa using h1
  ·intro i e f;have c:i<xs.length:=by omega
   have a:Fm xs[i]=true:=alB.1 b _ (alC c);have:=Ma a (h2 i _ (alE c));simp_all
 | _=>first|rfl|cases b
structure agd (P:Program) (f:FuncId) (p:Grow):Prop where
 callable:fl P f
 pos:0<p.k
 flat:∀ds alj cs,p.sem ds alj=some cs->(∀d∈ds,Fm d=true)∧(∀d∈alj,agw d=true)∧(∀d∈cs,Fm d=true)∧cs.length=p.k
 calls:∀(w:World) (gy:Nat×Nat) (ya:Array Value) (ty:Nat) (go:Option (Nat×Nat)) (u:Value) (n:Nat) (ds alj cs:List D),w.heap[gy.1]? = some (.cells ya ty (0,0))->ya[gy.2]? = some u->abg w p.ty p.k go u n (ds.map Pt) ->
  (∀g,go=some g->g.1≠gy.1)->ds.length=n*p.k->p.sem ds alj=some cs->(n+1)*p.bytes<=140737488355328 ->
  Calls P f (#[.pointer (some ⟨gy.1,gy.2,none⟩)]++(alj.map af7).toArray) w fun e w'=>e=.returned (.int .i64 (n:Int))∧eV (fun b=>b=gy.1∨xW go b) w w' ∧
   ∃(g:Nat×Nat) (c:Nat) (arr:Array Value),(w.heap.size<=g.1∨xW go g.1)∧w'.heap[gy.1]? = some (.cells (ya.setIfInBounds gy.2 (.slice (some ⟨g.1,g.2,none⟩) (n+1) c)) ty (0,0))∧w'.heap[g.1]? = some (.cells arr p.ty (0,0)) ∧
    n+1<=c∧c<=maxLen∧c*p.k+g.2=arr.size∧∀(j:Nat) x,((ds++cs).map Pt)[j]? = some x->arr[g.2+j]? = some x
structure KL (w:World) (Q:Nat->Prop) (blk:Nat->Option (Nat×Nat)) (h:Nat->Option Row):Prop where
 rows:∀x r,h x=some r->match blk x with|some g=>fh w Q g r|none=>r.cells=[]
 inj:∀x y r s g g',h x=some r->h y=some s->blk x=some g->blk y=some g'->g.1=g'.1->x=y
 pha:∀y r g,h y=some r->r.mp=true->blk y=some g->∀j x s n:Nat,r.cells[j]? = some (D.ph x s n)->Um y j x∧∃u,w.cell? ⟨g.1,g.2+j,none⟩=some u∧PhR w h blk x s n u
def jS (a t s b:Nat) (c:List D):Row:=⟨0,a,[.nr t s b c],false,true,true⟩
def pz (r:Row) (x:Nat):Option Row:=if x=0 then some r else none
def zX (blk:Nat->Option (Nat×Nat)) (h:Nat->Option Row) (b:Nat):Prop:=∃x r g,h x=some r∧blk x=some g∧g.1=b
def NH (P:Program) (f:FuncId) (k t s o:Nat) (m g:List D) (d:D) (j:List D):Prop :=
 ∀(w:World) (M:Nat->Prop) (blk:Nat->Option (Nat×Nat)) (h h':Nat->Option Row) (c:Nat×Nat) (l:Array Value),h=EH (pz (jS k t s 0 m))->h'=EH (pz (jS k t s 0 j)) ->
  (∀b,M b->b<w.heap.size)->(∀b,zX blk h b->¬M b)->blk 0=some c->KL w (fun b=>M b∨zX blk h b) blk h->Cb w (fun b=>M b∨zX blk h b) g l ->
  Calls P f (#[.pointer (some ⟨c.1,c.2+o,none⟩)]++l) w fun e i=>∃v a,e=.returned v∧eV (zX blk h) w i∧a 0=some c∧i.shape? c.1=w.shape? c.1∧(∀b,zX a h' b->w.heap.size<=b∨zX blk h b)∧KL i (fun b=>M b∨zX a h' b) a h'∧RP i (fun b=>M b∨zX a h' b) d v
def NG (P:Program) (f:FuncId) (a:List D) (g t s S n:Nat) (i:List D):Prop :=
 ∀(w:World) (M:Nat->Prop) (h:Nat->Option Row) (d:Array Value),h=EH (pz (jS g t s 0 i))->(∀b,M b->b<w.heap.size)->Cb w M a d ->
  Calls P f d w fun e c=>∃v blk,e=.returned v∧Below w.heap.size w c∧(∀b,zX blk h b->w.heap.size<=b)∧KL c (fun b=>M b∨zX blk h b) blk h∧EO c (blk 0) (.buf 0 0 S 0 n) v
structure bV (P:Program) (Γ:Env):Prop where
 calls:∀f cc args rk out,Γ.sem f cc args=some (rk,out)->vB P f cc args rk out∧fl P f
 ins:∀f p,Γ.ins f=some p->aa5 P f p
 grw:∀f p,Γ.grw f=some p->agd P f p
 lnd:∀f p,Γ.nx.lnd f=some p->fl P f∧∀ty t s o cs args d cs',p.2 ty t s o cs args=some (d,cs')->NH P f ty t s o cs args d cs'
 res:∀f p,Γ.nx.res f=some p->fl P f∧∀args ty t s S n cs,p args=some (ty,t,s,S,n,cs)->NG P f args ty t s S n cs
def eS.get {P:Program} {t:Nat} {τ:Ty} (h:eS P t τ):∃d i z,P.underlying t=some d∧conv d=τ.ds∧P.info? t=some i∧i.size=τ.size∧i.bytes=τ.bytes∧i.zero=some z∧z.cells=τ.zero.toArray:=by
 have b:=h.desc;have a:=h.info;cases c:P.underlying t with
 | none=>simp[c]at b
 | some d =>
  cases e:P.info? t with
  | none=>simp[e]at a
  | some i =>
   simp only[c,Option.map_some,alz]at b;simp only[e,Option.map_some,alz,Prod.mk.injEq]at a;cases f:i.zero with
   | none=>simp[f]at a
   | some z =>
    grind
def fm (P:Program) (o:Oper) (a:Act) (w:World) (Φ:Value->World->Prop):Prop :=
 (∃v c,(execOp a.eval o).run P w=.ok (.value v) c∧Φ v c)∨(∃c,(execOp a.eval o).run P w=.ok .skip c∧Φ undef c) ∨
 (∃f b,(execOp a.eval o).run P w=.ok (.enter f b) w∧Calls P f b w (fun e c=>∃v,e=.returned v∧Φ v c))
def fm.mono {P:Program} {o:Oper} {a:Act} {w:World} {Φ Ψ:Value->World->Prop} (h:fm P o a w Φ) (i:∀v b,Φ v b->Ψ v b):fm P o a w Ψ:=by
 rcases h with⟨v,b,c,d⟩|⟨b,c,d⟩|⟨f,g,c,d⟩
 ·exact .inl ⟨v,b,c,i _ _ d⟩
 ·exact .inr (.inl ⟨b,c,i _ _ d⟩)
 ·exact .inr (.inr ⟨f,g,c,d.mono fun e b ⟨v,j,k⟩=>⟨v,j,i _ _ k⟩⟩)
def fm.wp {P:Program} {o:Oper} {a:Act} {w:World} {Φ:Value->World->Prop} {K:Act->World->Prop} {Q:Exit->Act->World->Prop} (h:fm P o a w Φ) (g:∀v b,Φ v b->K (a.put o.dst v) b):o.wp P a w K Q:=by
 unfold Oper.wp;rcases h with⟨v,b,c,d⟩|⟨b,c,d⟩|⟨f,i,c,d⟩
 ·rw[c];exact g v b d
 ·rw[c];exact g undef b d
 ·rw[c];refine d.mono fun e b ⟨v,j,k⟩ =>?_;simp_all
section
variable {N:Nat} {M:Nat->Prop} {L:lG} {w0:World} {blk:Nat->Option (Nat×Nat)} {V:Nat->Nat->Prop} {t:Nat->D} {h:Nat->Option Row} {a:Act} {w:World}
structure s6 (M:Nat->Prop) (h:Nat->Option Row) (blk:Nat->Option (Nat×Nat)) (fr:List Nat) (M':Nat->Prop):Prop where
 le:∀b,M' b->Own M h blk b
 no:∀x,x∈fr->∀r g,h x=some r->blk x=some g->¬M' g.1
def s6.left {b a:List Nat} {c:Nat->Prop} (hl:s6 M h blk (b++a) c):s6 M h blk b c:=⟨hl.le,fun x d=>hl.no x (alF _ d)⟩
def s6.right {c a:List Nat} {b:Nat->Prop} (hl:s6 M h blk (c++a) b):s6 M h blk a b:=⟨hl.le,fun x d=>hl.no x (alG _ d)⟩
def Inv.ic (n:Inv N M L w0 blk V t h a w) (o:List Nat):s6 M h blk o (Own M (aZ h (lh h o)) blk) where
 le b c:=by
  rcases c with c|⟨x,l,g,d,e,k,rfl⟩
  ·exact .inl c
  ·rw[DM]at d;split at d
   ·cases i:h x with
    | none=>simp[i]at d
    | some r=>simp only[i,Option.map_some,alz]at d;subst d;rw[Oj]at e;cases e
   ·exact .inr ⟨x,l,g,d,e,k,rfl⟩
 no x d r g i k c:=by
  rcases c with c|⟨y,l,p,f,e,m,q⟩
  ·exact n.notM i k c
  ·rw[DM]at f;split at f
   ·cases j:h y with
    | none=>simp[j]at f
    | some s=>simp only[j,Option.map_some,alz]at f;subst f;rw[Oj]at e;cases e
   ·rename_i u;have:y=x:=n.inj y x l r p g f i m k q;simp_all
def Inv.Mk (j:Inv N M L w0 blk V t h a w) (d:List Nat):s6 M h blk d (fun b=>Own M h blk b∧∀x,x∈d->∀r g,h x=some r->blk x=some g->g.1≠b) where
 le b c:=c.1
 no x e r g f i c:=c.2 x e r g f i rfl
def uo {x v:Nat} {r:Row} (a:rY h x v=some r):h x=some r∧r.v=v:=by
 unfold rY at a;grind
def cX {x v:Nat} {r:Row} (a:live h x v=some r):h x=some r∧r.v=v:=by
 unfold live at a;grind
def jR {x v:Nat} {r:Row} (a:live h x v=some r):r.mp=false:=by
 unfold live at a;grind
def Fv {x v:Nat} {r:Row} (a:BL h x v=some r):h x=some r∧r.v=v∧r.mp=true∧yt r=true:=by
 unfold BL at a;grind
def Iv {r:Row} (h:r.mp=false):yt r=true:=by unfold yt;rw[h]
def C0 {r:Row} (h:yt r=true) (c:r.mp=true):∃a b,r.cells=[.mpc a b]:=by
 unfold yt at h;grind
def Ir {x v:Nat} {a:List eB} {b:List D} (c:ny h x v=some (a,b)):∃r,h x=some r∧r.v=v∧r.mp=true∧r.cells=[.mpc a b]∧r.ty<900000:=by
 unfold ny at c;grind
def kQ {α:Type} (l:List α) (o n j:Nat):((l.drop o).take n)[j]? = if j<n then l[o+j]? else none:=by
 grind
def Inv.Ck (i:Inv N M L w0 blk V t h a w) {x v s o n:Nat} {r:Row} {u:Value} (k:live h x v=some r) (p:RT w (Own M h blk) h blk V (.buf x v s o n) u) :
  (∃(g:Nat×Nat) (o' c:Nat) (b:Array Value),blk x=some g∧u=.slice (some ⟨g.1,o',none⟩) n c∧n<=c∧c<=maxLen∧w.heap[g.1]? = some (.cells b r.ty (0,0))∧(0<c∨o=0->o'=g.2+o∧c*s+o'=b.size) ∧
   g.2+r.cells.length<=b.size∧∀j d,r.cells[j]? = some d->bE d=true∧RP w (Own M h blk) d (b.getD (g.2+j) undef))∨(blk x=none∧n=0∧r.cells=[]∧∃A,u=.slice A 0 0):=by
 obtain⟨f,q⟩:=cX k;rcases p.2 r f q with⟨g,o',c,y,z,e,l,m,D,E,B⟩|⟨e,l,A,m⟩
 ·obtain⟨b,C,F,G⟩:=i.Iq f e (jR k);have:(r.ty,b.size)=(z,y):=by simpa [World.shape?,C] using B
  grind
 ·have:=(i.rows x r f).2;rw[e]at this;exact .inr ⟨e,l,this,A,m⟩
def bm {w:World} {g:Nat} {a:Array Value} {b:Nat} (c:w.heap[g]? = some (.cells a b (0,0))) {j:Nat} (d:j<a.size):w.cell? ⟨g,j,none⟩=some (a.getD j undef):=by
 simp[World.cell?,c,d]
def Inv.eY (G:Inv N M L w0 blk V t h a w) {d q:D} {H:List Nat} {u:Value} {z:Nat->Prop} (e:eY h d=some (q,H)) (I:s6 M h blk H z) (l:RT w (Own M h blk) h blk V d u):RP w z q u∧bE q=true:=by
 have m:∀b,b<w.heap.size->¬Own M h blk b->b<w.heap.size∧¬z b∧w.heap[b]? = w.heap[b]?:=fun b O h2=>⟨O,fun P=>h2 (I.le b P),rfl⟩;cases d with
 | int k n=>simp only[Am.eY,alz,Prod.mk.injEq]at e;obtain⟨rfl,rfl⟩:=e;exact⟨RP.keep m l,rfl⟩
 | bool b=>simp only[Am.eY,alz,Prod.mk.injEq]at e;obtain⟨rfl,rfl⟩:=e;exact⟨RP.keep m l,rfl⟩
 | str s=>simp only[Am.eY,alz,Prod.mk.injEq]at e;obtain⟨rfl,rfl⟩:=e;exact⟨RP.keep m l,rfl⟩
 | sl x y n xs=>simp only[Am.eY,alz,Prod.mk.injEq]at e;obtain⟨rfl,rfl⟩:=e;exact⟨RP.keep m l,rfl⟩
 | buf x v s o n =>
  simp only[Am.eY]at e;split at e
  ·rename_i r i;split at e
   ·rename_i Q;simp only[alz,Prod.mk.injEq]at e;obtain⟨rfl,rfl⟩:=e;rcases G.Ck i l with⟨g,R,c,cs,B,C,J,E,S,T,Y,U⟩|⟨B,C,J,A,E⟩
    ·subst C;refine⟨.sl (some ⟨g.1,R,none⟩) c false false n _ (fun j=>cs.getD (g.2+(o+j)) undef) J E (fun h=>by cases h) (fun h=>by cases h) (fun h=>by cases h) (fun W =>?_) (fun j y f =>?_) (fun y F =>?_),rfl⟩
     ·have Z:0<n:=by
       rcases alH n with K|K
       ·simp_all
       ·exact K
      have X:=(T (.inl (by omega))).1;subst X;refine⟨g.1,g.2+o,rfl,G.lt (cX i).1 B,I.no x (by simp) r g (cX i).1 B,fun j f =>?_⟩;simp only[alI,alJ]at f;rw[alK];exact bm S (by omega)
     ·rw[kQ]at f;split at f
      ·exact (U _ _ f).2.keep m
      ·cases f
     ·obtain⟨j,f⟩:=alL F;grind
    ·subst C E;have p:List.take (0*s) (List.drop o r.cells)=[]:=by simp
     rw[p];exact⟨.sl A 0 false false 0 [] (fun _=>undef) (alq _) (alr _) (fun h=>by cases h) (fun _=>⟨rfl,rfl⟩) (fun h=>by cases h) (fun h=>absurd rfl h) (fun j y f=>by simp at f) (fun y F=>by simp at F),rfl⟩
   ·cases e
  ·cases e
 | _=>simp[Am.eY]at e
def Ab {h:Nat->Option Row} {d:D} (b:∀a,d ≠ .agg a):Am.tU h d=Am.eY h d:=by
 cases d<;>first|rfl|simp_all
def Inv.tU (m:Inv N M L w0 blk V t h a w) {d i:D} {j:List Nat} {u:Value} {e:Nat->Prop} (c:tU h d=some (i,j)) (k:s6 M h blk j e) (l:RT w (Own M h blk) h blk V d u):RP w e i u:=by
 by_cases f:∀g,d ≠ .agg g
 ·rw[Ab f]at c;exact (m.eY c k l).1
 ·have n:∀b,b<w.heap.size->¬Own M h blk b->b<w.heap.size∧¬e b∧w.heap[b]? = w.heap[b]?:=fun b o h2=>⟨o,fun p=>h2 (k.le b p),rfl⟩;simp only[ne_eq,Classical.not_forall,Classical.not_not]at f;obtain⟨g,rfl⟩:=f;simp only[Am.tU,alz,Prod.mk.injEq]at c;obtain⟨rfl,rfl⟩:=c;exact RP.keep n (show RP w (Own M h blk) (.agg g) u from l)
def Inv.Sf (A:Inv N M L w0 blk V t h a w) {x v:Nat} {f:List eB} {i:List D} {u:Value} (B:ny h x v=some (f,i)) (C:RT w (Own M h blk) h blk V (.mp x v) u) :
  ∃(g:Nat×Nat) (r:Row),h x=some r∧r.v=v∧r.mp=true∧r.cells=[.mpc f i]∧blk x=some g∧u=.map (some g.1)∧i.length=f.length∧∃(b:Array MapEntry) (c:Nat),w.heap[g.1]? = some (.map b c)∧b.size=f.length∧MapKept.Stamped b c∧∃l:Nat->Value,(∀j k,f[j]? = some k->∃e:MapEntry,b[j]? = some e∧e.key=oL k∧e.val=l j)∧∀j x,i[j]? = some x->RP w (Own M h blk) x (l j):=by
 obtain⟨r,m,s,y,n,o⟩:=Ir B;obtain⟨g,z,E⟩:=C.2 r m s;have d:=A.rowIs m z;unfold fh at d;rw[y]at d;rcases d with d|⟨d,_⟩;rotate_left
 ·rw[n]at d;have:=d _ (alM.2 rfl);cases this
 obtain⟨F,G,p,H,I,_⟩:=d;obtain⟨b,c,J,K,q,l,O,P⟩:=I o;rw[n]at p;simp only[alO,D.mpc.injEq,and_true]at p;obtain⟨rfl,rfl⟩:=p;exact⟨g,r,m,s,y,n,z,E,H,b,c,J,K,q,l,O,P⟩
def Inv.XT (l:Inv N M L w0 blk V t h a w) {x v:Nat} {c:List eB} {d:List D} {u:Value} {e:Nat->Prop} (m:ny h x v=some (c,d)) (n:∀r g,h x=some r->blk x=some g->¬e g.1)
  (o:∀b,b<w.heap.size->¬Own M h blk b->b<w.heap.size∧¬e b∧w.heap[b]? = w.heap[b]?) (p:RT w (Own M h blk) h blk V (.mp x v) u):RP w e (.mpc c d) u:=by
 obtain⟨g,r,A,B,C,E,F,rfl,q,k,f,G,H,_,s,I,i⟩:=l.Sf m p;refine .mpc c d (some g.1) s q (fun h=>by cases h) (fun b J =>?_) (fun j y z=>(i j y z).keep o);grind
def Inv.bX (p:Inv N M L w0 blk V t h a w) {d E:D} {F:List Nat} {u:Value} {G:Nat->Prop} (c:bX h d=some (E,F)) (q:s6 M h blk F G) (e:RT w (Own M h blk) h blk V d u):RP w G E u:=by
 have A:∀b,b<w.heap.size->¬Own M h blk b->b<w.heap.size∧¬G b∧w.heap[b]? = w.heap[b]?:=fun b l h2=>⟨l,fun W=>h2 (q.le b W),rfl⟩;have one:∀d,Am.bX h d=(match Am.eY h d with|some (E,F)=>some (canon E,F)|none=>none)->Am.bX h d=some (E,F)->RT w (Own M h blk) h blk V d u->RP w G E u:=by
  intro d X c e;rw[X]at c;split at c
  ·rename_i d1 H l;simp only[alz,Prod.mk.injEq]at c;obtain⟨rfl,rfl⟩:=c;exact (p.eY l q e).1.canon
  ·cases c
 cases d with
 | ptr x v o =>
  simp only[Am.bX]at c;split at c
  ·rename_i r m;split at c
   ·rename_i Y;simp only[alz,Prod.mk.injEq]at c;obtain⟨rfl,rfl⟩:=c;obtain⟨i,I⟩:=cX m;obtain⟨g,B,J⟩:=e.2 r i I;obtain⟨cs,Z,g3,g4⟩:=p.Iq i B (jR m);subst J;refine .ip _ _ (fun j=>cs.getD (g.2+(o+j)) undef) (fun aa=>⟨g.1,g.2+o,rfl,p.lt i B,q.no x (by simp) r g i B,fun j k =>?_⟩) (fun j y k =>?_) (fun y hy =>?_)
    ·simp only[alJ]at k;rw[alK];exact bm Z (by omega)
    ·rw[alP]at k;exact (g4 _ _ k).2.keep A
    ·obtain⟨j,k⟩:=alL hy;grind
   ·cases c
  ·cases c
 | agg xs=>simp only[Am.bX,alz,Prod.mk.injEq]at c;obtain⟨rfl,rfl⟩:=c;exact (RP.keep A e).kp
 | ip xs=>simp only[Am.bX,alz,Prod.mk.injEq]at c;obtain⟨rfl,rfl⟩:=c;exact RP.keep A e
 | fn f=>simp only[Am.bX,alz,Prod.mk.injEq]at c;obtain⟨rfl,rfl⟩:=c;exact RP.keep A e
 | box1 x v s o n =>
  simp only[Am.bX]at c;split at c
  ·rename_i d1 H l;simp only[alz,Prod.mk.injEq]at c;obtain⟨rfl,rfl⟩:=c;obtain⟨u',rfl,_,e⟩:=e;obtain⟨Q,K⟩:=p.eY l q (show RT w (Own M h blk) h blk V (.buf x v s o n) u' from e);refine .agg _ [u'] rfl (fun j x k =>?_) (fun x i =>?_)
   ·cases j with
    | zero=>simp only[List.getElem?_cons_zero,alz]at k;subst k;exact Q.canon
    | succ j=>simp at k
   ·simp only[alM]at i;rw[i,p8];exact K
  ·cases c
 | mpc R S=>simp only[Am.bX,alz,Prod.mk.injEq]at c;obtain⟨rfl,rfl⟩:=c;exact RP.keep A e
 | mp x v =>
  simp only[Am.bX]at c;split at c
  ·rename_i R S l;simp only[alz,Prod.mk.injEq]at c;obtain⟨rfl,rfl⟩:=c;exact p.XT l (q.no x (by simp)) A e
  ·cases c
 | pm x v y =>
  simp only[Am.bX]at c;split at c
  ·rename_i r m;split at c
   ·rename_i O T P;split at c
    ·rename_i C;obtain⟨c1,c2,rfl⟩:=C;split at c
     ·rename_i R S l;simp only[alz,Prod.mk.injEq]at c;obtain⟨rfl,rfl⟩:=c;obtain⟨i,I⟩:=cX m;obtain⟨g,B,J⟩:=e.2 r i I;obtain⟨u',Q,K⟩:=p.ali x r g i c1 c2 B 0 (.alm O T) (.mp O T) (by rw[P];rfl) rfl;have k3:=p.XT l (q.no O (by simp)) A K;subst J;refine .ip _ _ (fun _=>u') (fun _=>⟨g.1,g.2+0,rfl,p.lt i B,q.no x (by simp) r g i B,fun j k =>?_⟩) (fun j z k =>?_) (fun z U =>?_)
      ·simp_all
      ·grind
      ·simp only[alM]at U;subst U;rfl
     ·cases c
    ·cases c
   ·cases c
  ·cases c
 | _=>exact one _ rfl c e
def GL {w:World} {M:Nat->Prop} {h:Nat->Option Row} {blk:Nat->Option (Nat×Nat)} {V:Nat->Nat->Prop} {d:D} {u:Value} (a:RC w M h blk V d u):RT w M h blk V d u:=by
 cases d with
 | ptr x v o=>exact a
 | mp x v=>exact a
 | pm x v y=>exact a
 | _=>exact ca a
def Inv.eC (k:Inv N M L w0 blk V t h a w) {l:Nat->Prop} : ∀ {e b:List D} {f:List Nat} {us:List Value},eC h e=some (b,f)->s6 M h blk f l->us.length=e.length ->
  (∀j d,e[j]? = some d->RT w (Own M h blk) h blk V d (us.getD j undef))->us.length=b.length∧∀j d,b[j]? = some d->RP w l d (us.getD j undef)
 | [],b,f,us,c,g,hlen,i=>by
  simp only[Am.eC,alz,Prod.mk.injEq]at c;simp_all
 | d::e,b,f,us,c,g,hlen,i=>by
  simp only[Am.eC]at c;split at c
  ·rename_i d1 m n;split at c
   ·rename_i o p q;simp only[alz,Prod.mk.injEq]at c;obtain⟨rfl,rfl⟩:=c;cases us with
    | nil=>simp at hlen
    | cons u us =>
     have s:=k.bX n g.left (i 0 d rfl);obtain⟨v,x⟩:=k.eC q g.right (by simpa using hlen) (fun j d r=>by simpa using i (j+1) d (by simpa using r));grind
   ·cases c
  ·cases c
def Inv.cZ (c:Inv N M L w0 blk V t h a w) {d e:D} {g:List Nat} {u:Value} {i:Nat->Prop} (b:cZ h d=some (e,g)) (k:s6 M h blk g i) (l:RT w (Own M h blk) h blk V d u):RP w i e u:=by
 cases d with
 | clo f m xs =>
  simp only[Am.cZ]at b;split at b
  ·rename_i n o p;simp only[alz,Prod.mk.injEq]at b;obtain⟨rfl,rfl⟩:=b;obtain⟨q,r,s,v⟩:=l;subst r;obtain⟨x,y⟩:=c.eC p k s (fun j d z=>GL (v j d z));exact .clo f m n q x y
  ·cases b
 | _=>exact c.bX (by rw[<- b];rfl) k l
def Inv.b9 (k:Inv N M L w0 blk V t h a w) {l:Nat->Prop} : ∀ {e b:List D} {f:List Nat} {us:List Value},b9 h e=some (b,f)->s6 M h blk f l->us.length=e.length ->
  (∀j d,e[j]? = some d->RT w (Own M h blk) h blk V d (us.getD j undef))->us.length=b.length∧∀j d,b[j]? = some d->RP w l d (us.getD j undef)
 | [],b,f,us,c,g,hlen,i=>by
  simp only[Am.b9,alz,Prod.mk.injEq]at c;simp_all
 | d::e,b,f,us,c,g,hlen,i=>by
  simp only[Am.b9]at c;split at c
  ·rename_i d1 m n;split at c
   ·rename_i o p q;simp only[alz,Prod.mk.injEq]at c;obtain⟨rfl,rfl⟩:=c;cases us with
    | nil=>simp at hlen
    | cons u us =>
     have s:=k.cZ n g.left (i 0 d rfl);obtain⟨v,x⟩:=k.b9 q g.right (by simpa using hlen) (fun j d r=>by simpa using i (j+1) d (by simpa using r));grind
   ·cases c
  ·cases c
def Inv.gY (s:Inv N M L w0 blk V t h a w) {d:D} {c:List D} {f:List Nat} {u:Value} {k:Nat->Prop} (n:gY h d=some (c,f)) (r:s6 M h blk f k) (o:RT w (Own M h blk) h blk V d u) :
  u.cells.size=c.length∧∀j x,c[j]? = some x->bE x=true∧RP w k x (u.cells.getD j undef):=by
 have v:∀b,b<w.heap.size->¬Own M h blk b->b<w.heap.size∧¬k b∧w.heap[b]? = w.heap[b]?:=fun b g h2=>⟨g,fun y=>h2 (r.le b y),rfl⟩;have one:∀d,(∀l,d ≠ .agg l)->Am.gY h d=some (c,f)->RT w (Own M h blk) h blk V d u->u.cells.size=c.length∧∀j x,c[j]? = some x->bE x=true∧RP w k x (u.cells.getD j undef):=by
  intro d z n o;have:∃i,Am.eY h d=some (i,f)∧c=[i]:=by
   have e:Am.gY h d=match Am.eY h d with|some (i,f)=>some ([i],f)|none=>none:=by
    cases d<;>first|rfl|simp_all
   grind
  obtain⟨i,g,rfl⟩:=this;obtain⟨h2,p⟩:=s.eY g r o;rw[h2.cells p];refine⟨rfl,fun j x m =>?_⟩;cases j with
  | zero=>simp_all
  | succ j=>simp at m
 cases d with
 | agg l =>
  simp only[Am.gY,alz,Prod.mk.injEq]at n;obtain⟨rfl,rfl⟩:=n;have q:RP w (Own M h blk) (.agg l) u:=o;cases q with
  | agg l us g h2 p =>
   refine⟨by simp[Value.cells,g],fun j x m=>⟨p x (alR m),?_⟩⟩;have:=(h2 j x m).keep v;simpa [Value.cells] using this
 | _=>grind
end
def tO (g o j:Nat):(⟨g,o,none⟩:Addr).add j=⟨g,o+j,none⟩:=by unfold Addr.add;split<;>simp_all
def At (w:World) (M:Nat->Prop) (g o:Nat) (a:List D):Prop:=∀j x,a[j]? = some x->bE x=true∧∃v,w.cell? ⟨g,o+j,none⟩=some v∧RP w M x v
def At.drop {w:World} {M:Nat->Prop} {g o:Nat} {a:List D} (h:At w M g o a) (k:Nat):At w M g (o+k) (a.drop k):=by
 intro j x b;rw[alP]at b;obtain⟨c,v,d,e⟩:=h _ _ b;grind
def At.take {w:World} {M:Nat->Prop} {g o:Nat} {b:List D} (h:At w M g o b) (k:Nat):At w M g o (b.take k):=by
 intro j x a;rw[alS]at a;split at a
 ·exact h _ _ a
 ·cases a
def At.EJ {w:World} {M:Nat->Prop} {g o:Nat} {b:List D} (h:At w M g o b) :
  ∃d:List Value,d.length=b.length∧(∀j u,d[j]? = some u->w.cell? ⟨g,o+j,none⟩=some u)∧(∀j x,b[j]? = some x->RP w M x (d.getD j undef))∧(∀x∈b,bE x=true):=by
 refine⟨(List.range b.length).map fun j=>(w.cell? ⟨g,o+j,none⟩).getD undef,by simp,fun j u c =>?_,fun j x c =>?_,fun x e =>?_⟩
 ·obtain⟨a,f⟩:=alT.1 c;simp only[alU,alV]at a;simp only[List.getElem_map,List.getElem_range]at f;obtain⟨_,v,i,_⟩:=h j _ (alE a);simp_all
 ·have a:j<b.length:=(alT.1 c).1;obtain⟨_,v,i,k⟩:=h j x c;simp_all
 ·obtain⟨j,c⟩:=alL e;exact (h j x c).1
section
variable {P:Program} {T:Nat->Option Ty}
def pg {a:Nat} {τ:Ty} (b:eS P a τ) (w:World):(isAgg a).run P w=.ok τ.ds.we w:=by
 obtain⟨d,i,z,c,e,f,g,h,j,k⟩:=b.get;rw[<- e];simp only[isAgg,alW,run_underlying c,Result.andThen_ok]<;>cases d<;>rfl
def run_sizeOf {a:Nat} {τ:Ty} (b:eS P a τ) (w:World):(sizeOf a).run P w=.ok τ.size w:=by
 obtain⟨d,i,z,f,g,c,e,h,j,k⟩:=b.get;simp[Go.sizeOf,typeInfo,c,e]
def lB {a:Nat} {τ:Ty} (b:eS P a τ) (w:World):∃z,(zeroValue a).run P w=.ok z w∧z.cells=τ.zero.toArray:=by
 obtain⟨d,i,z,g,h,c,j,k,e,f⟩:=b.get;exact⟨z,by simp[zeroValue,typeInfo,c,e],f⟩
def nd {b:Nat} {τ:Ty} (c:eS P b τ) (w:World) (g o:Nat) (us:List Value) (e:us.length=τ.size) (d:∀j u,us[j]? = some u->w.cell? ⟨g,o+j,none⟩=some u)
  (f:τ.ds.we=false->us.length=1):(loadVar b ⟨g,o,none⟩).run P w=.ok (if τ.ds.we then .agg us.toArray else us.getD 0 undef) w:=by
 simp only[loadVar,alW,pg c,Result.andThen_ok];cases h:τ.ds.we with
 | true =>
  have:=run_loadCells_list (P:=P) w ⟨g,o,none⟩ us (fun j v i=>by rw[tO];exact d j v i);rw[e]at this;simp[run_sizeOf c,this]
 | false =>
  have a:=f h
  match us,a with
  | [u],_ =>
   have:=d 0 u rfl;simp_all
variable {N:Nat} {M:Nat->Prop} {L:lG} {w0:World} {blk:Nat->Option (Nat×Nat)} {V:Nat->Nat->Prop} {t:Nat->D} {h:Nat->Option Row} {a:Act} {w:World} {e:Nat} {o:Oper} {Γ:Env}
def bA (N:Nat) (M:Nat->Prop) (L:lG) (w0:World) (V:Nat->Nat->Prop) (t:Nat->D) (h:Nat->Option Row) (a:Act) (e:Nat) (c:Option Nat) (E:cH) (v:Value) (d:World):Prop :=
 ∃b,Inv N M L w0 b (fun x n=>V x n∨(c=some x∧n=e)) t (aZ h E.hw) a d ∧
  RT d (Own M (aZ h E.hw) b) (aZ h E.hw) b (fun x n=>V x n∨(c=some x∧n=e)) E.val v
def bA.eU (g:Inv N M L w0 blk V t h a w) {d:D} {v:Value} {b:Option Nat} (i:RT w (Own M h blk) h blk V d v):bA N M L w0 V t h a e b ⟨d,[]⟩ v w :=
 ⟨blk,g.weaken fun _ _ h =>.inl h,i.mono ⟨fun _ c f=>⟨c,f,rfl⟩,fun _ _ h =>.inl h,fun _ _ _ j c f=>⟨⟨j,c,f⟩,rfl,fun _ _=>rfl⟩⟩⟩
def bA.Og (f:Inv N M L w0 blk V t h a w) {d:D} {v:Value} {b:Option Nat} (c:List Nat) (g:RP w (Own M (aZ h (lh h c)) blk) d v):bA N M L w0 V t h a e b ⟨d,lh h c⟩ v w :=
 ⟨blk,(f.freeze c).weaken fun _ _ h =>.inl h,ca g⟩
def aP {v:Value} {w':World} {Φ:Value->World->Prop} (b:(execOp a.eval o).run P w=.ok (.value v) w') (c:Φ v w'):fm P o a w Φ := .inl ⟨v,w',b,c⟩
def LH (c:Inv N M L w0 blk V t h a w) {x:Operand} (b:o.op=.move x∨o.op=.assign x):fm P o a w (bA N M L w0 V t h a e o.dst ⟨ev t x,[]⟩):=by
 refine aP (v:=a.eval x) (w':=w) ?_ (bA.eU c (c.ev x));rcases b with b|b<;>simp[execOp,b]
def Fa (k:Inv N M L w0 blk V t h a w) {p:Nat} {x:Operand} {E:cH} (D:o.op=.assign x) (F:∀d,o.dst=some d->kZ N V d e) (b:dH T p e o.dst h (ev t x)=some E):fm P o a w (bA N M L w0 V t h a e o.dst E):=by
 have G:=k.ev x;have i:E=⟨ev t x,[]⟩->fm P o a w (bA N M L w0 V t h a e o.dst E):=fun h=>by subst h;exact LH k (.inr D)
 generalize ev t x=q at *;have f:(execOp a.eval o).run P w=.ok (.value (a.eval x)) w:=by simp[execOp,D]
 cases q with
 | buf y v s c n =>
  simp only[dH]at b;split at b
  ·rename_i d r l z;split at b
   ·simp_all
   ·rename_i H;simp only[Bool.not_eq_true]at H;simp only[alz]at b;subst b;obtain⟨I,O⟩:=cX z;have j:=k.abm (w':=w) (h1:=forget h (some y)) (old:=some y) (d:=d) (e:=e) (ty:=r.ty) (lst:=r.lst) (fz:=r.fz) (hfz:=H) (go:=blk y) (cs:=r.cells) rfl rfl rfl (alq _) (fun _ _ _=>rfl)
     (fun Q m=>by simp_all) rfl (F d l) (by
      have:=(k.rows y r I).2;cases K:blk y with
      | none=>rw[K]at this;exact this
      | some g =>
       rw[K]at this;have B:=this.2;unfold fh at B;rw[jR z]at B;obtain⟨J,Z,k2,k3⟩:=B;grind)
    have R:({ r with v:=e } : Row)=⟨e,r.ty,r.cells,r.fz,r.lst,false⟩:=by rw[<- jR z]
    rw[R];refine aP f ⟨cq blk d (blk y),?_,?_⟩
    ·show Inv _ _ _ _ _ _ _ (cq (cq h y none) d (some _)) _ _;refine j.weaken fun x v S =>?_;grind
    ·refine⟨.inr ⟨l,rfl⟩,fun U _ _ =>?_⟩;rw[ay];exact G.2 r I O
  ·split at b
   ·simp_all
   ·simp only[alz]at b;subst b;exact aP f ⟨blk,k.weaken fun _ _ h =>.inl h,trivial⟩
 | sl nl tight n xs =>
  unfold dH at b;split at b
  ·simp_all
  ·rename_i W;cases W;split at b
   ·rename_i d τ l hτ;split at b
    ·rename_i el X;split at b
     ·rename_i φ hφ;simp only[alz]at b;subst b;have Y:a.eval x=.slice none 0 0:=by
       have C:RP w (Own M h blk) (.sl true true 0 []) (a.eval x):=G;generalize a.eval x=u at *;cases C with
       | sl A c nl tight n xs us h1 h2 h3 h4 h5 h6 h7 h8=>simp_all
      have j:=k.abm (w':=w) (h1:=forget h none) (old:=none) (d:=d) (e:=e) (ty:=el) (lst:=true) (fz:=false) (go:=none) (cs:=[]) rfl rfl rfl (alq _) (fun _ _ _=>rfl)
       (fun Q m=>by cases m) rfl (F d l) rfl
      refine aP f ⟨cq blk d none,?_,?_⟩
      ·refine j.weaken fun x v S =>?_;grind
      ·refine⟨.inr ⟨l,rfl⟩,fun U _ _ =>.inr ⟨ay _ _ _,rfl,none,Y⟩⟩
     ·cases b
    ·cases b
   ·cases b
  simp_all
 | _=>exact i (by simp only[dH,alz]at b;exact b.symm)
def ab5 (c:Inv N M L w0 blk V t h a w) {k:Nat} {q:Nat->Bool} {x:Operand} {E:cH} (f:o.op=.assign x) (i:∀d,o.dst=some d->kZ N V d e) (b:vF T q k e o.dst h (ev t x)=some E):fm P o a w (bA N M L w0 V t h a e o.dst E):=by
 have l:=c.ev x;unfold vF at b;split at b
 ·rename_i d g;split at b
  ·rw[<- g]at b;exact Fa c f i b
  ·unfold pO at b;split at b
   ·rename_i n j m;simp only[alz]at b;subst b;exact aP (v:=a.eval x) (w':=w) (by simp[execOp,f]) (bA.Og c j (c.tU m (c.ic j) l).kp)
   ·cases b
 ·rename_i g;rw[<- g]at b;exact Fa c f i b
def zY {b:Bool} {u:Value} {h:Nat->Option Row} (a:RT w M h blk V (.bool b) u):u=.bool b:=by
 have c:RP w M (.bool b) u:=a;cases c;rfl
def pI {k:IntKind} {n:Int} {u:Value} {h:Nat->Option Row} (a:RT w M h blk V (.int k n) u):u=.int k n:=by
 have b:RP w M (.int k n) u:=a;cases b;rfl
def GN {s:ByteArray} {u:Value} {h:Nat->Option Row} (a:RT w M h blk V (.str s) u):u=.string s:=by
 have b:RP w M (.str s) u:=a;cases b;rfl
def LI (d:Inv N M L w0 blk V t h a w) {c x y:Operand} {b:Bool} (g:o.op=.pick c x y) (i:ev t c=.bool b):fm P o a w (bA N M L w0 V t h a e o.dst ⟨ev t (if b then x else y),[]⟩):=by
 refine aP (v:=a.eval (if b then x else y)) (w':=w) ?_ (bA.eU d (d.ev _));have f:=d.ev c;rw[i]at f;have j:=zY f;cases b<;>simp[execOp,g,j,asBool]
def uM (a:List Value) (g:(a.map rH).all bE=true) {w:World} {M:Nat->Prop} (j:Nat) (x:D) (b:(a.map rH)[j]? = some x):bE x=true∧RP w M x (a.toArray.getD j undef):=by
 have f:bE x=true:=by
  grind
 refine⟨f,?_⟩;rw[aln]at b;cases c:a[j]? with
 | none=>simp[c]at b
 | some v =>
  simp only[c,Option.map_some,alz]at b;subst b;have e:a.toArray.getD j undef=v:=by simp[c]
  rw[e];have:=abe w M (fun _=>none) (fun _=>none) (fun _ _=>True) v;generalize rH v=d at *;cases d<;>first|exact this|simp[bE]at f
def GM {d e:Nat} {g:Nat×Nat} {o:Nat} {b:Nat->Nat->Prop} {c:Nat->Option Row} {a:Nat->Option (Nat×Nat)} (f:b d e) (h:a d=some g):RT w M c a b (.ptr d e o) (.pointer (some ⟨g.1,g.2+o,none⟩)) :=
 ⟨f,fun _ _ _=>⟨g,h,rfl⟩⟩
def UB {hint:Nat->Option Nat} (l:ke P T) (m:Inv N M L w0 blk V t h a w) {b d:Nat} {τ:Ty} (n:o.op=.alloc b) (k:o.dst=some d) (p:T b=some τ) (q:kZ N V d e) (r:(τ.zero.map rH).all bE=true) :
  fm P o a w (bA N M L w0 V t h a e o.dst ⟨match hint d with|some y =>.pm d e y|none =>.ptr d e 0,[(d,some ⟨e,b,τ.zero.map rH,false,false,false⟩)]⟩):=by
 obtain⟨z,c,f⟩:=lB (l b τ p) w;have i:=m.alloc (d:=d) (e:=e) (ty:=b) (lst:=false) (cs:=τ.zero.map rH) (vs:=τ.zero.toArray) q (by simp) (fun j x s=>uM τ.zero r j x s);refine aP (v := .pointer (some ⟨w.heap.size,0,none⟩)) (w':=w.alloc (.cells τ.zero.toArray b)) ?_ ⟨cq blk d (some (w.heap.size,0)),?_,?_⟩
 ·simp[execOp,n,Instr.alloc,c,newVar,newRow,f]
 ·refine i.weaken fun x v u =>?_;grind
 ·cases hint d with
  | none=>exact GM (g:=(w.heap.size,0)) (o:=0) (.inr ⟨k,rfl⟩) (ay _ _ _)
  | some y=>exact⟨.inr ⟨k,rfl⟩,fun _ _ _=>⟨(w.heap.size,0),ay _ _ _,rfl⟩⟩
def DN {a:List Nat} {x:Nat} (b:a.contains x=false):aZ h (lh h a) x=h x:=by
 rw[DM,if_neg (by simpa using b)]
def ab7 (i:Inv N M L w0 blk V t h a w) {b d:Nat} {x:Operand} {c:List D} {f:List Nat} (j:o.op=.box b x) (k:o.dst=some d) (l:kZ N V d e) (m:gY h (ev t x)=some (c,f)) :
  fm P o a w (bA N M L w0 V t h a e o.dst ⟨.ptr d e 0,lh h f++[(d,some ⟨e,b,c,false,false,false⟩)]⟩):=by
 obtain⟨q,n⟩:=i.gY m (i.ic f) (i.ev x);have p:=(i.freeze f).alloc (d:=d) (e:=e) (ty:=b) (lst:=false) (cs:=c) (vs:=(a.eval x).cells) l (by omega) n;refine aP (v := .pointer (some ⟨w.heap.size,0,none⟩)) (w':=w.alloc (.cells (a.eval x).cells b)) ?_ ⟨cq blk d (some (w.heap.size,0)),?_,?_⟩
 ·simp[execOp,j,Instr.box,newVar,newRow]
 ·show Inv _ _ _ _ _ _ _ (aZ h (lh h f++[(d,some ⟨e,b,c,false,false,false⟩)])) _ _;rw[jc];grind
 ·exact GM (g:=(w.heap.size,0)) (o:=0) (.inr ⟨k,rfl⟩) (ay _ _ _)
def Inv.rowAt (f:Inv N M L w0 blk V t h a w) {x:Nat} {r:Row} {g:Nat×Nat} (i:h x=some r) (k:blk x=some g) (b:r.mp=false):At w (Own M h blk) g.1 g.2 r.cells:=by
 obtain⟨l,m,o,e⟩:=f.Iq i k b;intro j d c;have n:=(alT.1 c).1;exact⟨(e j d c).1,l.getD (g.2+j) undef,bm m (by omega),(e j d c).2⟩
def RP.aiT {M':Nat->Prop} {a:List D} {u:Value} (f:RP w M' (.ip a) u):∃c,u=.pointer (some c)∧(a≠[]->∃b o,c=⟨b,o,none⟩∧At w M' b o a):=by
 cases f with
 | ip a c us h6 h7 h8 =>
  refine⟨c,rfl,fun d =>?_⟩;obtain⟨b,o,rfl,_,_,g⟩:=h6 d;exact⟨b,o,rfl,fun j x e=>⟨h8 x (alR e),us j,g j (alT.1 e).1,h7 j x e⟩⟩
def u6 (q:ke P T) (r:Inv N M L w0 blk V t h a w) {i:Nat} {p:Operand} {τ:Ty} {g c:Nat} {xs:List D} {d:D} (s:o.op=.load i p) (u:T i=some τ) (x:a.eval p=.pointer (some ⟨g,c,none⟩))
  (j:At w (Own M h blk) g c xs) (y:xs.length=τ.size) (k:mf τ xs=some d):fm P o a w (bA N M L w0 V t h a e o.dst ⟨d,[]⟩):=by
 obtain⟨f,l,z,A,B⟩:=j.EJ;have m:τ.ds.we=false->xs.length=1∧xs=[d]:=by
  intro n;simp only[mf,n,alY,if_false]at k;grind
 have b:=nd (q i τ u) w g c f (by rw[l,y]) z (fun n=>by simp_all);refine aP (v:=if τ.ds.we then .agg f.toArray else f.getD 0 undef) (w':=w) ?_ (bA.eU r ?_)
 ·simp[execOp,s,Instr.loadAt,Instr.sureAddr,x,b]
 ·apply ca;cases C:τ.ds.we with
  | true =>
   simp only[mf,C,if_true,alz]at k;subst k;exact .agg xs f l A B
  | false =>
   grind
def N1 (F:ke P T) (k:Inv N M L w0 blk V t h a w) {l:Nat} {p:Operand} {τ:Ty} {x c:Nat} {r:Row} {g:Nat×Nat} {d:D} (G:o.op=.load l p) (H:T l=some τ) (I:a.eval p=.pointer (some ⟨g.1,g.2+c,none⟩))
  (B:h x=some r) (m:r.mp=false) (J:r.fz=true) (K:r.lst=false) (C:blk x=some g) (O:c+τ.size<=r.cells.length) (b:aha τ.ds.we ((r.cells.drop c).take τ.size)=some d):fm P o a w (bA N M L w0 V t h a e o.dst ⟨d,[]⟩):=by
 have f:((r.cells.drop c).take τ.size).length=τ.size:=by simp;omega
 generalize q:(r.cells.drop c).take τ.size=cs at b f;unfold aha at b;split at b
 ·rename_i y v s z n;simp only[alz]at b;have Q:τ.size=1:=by simp_all
  have A:r.cells[c]? = some (.ali y v s z n):=by
   have:((r.cells.drop c).take τ.size)[0]? = some (.ali y v s z n):=by rw[q];rfl
   grind
  obtain⟨u,R,S⟩:=k.ali x r g B J K C c _ (.buf y v s z n) A rfl;have i:=nd (F l τ H) w g.1 (g.2+c) [u] (by omega) (fun j v A=>by
   grind) (fun _=>rfl)
  refine aP (v:=if τ.ds.we then .agg [u].toArray else [u].getD 0 undef) (w':=w) ?_ (bA.eU k ?_)
  ·simp[execOp,G,Instr.loadAt,Instr.sureAddr,I,i]
  ·cases U:τ.ds.we with
   | false =>
    simp_all
   | true =>
    rw[U]at b;simp only[if_true]at b;subst b;obtain⟨_,Y,E,W⟩:=k.rowAt B C m c _ A;rw[R]at E;cases E;exact⟨u,rfl,W.tw rfl,S⟩
 ·cases b
def Zq (n:ke P T) (k:Inv N M L w0 blk V t h a w) {s:Nat} {p:Operand} {τ:Ty} {E:cH} (A:o.op=.load s p) (u:T s=some τ) (f:fW τ h (ev t p)=some E):fm P o a w (bA N M L w0 V t h a e o.dst E):=by
 have D:=k.ev p;generalize ev t p=q at *;cases q with
 | ptr x v c =>
  simp only[fW]at f;split at f
  ·rename_i r F;split at f
   ·rename_i l;split at f
    ·rename_i d i;simp only[alz]at f;subst f;obtain⟨y,H⟩:=cX F;obtain⟨g,I,B⟩:=D.2 r y H;have:=((k.rowAt y I (jR F)).drop c).take τ.size;exact u6 n k A u B this (by simp;omega) i
    ·cases f
   ·cases f
  ·cases f
 | ip xs =>
  simp only[fW]at f;split at f
  ·rename_i l;split at f
   ·rename_i d i;simp only[alz]at f;subst f;obtain⟨R,G,J⟩:=RP.aiT (M':=Own M h blk) D
    by_cases m:xs=[]
    ·subst m;have K:τ.size=0:=by simpa using l
     have z:τ.ds.we=true:=by
      cases z:τ.ds.we with
      | true=>rfl
      | false=>simp[mf,z]at i
     have C:=run_sizeOf (n s τ u) w;refine aP (v := .agg #[]) (w':=w) ?_ (bA.eU k ?_)
     ·simp[execOp,A,Instr.loadAt,Instr.sureAddr,G,loadVar,pg (n s τ u),z,C,K,loadCells,loadCellsFrom]
     ·simp only[mf,z,if_true,List.take_nil,alz]at i;subst i;exact ca (.agg [] [] rfl (fun j x O=>by simp at O) (fun x y=>by simp at y))
    ·obtain⟨b,c,rfl,Q⟩:=J m;exact u6 n k A u G (At.take Q _) (by simp;omega) i
   ·cases f
  ·cases f
 | _=>simp[fW]at f
def BM {h:Nat->Option Row} {x v:Nat} {r:Row} {y s n:Nat} (a:wB h x v=some (r,y,s,n)):h x=some r∧r.v=v∧r.mp=true∧r.cells=[.ph y s n]:=by
 unfold wB at a;grind
def aca (X:ke P T) (z:Inv N M L w0 blk V t h a w) {I:Nat} {p:Operand} {τ:Ty} {x v y:Nat} {E:cH} (Y:o.op=.load I p) (Z:T I=some τ) (hp:RT w (Own M h blk) h blk V (.pm x v y) (a.eval p)) (i:Bm τ h x v y (wB h x v)=some E):fm P o a w (bA N M L w0 V t h a e o.dst E):=by
 cases J:wB h x v with
 | none=>rw[J]at i;cases i
 | some q =>
  obtain⟨R,B,s,n⟩:=q;rw[J]at i;simp only[Bm]at i;obtain⟨S,hv,K,O⟩:=BM J;split at i
  ·rename_i r F;split at i
   ·rename_i m;obtain⟨rfl,c2,c3,c4,c5,c6⟩:=m;simp only[alz]at i;subst i;obtain⟨g,hg,G⟩:=hp.2 R S hv;obtain⟨_,u,U,h2⟩:=z.pha x R g S K hg 0 _ _ _ (by rw[O];rfl);have k:=nd (X I τ Z) w g.1 (g.2+0) [u] (by simpa using c6.symm) (fun j v l=>by
     grind) (fun _=>rfl)
    have f:=z.ic [B];have hk:∀b,b<w.heap.size->¬Own M h blk b->b<w.heap.size∧¬Own M (aZ h (lh h [B])) blk b∧w.heap[b]? = w.heap[b]?:=fun b U h2=>⟨U,fun hb=>h2 (f.le b hb),rfl⟩;have Q:RP w (Own M (aZ h (lh h [B])) blk) (.sl false false n r.cells) u:=by
     rcases h2 r F with⟨C,c,N',aa,H,rfl,g2,g3,g4,g5⟩|⟨H,rfl,A,rfl⟩
     ·obtain⟨arr,k1,k2,W⟩:=z.Iq F H c3;refine .sl (some ⟨C.1,C.2,none⟩) c false false n _ (fun j=>arr.getD (C.2+j) undef) g3 g4 (fun h=>by cases h) (fun h=>by cases h) (fun h=>by cases h) (fun _=>⟨C.1,C.2,rfl,z.lt F H,f.no B (by simp) r C F H,fun j l=>bm k1 (by omega)⟩) (fun j d l=>(W j d l).2.keep hk) (fun d D =>?_);obtain⟨j,l⟩:=alL D;exact (W j d l).1
     ·have:=(z.rows B r F).2;rw[H]at this;have hc:r.cells=[]:=this;rw[hc];exact .sl A 0 false false 0 [] (fun _=>undef) (alq _) (alr _) (fun h=>by cases h) (fun _=>⟨rfl,rfl⟩) (fun h=>by cases h) (fun h=>absurd rfl h) (fun j d l=>by simp at l) (fun d D=>by simp at D)
    simp only[Nat.add_zero]at k G;refine aP (v:=if τ.ds.we then .agg [u].toArray else [u].getD 0 undef) (w':=w) ?_ (bA.Og z [B] ?_)
    ·simp[execOp,Y,Instr.loadAt,Instr.sureAddr,G,k]
    ·cases hA:τ.ds.we with
     | false=>exact Q
     | true =>
      refine .agg [_] [u] rfl (fun j d l =>?_) (fun d D =>?_)
      ·grind
      ·simp only[alM]at D;subst D;rfl
   ·cases i
  ·cases i
def ae2 (A:ke P T) (n:Inv N M L w0 blk V t h a w) {D:Nat} {p:Operand} {τ:Ty} {E:cH} (B:o.op=.load D p) (C:T D=some τ) (b:tY τ h (ev t p)=some E):fm P o a w (bA N M L w0 V t h a e o.dst E):=by
 have F:=n.ev p;have f:=Zq (P:=P) (o:=o) (e:=e) (E:=E) A n B C;generalize ev t p=q at *;cases q with
 | ptr x v c =>
  simp only[tY]at b;cases s:live h x v with
  | none=>rw[s]at b;cases b
  | some r =>
   rw[s]at b;simp only[vG]at b;split at b
   ·rename_i l;simp only[al0,al1]at l;split at b
    ·rename_i G;split at b
     ·rename_i d H;simp only[alz]at b;subst b;obtain⟨z,I⟩:=cX s;obtain⟨g,J,k⟩:=F.2 r z I;exact N1 A n B C k z (jR s) l.1 l.2 J G H
     ·exact f b
    ·cases b
   ·exact f b
 | pm x v y =>
  simp only[tY]at b;split at b
  ·rename_i r s;split at b
   ·rename_i O Q K;split at b
    ·rename_i m;obtain⟨R,S,U,W⟩:=m;simp only[alz]at b;subst b;obtain⟨z,I⟩:=cX s;obtain⟨g,J,k⟩:=F.2 r z I;obtain⟨u,Y,X⟩:=n.ali x r g z R S J 0 (.alm O Q) (.mp O Q) (by rw[K];rfl) rfl;have i:=nd (A D τ C) w g.1 (g.2+0) [u] (by simpa using U.symm) (fun j v Z=>by
      grind) (fun _=>rfl)
     refine aP (v:=u) (w':=w) ?_ (bA.eU n X);rw[W]at i;simp only[Nat.add_zero]at i k;simp[execOp,B,Instr.loadAt,Instr.sureAddr,k,i]
    ·cases b
   ·cases b
  ·exact aca A n B C F b
 | _=>exact f b
def vx (a:Array Value) (b:List Value) (c j:Nat) (e:c+b.length<=a.size) :
  (a.toList.take c++b++a.toList.drop (c+b.length)).toArray.getD j undef=if j<c then a.getD j undef else if j<c+b.length then b.getD (j-c) undef else a.getD j undef:=by
 have d:min c a.size=c:=by omega
 simp only[alv,List.getElem?_toArray,al2];grind
def pe {cells a:List D} {c j:Nat} (d:c+a.length<=cells.length):(putCells cells c a)[j]? = if j<c then cells[j]? else if j<c+a.length then a[j-c]? else cells[j]?:=by
 have b:min c cells.length=c:=by omega
 unfold putCells;grind
def lk {cells a:List D} {c:Nat} (b:c+a.length<=cells.length):(putCells cells c a).length=cells.length:=by
 simp[putCells];omega
def spliced {w:World} {M:Nat->Prop} {cells a:List D} {cur:Array Value} {e:List Value} {b c:Nat} (f:c+a.length<=cells.length) (g:e.length=a.length) (h:b+cells.length<=cur.size)
  (k:∀j d,cells[j]? = some d->bE d=true∧RP w M d (cur.getD (b+j) undef)) (l:∀j d,a[j]? = some d->bE d=true∧RP w M d (e.getD j undef)) (j:Nat) (d:D) (i:(putCells cells c a)[j]? = some d) :
  bE d=true∧RP w M d ((cur.toList.take (b+c)++e++cur.toList.drop (b+c+e.length)).toArray.getD (b+j) undef):=by
 rw[pe f]at i;rw[vx _ _ _ _ (by omega),g];grind
def Ip (b:Bool) (a:List D):(vp b a).length=a.length:=by cases b<;>simp[vp]
def Vv {w:World} {M:Nat->Prop} {c:List D} {e:List Value} {b:Bool} (f:∀j d,c[j]? = some d->bE d=true∧RP w M d (e.getD j undef)) (j:Nat) (d:D) (a:(vp b c)[j]? = some d):bE d=true∧RP w M d (e.getD j undef):=by
 cases b with
 | false=>exact f j d a
 | true =>
  simp only[vp,if_true,aln,alo]at a;obtain⟨x,g,rfl⟩:=a;obtain⟨h,i⟩:=f j x g;exact⟨by rw[p8];exact h,i.canon⟩
def UI (U:ke P T) (m:Inv N M L w0 blk V t h a w) {B:Nat} {p x:Operand} {τ:Ty} {E:cH} (W:o.op=.store B p x) (X:T B=some τ) (f:ji τ h (ev t p) (ev t x)=some E):fm P o a w (bA N M L w0 V t h a e o.dst E):=by
 have Y:=m.ev p;have Z:=m.ev x;generalize ev t p=q at *;generalize ev t x=z at *;cases q with
 | ptr y v c =>
  simp only[ji]at f;split at f
  ·rename_i r C;split at f
   ·rename_i A D hc;split at f
    ·rename_i l;obtain⟨c1,c2,c3,c4⟩:=l;simp only[alz]at f;subst f;obtain⟨J,F⟩:=cX C;obtain⟨g,K,G⟩:=Y.2 r J F;have n:aZ h (lh h D) y=some r:=by rw[DN c4];exact J
     have s:=m.freeze D;obtain⟨u1,O⟩:=m.gY hc (m.ic D) Z;obtain⟨b,Q,R,h5⟩:=s.Iq n K (jR C);have i:=run_storeCells_at P g.1 (g.2+c) r.ty (a.eval x).cells.toList 0 b w Q (by grind) (fun v F=>by
      obtain⟨j,u⟩:=alL F;have H:=(alT.1 u).1;simp only[Array.length_toList]at H;obtain⟨q1,S⟩:=O j _ (alE (by omega));have:(a.eval x).cells.getD j undef=v:=by simp_all
      rw[this]at S;exact S.tw q1)
     rw[alZ]at i;have aa:(a.eval x).cells.toList.length=A.length:=by omega
     have k:(b.toList.take (g.2+c)++(a.eval x).cells.toList++b.toList.drop (g.2+c+(a.eval x).cells.toList.length)).toArray.size=b.size:=by
      simp;omega
     have ab:=Ip r.lst A;have hw:=s.write n c3 K (jR C) (cs:=putCells r.cells c (vp r.lst A)) Q k (by rw[k,lk (by omega)];exact R)
      (fun j d u=>spliced (by omega) (by omega) R h5 (Vv (fun j d u=>by simpa [List.getD] using O j d u)) j d u)
     refine .inr (.inl ⟨w.setRow g.1 (b.toList.take (g.2+c)++(a.eval x).cells.toList++b.toList.drop (g.2+c+(a.eval x).cells.toList.length)).toArray,?_,blk,?_,trivial⟩)
     ·have I:(a.eval x).cells.size=τ.size:=by omega
      simp[execOp,W,Instr.storeAt,Instr.sureAddr,G,storeVar,run_sizeOf (U B τ X),I,i]
     ·rw[jc];exact hw.weaken fun _ _ h =>.inl h
    ·cases f
   ·cases f
  ·cases f
 | _=>simp[ji]at f
def LJ (O:ke P T) (G:Inv N M L w0 blk V t h a w) {A:Nat} {p x:Operand} {τ:Ty} {y:Nat} {r:Row} {g:Nat×Nat} {c d:D} {i:Value} (Q:o.op=.store A p x) (R:T A=some τ) (S:τ.size=1) (c3:r.cells.length=1) (U:r.fz=false) (B:r.mp=false)
  (H:h y=some r) (u:blk y=some g) (C:a.eval p=.pointer (some ⟨g.1,g.2+0,none⟩)) (W:(a.eval x).cells = #[i]) (I:i.oneCell'=true) (X:alD c=some d) (Y:bE c=true) (Z:∀J M',RP J M' c i) (E:RT w (Own M h blk) h blk V d i) :
  fm P o a w (bA N M L w0 V t h a e o.dst ⟨.und,[(y,some ⟨r.v,r.ty,[c],true,false,false⟩)]⟩):=by
 obtain⟨f,F,h4,h5⟩:=G.Iq H u B;have k:=run_storeCells_at P g.1 (g.2+0) r.ty [i] 0 f w F (by simp;omega) (fun v hv=>by
  simp_all)
 rw[alZ]at k;have l:f.size=(f.toList.take (g.2+0)++[i]++f.toList.drop (g.2+0+[i].length)).toArray.size:=by simp;omega
 have n:(f.toList.take (g.2+0)++[i]++f.toList.drop (g.2+0+[i].length)).toArray.getD g.2 undef=i:=by
  simp only[alv];grind
 generalize aa:(f.toList.take (g.2+0)++[i]++f.toList.drop (g.2+0+[i].length)).toArray=nv at k l n;have m:(w.setRow g.1 nv).heap[g.1]? = some (.cells nv r.ty (0,0)):=setRow_heap w g.1 f nv r.ty (0,0) F;have ab:(w.setRow g.1 nv).heap.size=w.heap.size:=by simp[World.setRow]
 have hheap:∀b,b≠g.1->(w.setRow g.1 nv).heap[b]? = w.heap[b]?:=by
  intro b K;simp only[World.setRow,alA];grind
 have hw:=G.rewrite (fz:=true) (lst:=false) (cs:=[c]) (w':=w.setRow g.1 nv) H U rfl rfl rfl (by omega) (fun b _ K=>hheap b (K g u)) (by
  rw[u];refine⟨by simp[World.shape?,m,F,l],nv,m,by simp;omega,fun j d z =>?_⟩;grind) (fun _ _ g' q j c' d' z s=>by
  rw[u]at q;cases q;cases j with
  | zero =>
   simp only[List.getElem?_cons_zero,alz]at z;subst z;rw[X]at s;cases s;refine⟨i,?_,E⟩;rw[alZ,bm m (by omega),n]
  | succ j=>simp at z)
 refine .inr (.inl ⟨w.setRow g.1 nv,?_,blk,?_,trivial⟩)
 ·simp[execOp,Q,Instr.storeAt,Instr.sureAddr,C,storeVar,run_sizeOf (O A τ R),S,W,k]
 ·exact hw.weaken fun _ _ h =>.inl h
def Zt (hT:ke P T) (J:Inv N M L w0 blk V t h a w) (hP:∀x v,V x v->x<N∨2*PK<=x) {Y:Nat} {p x:Operand} {τ:Ty} {y i Z K:Nat} {r q:Row} {g:Nat×Nat} {k:Value} (ho:o.op=.store Y p x) (hτ:T Y=some τ) (c1:τ.size=1) (c3:r.cells.length=1) (c4:r.fz=false) (aa:r.mp=false)
  (hx:h y=some r) (ab:y<N) (hg:blk y=some g) (ad:a.eval p=.pointer (some ⟨g.1,g.2+0,none⟩)) (hu:(a.eval x).cells = #[k]) (ar:k.oneCell'=true) (G:h i=some q) (ae:q.fz=false) (av:q.lst=true) (ag:q.mp=false) (O:y≠i)
  (l:(∃m o' c N' t,blk i=some m∧k=.slice (some ⟨m.1,o',none⟩) K c∧(0<c∨0=0->o'=m.2+0∧c*Z+o'=N')∧K<=c∧c<=maxLen∧w.shape? m.1=some (t,N'))∨(blk i=none∧K=0∧∃A,k=.slice A 0 0)) :
  fm P o a w (bA N M L w0 V t h a e o.dst ⟨.und,[(i,none),(PK+y,some ⟨0,q.ty,q.cells,false,true,false⟩),(y,some ⟨r.v,r.ty,[.ph (PK+y) Z K],false,false,true⟩)]⟩):=by
 obtain⟨f,h3,h4,h5⟩:=J.Iq hx hg aa;have u:=run_storeCells_at P g.1 (g.2+0) r.ty [k] 0 f w h3 (by simp;omega) (fun v hv=>by
  simp_all)
 rw[alZ]at u;have B:f.size=(f.toList.take (g.2+0)++[k]++f.toList.drop (g.2+0+[k].length)).toArray.size:=by simp;omega
 have Q:(f.toList.take (g.2+0)++[k]++f.toList.drop (g.2+0+[k].length)).toArray.getD g.2 undef=k:=by
  simp only[alv];grind
 generalize aw:(f.toList.take (g.2+0)++[k]++f.toList.drop (g.2+0+[k].length)).toArray=nv at u B Q;have C:(w.setRow g.1 nv).heap[g.1]? = some (.cells nv r.ty (0,0)):=setRow_heap w g.1 f nv r.ty (0,0) h3;have ax:(w.setRow g.1 nv).heap.size=w.heap.size:=by simp[World.setRow]
 have hheap:∀b,b≠g.1->(w.setRow g.1 nv).heap[b]? = w.heap[b]?:=by
  intro b E;simp only[World.setRow,alA];grind
 have au:=J.big;have az:PK=1000000:=rfl;have R:y≠PK+y:=by omega
 have ai:∀v,¬V (PK+y) v:=fun v hv=>by grind
 have F:=(J.rows i q G).2;have aj:∀b,Own M (forget h (some i)) blk b->Own M h blk b:=fun b E=>by
  rcases E with E|⟨z,r',m,S,ak,al,an⟩
  ·exact .inl E
  ·simp only[forget]at S
   by_cases U:z=i
   ·subst U;rw[ay]at S;cases S
   ·rw[aD _ _ U]at S;exact .inr ⟨z,r',m,S,ak,al,an⟩
 have hA:=J.abo (w':=w) (h1:=forget h (some i)) (old:=some i) (d:=PK+y) (r0:=⟨0,q.ty,q.cells,false,true,false⟩) (go:=blk i) (y0:=y) rfl rfl rfl (alq _) (fun _ _ _=>rfl) (fun y' aA=>by simp_all) rfl rfl ab ai
  (fun r' W=>by
   simp only[forget]at W;rw[aD _ _ O,hx]at W;simp_all) (by
  cases E:blk i with
  | none=>rw[E]at F;exact F
  | some m =>
   obtain⟨ao,k1,k2,k3⟩:=J.Iq G E ag;refine⟨.inr ⟨i,m,rfl,E,rfl⟩,ao,k1,k2,fun j d I=>⟨(k3 j d I).1,(k3 j d I).2.keep fun b q1 q2=>⟨q1,?_,rfl⟩⟩⟩;rintro (hn|rfl)
   ·simp_all
   ·exact q2 (.inr ⟨i,q,m,G,ae,E,rfl⟩)) rfl
 have aq:cq (forget h (some i)) (PK+y) (some (⟨0,q.ty,q.cells,false,true,false⟩:Row)) y=some r:=by
  rw[aD _ _ R];simp only[forget];rw[aD _ _ O,hx]
 have H:cq blk (PK+y) (blk i) y=some g:=by rw[aD _ _ R,hg]
 have hB:=hA.mn (r0:=⟨r.v,r.ty,[.ph (PK+y) Z K],false,false,true⟩) (w':=w.setRow g.1 nv) aq c4 rfl rfl rfl rfl (by omega) (fun b _ E=>hheap b (E g H)) (by
  rw[H];refine⟨by simp[World.shape?,C,h3,B],.inr ⟨fun d hd=>by simp only[alM]at hd;subst hd;rfl,nv,C,by simp;omega,fun j d I =>?_⟩⟩;cases j with
  | zero=>simp only[List.getElem?_cons_zero,alz]at I;subst I;trivial
  | succ j=>simp at I) (fun h=>by cases h) (fun _ m X j x' s n hc=>by
  rw[H]at X;cases X;cases j with
  | succ j=>simp at hc
  | zero =>
  simp only[List.getElem?_cons_zero,alz,D.ph.injEq]at hc;obtain⟨rfl,rfl,rfl⟩:=hc;refine⟨⟨by omega,.inl rfl⟩,k,by rw[alZ,bm C (by omega),Q],fun r' _ =>?_⟩;rw[ay];rcases l with⟨m,o',c,N',t,k0,k1,k2,k3,k4,k5⟩|l
  ·grind
  ·exact .inr l)
 refine .inr (.inl ⟨w.setRow g.1 nv,?_,cq blk (PK+y) (blk i),?_,trivial⟩)
 ·simp[execOp,ho,Instr.storeAt,Instr.sureAddr,ad,storeVar,run_sizeOf (hT Y τ hτ),c1,hu,u]
 ·exact hB.weaken fun _ _ h =>.inl h
def ach (I:ke P T) (m:Inv N M L w0 blk V t h a w) (U:∀x v,V x v->x<N∨2*PK<=x) {W:Nat} {p x:Operand} {τ:Ty} {E:cH} (J:o.op=.store W p x) (K:T W=some τ) (b:jh τ h (ev t p) (ev t x)=some E):fm P o a w (bA N M L w0 V t h a e o.dst E):=by
 have O:=m.ev p;have Q:=m.ev x;have s:=UI (P:=P) (o:=o) (e:=e) (E:=E) I m J K;generalize ev t p=q at *;generalize ev t x=z at *;cases z with
 | box1 Z v1 s1 o1 n1 =>
  cases q with
  | ptr y v c =>
   simp only[jh]at b;split at b
   ·rename_i r j;split at b
    ·rename_i d;obtain⟨u,rfl,A,B,X⟩:=d;simp only[alz]at b;subst b;obtain⟨l,C⟩:=cX j;obtain⟨g,D,i⟩:=O.2 r l C;obtain⟨Y,F,f,n⟩:=Q;exact LJ I m J K u A B (jR j) l D i (by rw[F];rfl) f rfl rfl (fun _ _ =>.ali _ _ _ _ _ _ f) (show RT w (Own M h blk) h blk V (.buf Z v1 s1 o1 n1) Y from n)
    ·cases b
   ·cases b
  | pm y v k =>
   simp only[jh]at b;split at b
   ·rename_i r q j G;split at b
    ·rename_i d;obtain⟨u,rfl,A,B,X,R,c7,c8,c9,rfl,aa⟩:=d;simp only[alz]at b;subst b;obtain⟨l,C⟩:=cX j;obtain⟨H,S⟩:=cX G;obtain⟨g,D,i⟩:=O.2 r l C;obtain⟨Y,F,f,n⟩:=Q;exact Zt I m U J K u A B (jR j) l (by have:=U _ _ O.1;omega) D i (by rw[F];rfl) f H R c7 (jR G) c9 (n.2 q H S)
    ·cases b
   ·cases b
  | _=>simp[jh]at b
 | mp y1 v1 =>
  cases q with
  | pm y v c =>
   simp only[jh]at b;split at b
   ·rename_i r j;split at b
    ·rename_i d;obtain⟨u,c2,A,B,X,R⟩:=d;subst c2;simp only[alz]at b;subst b;obtain⟨l,C⟩:=cX j;obtain⟨g,D,i⟩:=O.2 r l C;obtain⟨⟨ks,vs⟩,hm⟩:=Option.isSome_iff_exists.1 R;obtain⟨g2,_,_,_,_,_,_,F,_⟩:=m.Sf hm Q;exact LJ I m J K u A B (jR j) l D i (by rw[F];rfl) rfl rfl rfl (fun _ _ =>.alm _ _ _ rfl) (by simp_all)
    ·cases b
   ·cases b
  | _=>simp[jh]at b
 | _=>exact s b
end
section
variable {P:Program} {T:Nat->Option Ty} {N:Nat} {M:Nat->Prop} {L:lG} {w0:World} {blk:Nat->Option (Nat×Nat)} {V:Nat->Nat->Prop} {t:Nat->D} {h:Nat->Option Row} {a:Act} {w:World} {e:Nat} {o:Oper} {Γ:Env}
def jM {d:TypeDesc} {a:List (Nat×Nat)} (h:conv d=.struct a):∃F,d=.struct F∧(F.toList.map fun f=>(f.type,f.offset))=a:=by
 cases d<;>simp[conv]at h;exact⟨_,rfl,h⟩
def iA {d:TypeDesc} {e:Nat} (h:conv d=.slice e):d=.slice e:=by
 cases d<;>simp[conv]at h;rw[h]
def Cr {d:TypeDesc} {n e:Nat} (h:conv d=.arr n e):d=.array n e:=by
 cases d<;>simp[conv]at h;rw[h.1,h.2]
def wv {d:TypeDesc} (h:conv d=.str):d=.string:=by
 cases d<;>simp[conv]at h;rfl
def Ae {d:TypeDesc} (h:conv d=.bool):d=.bool:=by
 cases d<;>simp[conv]at h;rfl
def Cs {d:TypeDesc} {k:IntKind} (h:conv d=.int k):d=.int k:=by
 cases d<;>simp[conv]at h;rw[h]
def under (b:ke P T) {a:Nat} {τ:Ty} (c:T a=some τ):∃d,P.underlying a=some d∧conv d=τ.ds:=by
 obtain⟨d,i,z,e,f,_⟩:=(b a τ c).get;exact⟨d,e,f⟩
def Q8 {F:Array Field} {c:List (Nat×Nat)} (g:(F.toList.map fun f=>(f.type,f.offset))=c) {i d a:Nat} (b:c[i]? = some (d,a)):∃f,F[i]? = some f∧f.type=d∧f.offset=a:=by
 rw[<- g,aln]at b;cases e:F[i]? with
 | none=>simp[e]at b
 | some f=>simp[e]at b;exact⟨f,rfl,b.1,b.2⟩
def RP.Xx {e:Nat->Prop} {a:List D} {g:Addr} {us:Nat->Value} (k:Nat) (h:a≠[]->∃b o,g=⟨b,o,none⟩∧b<w.heap.size∧¬e b∧∀j,j<a.length->w.cell? ⟨b,o+j,none⟩=some (us j))
  (i:∀j x,a[j]? = some x->RP w e x (us j)) (h8:∀x∈a,bE x=true):RP w e (.ip (a.drop k)) (.pointer (some (g.add k))):=by
 refine .ip _ _ (fun j=>us (k+j)) (fun f =>?_) (fun j x d =>?_) (fun x l=>h8 x (al4 l))
 ·have c:a≠[]:=by rintro rfl;simp at f
  obtain⟨b,o,rfl,m,n,p⟩:=h c;refine⟨b,o+k,tO _ _ _,m,n,fun j d =>?_⟩;rw[alJ]at d;rw[alK];exact p (k+j) (by omega)
 ·rw[alP]at d;exact i _ _ d
def ace (i:Inv N M L w0 blk V t h a w) {x:Operand} {E:cH} (k:o.op=.nilCheck x) (b:qM h (ev t x)=some E):fm P o a w (bA N M L w0 V t h a e o.dst E):=by
 have f:=i.ev x;generalize u:ev t x=q at *;cases q with
 | ptr y v c =>
  simp only[qM]at b;split at b
  ·rename_i r m;simp only[alz]at b;subst b;obtain⟨n,p⟩:=uo m;obtain⟨g,z,d⟩:=f.2 r n p;refine aP (v := .pointer (some ⟨g.1,g.2+c,none⟩)) (w':=w) ?_ (bA.eU i ?_)
   ·simp[execOp,k,d]
   ·rw[<- d];exact f
  ·cases b
 | ip xs =>
  simp only[qM,alz]at b;subst b;have j:=f;obtain⟨s,l,_⟩:=RP.aiT (M':=Own M h blk) f;refine aP (v := .pointer (some s)) (w':=w) ?_ (bA.eU i ?_)
  ·simp[execOp,k,l]
  ·rw[<- l];exact j
 | _=>simp[qM]at b
def Hi (R:ke P T) (H:Inv N M L w0 blk V t h a w) {x:Operand} {S i:Nat} {τ:Ty} {E:cH} (W:o.op=.fieldAddr S x i) (X:T S=some τ) (b:ia T τ h i (ev t x)=some E) :
  fm P o a w (bA N M L w0 V t h a e o.dst E):=by
 have D:=H.ev x;have z:∀(I:Addr) (fs:List (Nat×Nat)) (p j:Nat) (φ:Ty),τ.ds=.struct fs->fs[i]? = some (p,j)->T p=some φ->φ.size≠0->a.eval x=.pointer (some I) ->
   (execOp a.eval o).run P w=.ok (.value (.pointer (some (I.add j)))) w:=by
  intro I fs p j φ l A B C G;obtain⟨d,Y,U⟩:=under R X;rw[l]at U;obtain⟨F,rfl,Z⟩:=jM U;obtain⟨f,hf,rfl,rfl⟩:=Q8 Z A;have J:=run_sizeOf (P:=P) (R _ _ B) w;simp[execOp,W,Instr.fieldAt,run_underlying Y,hf,G,Instr.sureAddr,fieldPlace,J,C]
 generalize hq:ev t x=q at *;cases q with
 | ptr y v c =>
  simp only[ia]at b;split at b
  ·rename_i r fs K l;split at b
   ·rename_i p j A;split at b
    ·rename_i φ B;split at b
     ·cases b
     ·rename_i C;simp only[alz]at b;subst b;obtain⟨O,G⟩:=uo K;obtain⟨g,Q,m⟩:=D.2 r O G;refine aP (z _ fs p j φ l A B C m) (bA.eU H ⟨D.1,fun r' h1 h2=>⟨g,Q,by rw[tO,alK]⟩⟩)
    ·cases b
   ·cases b
  ·cases b
 | pm y v k =>
  simp only[ia]at b;split at b
  ·rename_i q fs K l;split at b
   ·rename_i p A;split at b
    ·rename_i φ B;split at b
     ·cases b
     ·rename_i C;simp only[alz]at b;subst b;obtain⟨ry,y',s,n⟩:=q;obtain⟨O,G,_,_⟩:=BM K;obtain⟨g,Q,m⟩:=D.2 ry O G;refine aP (z _ fs p 0 φ l A B C m) (bA.eU H ⟨D.1,fun r' h1 h2=>⟨g,Q,by rw[tO,alZ]⟩⟩)
    ·cases b
   ·cases b
  ·cases b
 | ip xs =>
  simp only[ia]at b;split at b
  ·rename_i fs l;split at b
   ·rename_i p j A;split at b
    ·rename_i φ B;split at b
     ·cases b
     ·rename_i C;simp only[alz]at b;subst b;have m:RP w (Own M h blk) (.ip xs) (a.eval x):=D;generalize hu:a.eval x=u at *;cases m with
      | ip xs I us h6 h7 h8=>exact aP (z _ fs p j φ l A B C rfl) (bA.eU H (ca (RP.Xx j h6 h7 h8)))
    ·cases b
   ·cases b
  ·cases b
 | _=>simp[ia]at b
def yg (g:ke P T) {x h:Operand} {j el n c:Nat} {τ φ:Ty} {k:IntKind} {i:Int} {l:Addr} (p:o.op=.indexAddr j x h) (q:T j=some τ) (b:τ.ds=.slice el) (r:T el=some φ)
  (s:0<=i∧i<n) (t:a.eval x=.slice (some l) n c) (e:a.eval h=.int k i):(execOp a.eval o).run P w=.ok (.value (.pointer (some (l.add (i.toNat*φ.size))))) w:=by
 obtain⟨d,u,m⟩:=under g q;rw[b]at m;have:=iA m;subst this;have f:=run_sizeOf (P:=P) (g _ _ r) w;simp only[execOp,p,Instr.indexAt,t,e,asIntOf,alW,Sem.run_pure,Result.andThen_ok,run_underlying u];rw[if_pos s];simp[f]
def Gd (f:ke P T) {x g:Operand} {h el n:Nat} {τ φ:Ty} {k:IntKind} {i:Int} {j:Addr} (m:o.op=.indexAddr h x g) (p:T h=some τ) (b:τ.ds=.arr n el) (q:T el=some φ)
  (r:0<=i∧i<n) (s:a.eval x=.pointer (some j)) (c:a.eval g=.int k i):(execOp a.eval o).run P w=.ok (.value (.pointer (some (j.add (i.toNat*φ.size))))) w:=by
 obtain⟨d,t,l⟩:=under f p;rw[b]at l;have:=Cr l;subst this;have e:=run_sizeOf (P:=P) (f _ _ q) w;simp only[execOp,m,Instr.indexAt,s,c,asIntOf,alW,Sem.run_pure,Result.andThen_ok,run_underlying t,Instr.sureAddr];rw[if_pos r];simp[e]
def Hj (G:ke P T) (p:Inv N M L w0 blk V t h a w) {x F:Operand} {U:Nat} {τ:Ty} {E:cH} (H:o.op=.indexAddr U x F) (I:T U=some τ) (d:df T τ h (ev t x) (ev t F)=some E) :
  fm P o a w (bA N M L w0 V t h a e o.dst E):=by
 have B:=p.ev x;have J:=p.ev F;generalize ev t x=q at *;generalize ev t F=z at *;cases z with
 | int k i =>
  have j:=pI J;cases q with
  | sl nl tight n xs =>
   simp only[df]at d;split at d
   ·rename_i el f;split at d
    ·rename_i φ C;split at d
     ·rename_i l;simp only[alz]at d;subst d;have m:RP w (Own M h blk) (.sl nl tight n xs) (a.eval x):=B;generalize Y:a.eval x=u at *;cases m with
      | sl A c nl tight n xs us W X h3 h4 h5 h6 h7 h8 =>
       cases A with
       | none=>have:=(h4 rfl).1;omega
       | some ad=>exact aP (yg G H I f C l Y j) (bA.eU p (ca (RP.Xx _ (fun K=>by
         obtain⟨b,o,Z,D⟩:=h6 K;cases Z;exact⟨b,o,rfl,D⟩) h7 h8)))
     ·cases d
    ·cases d
   ·cases d
  | buf y v s c n =>
   simp only[df]at d;split at d
   ·rename_i r el O f;split at d
    ·rename_i φ C;split at d
     ·rename_i l;obtain⟨hs,l⟩:=l;simp only[alz]at d;subst d;obtain⟨Q,R⟩:=uo O;rcases B.2 r Q R with⟨g,o',c',N',t',g0,g1,g2,g3,_⟩|⟨_,h0,_⟩
      ·have S:=(g2 (.inl (by omega))).1;subst S;exact aP (yg G H I f C l g1 j) (bA.eU p ⟨B.1,fun r' W X=>⟨g,g0,by rw[tO,hs,alK]⟩⟩)
      ·omega
     ·cases d
    ·cases d
   ·cases d
  | ptr y v c =>
   simp only[df]at d;split at d
   ·rename_i r n el O f;split at d
    ·rename_i φ C;split at d
     ·rename_i l;simp only[alz]at d;subst d;obtain⟨Q,R⟩:=cX O;obtain⟨g,hg,m⟩:=B.2 r Q R;exact aP (Gd G H I f C l m j) (bA.eU p ⟨B.1,fun r' W X=>⟨g,hg,by rw[tO,alK]⟩⟩)
     ·cases d
    ·cases d
   ·cases d
  | _=>simp[df]at d
 | _=>cases q<;>simp[df]at d
end
section
variable {P:Program} {T:Nat->Option Ty} {N:Nat} {M:Nat->Prop} {L:lG} {w0:World} {blk:Nat->Option (Nat×Nat)} {V:Nat->Nat->Prop} {t:Nat->D} {h:Nat->Option Row} {a:Act} {w:World} {e:Nat} {o:Oper} {Γ:Env}
def Tt (f:ke P T) {k a:Nat} {φ:Ty} (g:T k=some φ) {e:List D} {b:List Value} {d:D} {l:Nat->Prop} (m:b.length=e.length) (n:∀j x,e[j]? = some x->RP w l x (b.getD j undef)) (h3:∀x∈e,bE x=true)
  (c:X6 φ e a=some d):∃v,(part k b.toArray a).run P w=.ok v w∧RP w l d v:=by
 unfold X6 at c;split at c
 ·rename_i h;split at c
  ·rename_i o;simp only[alz]at c;subst c;refine⟨.agg (b.toArray.extract a (a+φ.size)),by simp[part,pg (f _ _ g),h,run_sizeOf (f _ _ g)],?_⟩;have p:b.toArray.extract a (a+φ.size)=((b.drop a).take φ.size).toArray:=by
    simp_all
   rw[p];refine .agg _ _ (by simp[m]) (fun j x t =>?_) (fun x q=>h3 x (al4 (al6 q)));grind
  ·cases c
 ·rename_i h;have i:φ.ds.we=false:=by simpa using h
  have r:=(alT.1 c).1;have s:=n a d c;refine⟨b.getD a undef,?_,s⟩;have:b.toArray[a]? = some (b.getD a undef):=by
   simp_all
  simp[part,pg (f _ _ g),i,this]
def UE (m:ke P T) (n:Inv N M L w0 blk V t h a w) {x:Operand} {p i:Nat} {τ:Ty} {E:cH} (s:o.op=.field p x i) (y:T p=some τ) (b:CI T τ i (ev t x)=some E):fm P o a w (bA N M L w0 V t h a e o.dst E):=by
 have z:=n.ev x;generalize ev t x=q at *;cases q with
 | agg xs =>
  simp only[CI]at b;split at b
  ·rename_i J c;split at b
   ·rename_i K A B;split at b
    ·rename_i φ C;split at b
     ·rename_i d D;simp only[alz]at b;subst b;have g:RP w (Own M h blk) (.agg xs) (a.eval x):=z;generalize G:a.eval x=u at *;cases g with
      | agg xs us h1 h2 h3 =>
       obtain⟨v,j,k⟩:=Tt m C h1 h2 h3 D;obtain⟨O,l,r⟩:=under m y;rw[c]at r;obtain⟨F,rfl,H⟩:=jM r;obtain⟨f,I,rfl,rfl⟩:=Q8 H B;refine aP (v:=v) (w':=w) ?_ (bA.eU n (ca k));simp[execOp,s,Instr.field,run_underlying l,I,G,asAgg,j]
     ·cases b
    ·cases b
   ·cases b
  ·cases b
 | _=>simp[CI]at b
def UF (r:ke P T) (l:Inv N M L w0 blk V t h a w) {x m:Operand} {D:Nat} {τ:Ty} {E:cH} (F:o.op=.index D x m) (I:T D=some τ) (c:nR T τ (ev t x) (ev t m)=some E) :
  fm P o a w (bA N M L w0 V t h a e o.dst E):=by
 have G:=l.ev x;have y:=l.ev m;generalize ev t x=q at *;generalize ev t m=z at *;obtain⟨R,g,p⟩:=under r I;cases z with
 | int k i =>
  have j:=pI y;cases q with
  | str s =>
   have J:=GN G;simp only[nR]at c;split at c
   ·rename_i f;rw[f]at p;have:=wv p;subst this;split at c
    ·rename_i S;split at c
     ·rename_i b U;simp only[alz]at c;subst c;refine aP (v := .int .u8 b.toNat) (w':=w) ?_ (bA.eU l (ca (.int _ _)));simp only[execOp,F,Instr.index,j,J,asIntOf,alW,Sem.run_pure,Result.andThen_ok,run_underlying g];simp_all
     ·cases c
    ·cases c
   ·cases c
  | agg xs =>
   simp only[nR]at c;split at c
   ·rename_i n el f;rw[f]at p;have:=Cr p;subst this;split at c
    ·rename_i φ H;split at c
     ·rename_i K;split at c
      ·rename_i d O;simp only[alz]at c;subst c;have A:RP w (Own M h blk) (.agg xs) (a.eval x):=G;generalize Q:a.eval x=u at *;cases A with
       | agg xs us h1 h2 h3 =>
        obtain⟨v,B,C⟩:=Tt r H h1 h2 h3 O;refine aP (v:=v) (w':=w) ?_ (bA.eU l (ca C));simp only[execOp,F,Instr.index,j,Q,asIntOf,alW,Sem.run_pure,Result.andThen_ok,run_underlying g];rw[if_pos K];simp[run_sizeOf (r _ _ H),B]
      ·cases c
     ·cases c
    ·cases c
   ·cases c
  | _=>simp[nR]at c
 | _=>cases q<;>simp[nR]at c
def qU {d:D} {n:Nat} (h:ur d=some n):∃k,d=.int k n:=by
 cases d with
 | int k i =>
  simp only[ur]at h;split at h
  ·simp only[alz]at h;exact⟨k,by grind⟩
  ·cases h
 | _=>simp[ur]at h
def run_sliceBound (k:IntKind) (n y:Nat) (c:BoundsCode) (a:n<=y):(Instr.sliceBound (.int k n) y c).run P w=.ok n w:=by
 have b:(n:Int)<=(y:Int):=by omega
 simp[Instr.sliceBound,asIntOf,b]
def xK (b:Bool) {n cap l k:Nat} {e f:Option D} {vlo vhi:Option Value} (y:n<=cap) (c:Bf n e f=some (l,k))
  (s:∀d,e=some d->∃v,vlo=some v∧∀k n,d=.int k n->v=.int k n) (m:e=none->vlo=none)
  (t:∀d,f=some d->∃v,vhi=some v∧∀k n,d=.int k n->v=.int k n) (o:f=none->vhi=none) :
  (Instr.sliceBounds b n cap vlo vhi none).run P w=.ok (l,k,cap) w∧l<=k∧k<=n:=by
 unfold Bf at c;split at c
 ·rename_i g h u x;split at c
  ·rename_i a;simp only[alz,Prod.mk.injEq]at c;obtain⟨rfl,rfl⟩:=c;refine⟨?_,a.1,a.2⟩;have i:(f=none∧vhi=none∧g=n)∨∃q,vhi=some (.int q (g:Nat)):=by
    cases f with
    | none=>simp_all
    | some d =>
     obtain⟨q,rfl⟩:=qU u;simp_all
   have j:(e=none∧vlo=none∧h=0)∨∃q,vlo=some (.int q (h:Nat)):=by
    cases e with
    | none=>simp_all
    | some d =>
     obtain⟨q,rfl⟩:=qU x;simp_all
   rcases i with⟨_,rfl,rfl⟩|⟨p,rfl⟩<;>rcases j with⟨_,rfl,rfl⟩|⟨r,rfl⟩
   ·simp[Instr.sliceBounds]
   ·simp[Instr.sliceBounds,run_sliceBound r h _ _ a.1]
   ·simp[Instr.sliceBounds,run_sliceBound p g cap _ (by omega)]
   ·simp[Instr.sliceBounds,run_sliceBound p g cap _ (by omega),run_sliceBound r h _ _ a.1]
  ·cases c
 ·cases c
def To (b:Bool) {n cap l k m:Nat} {e:Option D} {p:D} {vlo:Option Value} {vhi r:Value} {q:IntKind} (a:Bf n e (some p)=some (l,k)) (x:r=.int q m) (f:m<=cap) (g:k<=m)
  (y:∀d,e=some d->∃v,vlo=some v∧∀k n,d=.int k n->v=.int k n) (s:e=none->vlo=none)
  (h:∀k n,p=.int k n->vhi=.int k n):(Instr.sliceBounds b n cap vlo (some vhi) (some r)).run P w=.ok (l,k,m) w∧l<=k∧k<=n:=by
 unfold Bf at a;split at a
 ·rename_i t i z A;split at a
  ·rename_i c;simp only[alz,Prod.mk.injEq]at a;obtain⟨rfl,rfl⟩:=a;refine⟨?_,c.1,c.2⟩;obtain⟨u,rfl⟩:=qU z;have j:=h _ _ rfl;subst j x;have o:(e=none∧vlo=none∧i=0)∨∃q,vlo=some (.int q (i:Nat)):=by
    cases e with
    | none=>simp_all
    | some d =>
     obtain⟨q,rfl⟩:=qU A;simp_all
   rcases o with⟨_,rfl,rfl⟩|⟨B,rfl⟩
   ·simp[Instr.sliceBounds,run_sliceBound q m cap _ f,run_sliceBound u t m _ g]
   ·simp[Instr.sliceBounds,run_sliceBound q m cap _ f,run_sliceBound u t m _ g,run_sliceBound B i _ _ c.1]
  ·cases a
 ·cases a
def Inv.evo (c:Inv N M L w0 blk V t h a w) (x:Option Operand):(∀d,x.map (Am.ev t)=some d->∃v,x.map a.eval=some v∧∀k n,d=.int k n->v=.int k n)∧(x.map (Am.ev t)=none->x.map a.eval=none):=by
 cases x with
 | none=>simp_all
 | some x =>
  refine⟨fun d b=>⟨a.eval x,rfl,fun k n e =>?_⟩,fun b=>by simp at b⟩;simp only[Option.map_some,alz]at b;have:=c.ev x;rw[b,e]at this;exact pI this
def RP.cut {h:Nat->Prop} {A:Option Addr} {c n l k m s:Nat} {nl tight d a:Bool} {e:List D} (i:RP w h (.sl nl tight n e) (.slice A n c)) (o:l<=k) (p:k<=n) (q:k<=m) (r:m<=c) (t:a=true->m=k) (u:d=true->nl=true∧tight=true∧a=true) :
  RP w h (.sl d a (k-l) ((e.drop (l*s)).take ((k-l)*s))) (.slice (if m=l then A else A.map (·.add (l*s))) (k-l) (m-l)):=by
 cases i with
 | sl A c nl tight n e us h1 h2 h3 h4 h5 h6 h7 h8 =>
  refine .sl _ _ d a _ _ (fun j=>us (l*s+j)) (by omega) (by omega) (fun v =>?_) (fun v =>?_) (fun f=>by rw[t f]) (fun y =>?_) (fun j x z =>?_) (fun x B=>h8 x (al4 (al6 B)))
  ·simp_all
  ·have H:A=none:=by
    cases A with
    | none=>rfl
    | some ad=>grind
   simp_all
  ·have g:e≠[]:=by grind
   have C:l<k:=by
    rcases al7 l k with h'|h'
    ·exact h'
    simp_all
   obtain⟨b,E,rfl,F,G,I⟩:=h6 g;rw[if_neg (by omega)];refine⟨b,E+l*s,by simp[tO],F,G,fun j z =>?_⟩;grind
  grind
def UH (R:ke P T) (I:Inv N M L w0 blk V t h a w) {x:Operand} {S hi mx:Option Operand} {ty:Nat} {τ:Ty} {E:cH} (U:o.op=.slice ty x S hi mx) (hτ:T ty=some τ)
  (b:jg T τ h (ev t x) (S.map (ev t)) (hi.map (ev t)) (mx.map (ev t))=some E):fm P o a w (bA N M L w0 V t h a e o.dst E):=by
 have W:=I.ev x;obtain⟨j,p⟩:=I.evo S;obtain⟨z,J⟩:=I.evo hi;obtain⟨ai,O⟩:=I.evo mx;generalize ev t x=q at *;obtain⟨dd,B,Q⟩:=under R hτ;have ar:S.map a.eval=S.map a.eval:=rfl;cases q with
 | str s =>
  have X:=GN W;simp only[jg]at b;split at b
  ·rename_i l k C f K;rw[C]at Q;have:=wv Q;subst this;simp only[alz]at b;subst b;obtain⟨d,_,_⟩:=xK (P:=P) (w:=w) false (alq _) K j p z J;have i:=O f;refine aP (v := .string (s.extract l k)) (w':=w) ?_ (bA.eU I (ca (.str _)));simp only[execOp,U,Instr.sliceAt,alW,run_underlying B,Result.andThen_ok,Instr.slice,X,i];simp[d]
  ·cases b
 | sl nl tight n xs =>
  have D:RP w (Own M h blk) (.sl nl tight n xs) (a.eval x):=W;have aj:∃A c,a.eval x=.slice A n c∧n<=c∧(tight=true->c=n):=by
   generalize a.eval x=u at *;cases D with
   | sl A c nl tight n xs us h1 h2 h3 h4 h5 h6 h7 h8=>grind
  obtain⟨A,c,hu,ak,ag⟩:=aj;rw[hu]at D;simp only[jg]at b;split at b
  ·rename_i el C;rw[C]at Q;have:=iA Q;subst this;split at b
   ·rename_i φ l k Y K;split at b
    ·rename_i f;simp only[alz]at b;subst b;obtain⟨d,F,G⟩:=xK (P:=P) (w:=w) true ak K j p z J;have i:=O f;refine aP (v := .slice (if c=l then A else A.map (·.add (l*φ.size))) (k-l) (c-l)) (w':=w) ?_ (bA.eU I (ca (D.cut F G (by omega) (alq _) (fun ht =>?_) (fun Z =>?_))))
     ·simp only[execOp,U,Instr.sliceAt,alW,run_underlying B,Result.andThen_ok,Instr.slice,hu,i];simp[d,run_sizeOf (R _ _ Y)]
     ·simp_all
     ·simp only[al0]at Z;refine⟨Z.1,Z.2,?_⟩;have au:c=0∧n=0:=by
       cases D with
       | sl A c nl tight n xs us h1 h2 h3 h4 h5 h6 h7 h8=>simp_all
      simp_all
    ·rename_i md f;split at b
     ·rename_i m hd hm aa;split at b
      ·rename_i H;simp only[alz]at b;subst b;obtain⟨q,rfl⟩:=qU hm;obtain⟨vm,al,ab⟩:=ai _ f;obtain⟨vh,an,ad⟩:=z _ aa;rw[aa]at K;obtain⟨d,F,G⟩:=To (P:=P) (w:=w) true (cap:=c) K (ab _ _ rfl) (by omega) H.1 j p ad;refine aP (v := .slice (if m=l then A else A.map (·.add (l*φ.size))) (k-l) (m-l)) (w':=w) ?_ (bA.eU I (ca (D.cut F G H.1 (by omega) (fun ht=>by simpa using ht) (fun Z=>by cases Z))));simp only[execOp,U,Instr.sliceAt,alW,run_underlying B,Result.andThen_ok,Instr.slice,hu,al,an];simp[d,run_sizeOf (R _ _ Y)]
      ·cases b
     ·cases b
   ·cases b
  ·cases b
 | buf y v s c0 n =>
  simp only[jg]at b;split at b
  ·rename_i r el hl C f;rw[C]at Q;have:=iA Q;subst this;split at b
   ·rename_i φ l k Y K;split at b
    ·rename_i X;obtain⟨X,av⟩:=X;simp only[alz]at b;subst b;obtain⟨hx,hv⟩:=cX hl;have i:=O f;rcases W.2 r hx hv with⟨g,o',c,N',t',g0,g1,g2,g3,g4,g5⟩|⟨g0,g1,A,g2⟩
     ·obtain⟨d,F,G⟩:=xK (P:=P) (w:=w) true g3 K j p z J;refine aP (v := .slice (if c=l then (some ⟨g.1,o',none⟩) else (some ⟨g.1,o'+l*φ.size,none⟩)) (k-l) (c-l)) (w':=w) ?_ (bA.eU I ⟨W.1,fun r' h1 h2 =>.inl ?_⟩)
      ·simp only[execOp,U,Instr.sliceAt,alW,run_underlying B,Result.andThen_ok,Instr.slice,g1,i];simp[d,run_sizeOf (R _ _ Y),tO]
      ·by_cases ae:c=l
       ·rw[if_pos ae];refine⟨g,o',c-l,N',t',g0,rfl,fun hh =>?_,by omega,by omega,g5⟩;simp_all
       ·rw[if_neg ae];refine⟨g,o'+l*φ.size,c-l,N',t',g0,rfl,fun hh =>?_,by omega,by omega,g5⟩;obtain⟨q1,q2⟩:=g2 (.inl (by omega));have aw:l*s<=c*s:=al8 _ (by omega);rw[X,Nat.sub_mul];omega
     ·subst g1;obtain⟨d,F,G⟩:=xK (P:=P) (w:=w) (cap:=0) true (alq _) K j p z J;have ao:k=0:=by omega
      have aq:l=0:=by omega
      subst ao aq;refine aP (v := .slice A 0 0) (w':=w) ?_ (bA.eU I ⟨W.1,fun r' h1 h2 =>.inr ⟨g0,rfl,A,rfl⟩⟩);simp only[execOp,U,Instr.sliceAt,alW,run_underlying B,Result.andThen_ok,Instr.slice,g2,i];simp[d,run_sizeOf (R _ _ Y)]
    ·cases b
   ·cases b
  ·cases b
 | _=>simp[jg]at b
end
section
variable {P:Program} {T:Nat->Option Ty} {N:Nat} {M:Nat->Prop} {L:lG} {w0:World} {blk:Nat->Option (Nat×Nat)} {V:Nat->Nat->Prop} {t:Nat->D} {h:Nat->Option Row} {a:Act} {w:World} {e:Nat} {o:Oper} {Γ:Env}
def TF (b us:Array Value) (a:Nat) (d:a+us.size<=b.size) :
  us.zipIdx.foldl (fun cs (p:Value×Nat)=>cs.setIfInBounds (a+p.2) p.1) b=(b.toList.take a++us.toList++b.toList.drop (a+us.toList.length)).toArray:=by
 have key:∀(l:List Value) (k:Nat) (c:Array Value),a+k+l.length<=c.size ->
   (l.zipIdx k).foldl (fun cs (p:Value×Nat)=>cs.setIfInBounds (a+p.2) p.1) c=(c.toList.take (a+k)++l++c.toList.drop (a+k+l.length)).toArray:=by
  intro l
  induction l with
  | nil=>intro k c _;simp
  | cons v l e =>
   intro k c f;simp only[List.zipIdx_cons,List.foldl_cons];simp only[List.length_cons]at f;rw[e (k+1) _ (by simp;omega)];have:=list_seg_step c.toList (a+k) v l (by simp;omega);simp only[Array.toList_setIfInBounds];congr 1
 have:=key us.toList 0 b (by simp;omega);rw[alZ]at this;rw[<- this,<- Array.foldl_toList,Array.toList_zipIdx]
def adX {w:World} {M:Nat->Prop} {cells e:List D} {a:Array Value} {f:List Value} {c:Nat} (g:c+e.length<=cells.length) (h:f.length=e.length) (i:cells.length<=a.size)
  (m:∀j d,cells[j]? = some d->bE d=true∧RP w M d (a.getD j undef)) (l:∀j d,e[j]? = some d->bE d=true∧RP w M d (f.getD j undef)) (j:Nat) (d:D) (k:(putCells cells c e)[j]? = some d) :
  bE d=true∧RP w M d ((a.toList.take c++f++a.toList.drop (c+f.length)).toArray.getD j undef):=by
 have:=spliced (cur:=a) (b:=0) g h (by omega) (fun j d k=>by grind) l j d k;simp_all
def Qc {w:World} {M:Nat->Prop} {a:List D} {f:Nat->Value} (c:∀(j:Nat) d,a[j]? = some d->bE d=true∧RP w M d (f j)) (j:Nat) (d:D) (b:(a.map canon)[j]? = some d):bE d=true∧RP w M d (f j):=by
 rw[aln,alo]at b;obtain⟨x,e,rfl⟩:=b;obtain⟨g,h⟩:=c j x e;exact⟨by rw[p8];exact g,h.canon⟩
def Inv.kK (q:Inv N M L w0 blk V t h a w) {f:Nat->Option (Nat×Nat)} {r:Nat->Prop} : ∀ {parts:List (Nat×Operand)} {cells c:List D} {o:List Nat} {cur:Array Value},
  kK h f cells (parts.map fun p=>(p.1,Am.ev t p.2))=some (c,o)->s6 M h blk o r->cells.length=cur.size->(∀j d,cells[j]? = some d->bE d=true∧RP w r d (cur.getD j undef)) ->
  ∃b,Instr.fill f cur (parts.map fun p=>(p.1,a.eval p.2))=some b∧c.length=b.size∧c.length=cells.length∧∀j d,c[j]? = some d->bE d=true∧RP w r d (b.getD j undef)
 | [],cells,c,o,cur,e,s,m,u=>by
  simp only[amb,Am.kK,alz,Prod.mk.injEq]at e;obtain⟨rfl,rfl⟩:=e;exact⟨cur,rfl,m,rfl,u⟩
 | (i,x)::parts,cells,c,o,cur,e,s,m,u=>by
  simp only[alw,Am.kK]at e;split at e
  ·rename_i g n z B C E;split at e
   ·rename_i F;split at e
    ·rename_i A G H;simp only[alz,Prod.mk.injEq]at e;obtain⟨rfl,rfl⟩:=e;obtain⟨Q,I⟩:=q.gY E s.left (q.ev x);have v:(a.eval x).cells.toList.length=z.length:=by omega
     have k:g+z.length<=cells.length:=by omega
     obtain⟨b,J,K,O,P⟩:=q.kK (cur:=(cur.toList.take g++(a.eval x).cells.toList++cur.toList.drop (g+(a.eval x).cells.toList.length)).toArray) H s.right
      (by rw[lk k];simp;omega)
      (fun j d y=>adX k v (by omega) u (fun j d y=>by simpa [List.getD] using I j d y) j d y)
     refine⟨b,?_,K,by rw[O,lk k],P⟩;rw[<- J];simp only[alw,Instr.fill,C];have l:(decide ((a.eval x).cells.size≠n)||decide (g+(a.eval x).cells.size>cur.size))=false:=by simp;omega
     rw[if_neg (by simpa using l)];congr 1;exact TF cur (a.eval x).cells g (by omega)
    ·cases e
   ·cases e
  ·cases e
def qf (b:ke P T):∀(F:List Field),(∀f∈F,(T f.type).isSome=true)->(F.mapM fun f=>(do pure (f.offset,<- Go.sizeOf f.type):Sem (Nat×Nat))).run P w=.ok (F.map fun f=>(f.offset,((T f.type).map (·.size)).getD 0)) w
 | [],_=>by simp
 | f::F,hF=>by
  have c:=hF f (by simp);cases a:T f.type with
  | none=>simp[a]at c
  | some φ =>
   have d:=qf b F (fun g e=>hF g (by simp[e]));simp only[List.mapM_cons,alW,run_sizeOf (b _ _ a),Result.andThen_ok,Sem.run_pure,alw,a,Option.map_some,Option.getD_some];rw[d];rfl
def Bj (n:ke P T) (q:Inv N M L w0 blk V t h a w) {r:Nat} {parts:Array (Nat×Operand)} {τ:Ty} {E:cH} (J:o.op=.build r parts) (G:T r=some τ) (g:jf T τ h (parts.toList.map fun p=>(p.1,ev t p.2))=some E) :
  fm P o a w (bA N M L w0 V t h a e o.dst E):=by
 obtain⟨X,s,H⟩:=under n G;unfold jf at g;split at g
 ·rename_i K u;rw[u]at H;obtain⟨F,rfl,O⟩:=jM H;split at g
  ·rename_i b;simp only[al0]at b;split at g
   ·rename_i x m Q;simp only[alz]at g;subst g;obtain⟨z,y,A⟩:=lB (n r τ G) w;obtain⟨c,R,Y,Z,I⟩:=q.kK Q (q.ic m) (cur:=τ.zero.toArray) (by simp) (fun j d l=>uM τ.zero b.2 j d l);have k:∀f∈F.toList,(T f.type).isSome=true:=by
     intro f S;have:=b.1;rw[alB]at this;exact this (f.type,f.offset) (by grind)
    have B:(fun i=>(F.map fun f=>(f.offset,((T f.type).map (·.size)).getD 0))[i]?)=fieldAt T K:=by
     funext i;simp only[fieldAt,<- O,aln,Array.getElem?_map];grind
    refine aP (v := .agg c) (w':=w) ?_ ?_
    ·have U:=qf (P:=P) (w:=w) n F.toList k;have C:(F.mapM fun f=>(do pure (f.offset,<- Go.sizeOf f.type):Sem (Nat×Nat))).run P w=.ok (F.map fun f=>(f.offset,((T f.type).map (·.size)).getD 0)) w:=by
      rw[amd,Sem.run_map,U];simp only[Result.andThen_ok];congr 1;grind
     rw[<- B]at R;simp only[execOp,J,Instr.build,alW,y,Result.andThen_ok,run_underlying s,C,A,ame];simp_all
    ·have:(⟨.agg x,lh h m⟩:cH)=⟨.agg x,lh h m⟩:=rfl;have D:c=c.toList.toArray:=by simp
     rw[D];refine bA.Og q m (.agg x _ (by simp;omega) (fun j d l =>?_) (fun d W =>?_))
     ·have:=(I j d l).2;simpa [List.getD] using this
     ·obtain⟨j,l⟩:=alL W;exact (I j d l).1
   ·cases g
  ·cases g
 ·cases g
def ab6 (u:ke P T) (B:Inv N M L w0 blk V t h a w) {q:Nat->Bool} {ty:Nat} {parts:Array (Nat×Operand)} {τ:Ty} {E:cH} (W:o.op=.build ty parts) (C:T ty=some τ) (b:tW q T τ h o.dst (parts.toList.map fun p=>(p.1,ev t p.2))=some E) :
  fm P o a w (bA N M L w0 V t h a e o.dst E):=by
 unfold tW at b;split at b
 ·split at b
  ·exact Bj u B W C b
  ·split at b
   ·rename_i X x v s o' n G ad;split at b
    ·rename_i j;obtain⟨k1,Y,k3,k4⟩:=j;simp only[alz]at b;subst b;obtain⟨dd,H,Z⟩:=under u C;rw[G]at Z;obtain⟨F,rfl,hF⟩:=jM Z;obtain⟨m,I,k⟩:∃m,parts.toList=[m]∧(m.1,ev t m.2)=(0,D.buf x v s o' n):=by
      simp_all
     simp only[Prod.mk.injEq]at k;have U:=B.ev m.2;rw[k.2]at U;have J:∃r,rY h x v=some r:=by
      simp only[alive]at k1;exact Option.isSome_iff_exists.1 k1
     obtain⟨r,J⟩:=J;obtain⟨hx,hv⟩:=uo J;obtain⟨A,c,hu⟩:∃A c,a.eval m.2=.slice A n c:=by
      rcases U.2 r hx hv with⟨g,aj,c,N',t',g0,g1,_⟩|⟨_,g1,A,g2⟩
      ·simp_all
      simp_all
     obtain⟨z,K,O⟩:=lB (u ty τ C) w;have l:∀f∈F.toList,(T f.type).isSome=true:=by
      intro f ae;rw[alB]at Y;exact Y (f.type,f.offset) (by grind)
     have Q:(fun i=>(F.map fun f=>(f.offset,((T f.type).map (·.size)).getD 0))[i]?)=fieldAt T X:=by
      funext i;simp only[fieldAt,<- hF,aln,Array.getElem?_map];grind
     have i1:Instr.fill (fieldAt T X) τ.zero.toArray (parts.toList.map fun p=>(p.1,a.eval p.2))=some #[a.eval m.2]:=by
      rw[I];simp only[alw,amb,Instr.fill,k.1,k3,hu];obtain⟨y,R⟩:∃y,τ.zero=[y]:=by
       match ag:τ.zero,k4 with
       | [y],_=>exact⟨y,rfl⟩
      rw[R];rfl
     refine aP (v := .agg #[a.eval m.2]) (w':=w) ?_ (bA.eU B ⟨_,rfl,by rw[hu];rfl,U⟩);have hm:=qf (P:=P) (w:=w) u F.toList l;have S:(F.mapM fun f=>(do pure (f.offset,<- Go.sizeOf f.type):Sem (Nat×Nat))).run P w=.ok (F.map fun f=>(f.offset,((T f.type).map (·.size)).getD 0)) w:=by
      rw[amd,Sem.run_map,hm];simp only[Result.andThen_ok];congr 1;grind
     rw[<- Q]at i1;simp only[execOp,W,Instr.build,alW,K,Result.andThen_ok,run_underlying H,S,O,ame];simp_all
    ·cases b
   ·rename_i X x v s o' n G ad;split at b
    ·rename_i j;obtain⟨k1,Y,k3,k4⟩:=j;simp only[alz]at b;subst b;obtain⟨dd,H,Z⟩:=under u C;rw[G]at Z;obtain⟨F,rfl,hF⟩:=jM Z;obtain⟨m,I,k⟩:∃m,parts.toList=[m]∧(m.1,ev t m.2)=(0,D.box1 x v s o' n):=by
      simp_all
     simp only[Prod.mk.injEq]at k;have U:=B.ev m.2;rw[k.2]at U;obtain⟨u',hu,aa,ai⟩:=U;obtain⟨z,K,O⟩:=lB (u ty τ C) w;have l:∀f∈F.toList,(T f.type).isSome=true:=by
      intro f ae;rw[alB]at Y;exact Y (f.type,f.offset) (by grind)
     have Q:(fun i=>(F.map fun f=>(f.offset,((T f.type).map (·.size)).getD 0))[i]?)=fieldAt T X:=by
      funext i;simp only[fieldAt,<- hF,aln,Array.getElem?_map];grind
     have i1:Instr.fill (fieldAt T X) τ.zero.toArray (parts.toList.map fun p=>(p.1,a.eval p.2))=some #[u']:=by
      rw[I];simp only[alw,amb,Instr.fill,k.1,k3,hu];obtain⟨y,R⟩:∃y,τ.zero=[y]:=by
       match ag:τ.zero,k4 with
       | [y],_=>exact⟨y,rfl⟩
      rw[R];rfl
     refine aP (v := .agg #[u']) (w':=w) ?_ (bA.eU B ⟨u',rfl,aa,ai⟩);have hm:=qf (P:=P) (w:=w) u F.toList l;have S:(F.mapM fun f=>(do pure (f.offset,<- Go.sizeOf f.type):Sem (Nat×Nat))).run P w=.ok (F.map fun f=>(f.offset,((T f.type).map (·.size)).getD 0)) w:=by
      rw[amd,Sem.run_map,hm];simp only[Result.andThen_ok];congr 1;grind
     rw[<- Q]at i1;simp only[execOp,W,Instr.build,alW,K,Result.andThen_ok,run_underlying H,S,O,ame];simp_all
    ·cases b
   ·unfold cE at b;split at b
    ·rename_i cs hw hb;simp only[alz]at b;subst b;refine (Bj (e:=e) u B W C hb).mono fun v w' hA =>?_;obtain⟨ab,h1,h2⟩:=hA;exact⟨ab,h1,ca (RP.kp (d := .agg cs) h2)⟩
    ·cases b
 ·exact Bj u B W C b
def zS (zs:List Value) (n:Nat) (j:Nat) (b:j<n*zs.length):(((Array.range (n*zs.length)).map fun i=>zs.toArray[i % zs.toArray.size]!).getD j undef)=zs.getD (j % zs.length) undef:=by
 have a:0<zs.length:=by
  grind
 have c:j % zs.length<zs.length:=amf _ a;simp_all
def Gp (a:List D):∀(n j:Nat) (d:D),(rf n a)[j]? = some d->j<n*a.length∧a[j % a.length]? = some d
 | 0,j,d,h=>by simp[rf]at h
 | n+1,j,d,h=>by
  have e:rf (n+1) a=a++rf n a:=by simp[rf,List.replicate_succ]
  rw[e]at h
  by_cases b:j<a.length
  ·rw[amh b]at h;refine⟨?_,by rw[ami b];exact h⟩;grind
  ·rw[amj (by omega)]at h;obtain⟨f,c⟩:=Gp a n (j-a.length) d h;refine⟨by grind,?_⟩;rw[Nat.mod_eq_sub_mod (by omega)];exact c
def ve (n:Nat) (a:List D):(rf n a).length=n*a.length:=by
 simp[rf]
def w9 {d e s n c:Nat} {g:Nat×Nat} {f:Nat} {b:Array Value} {h:Nat->Nat->Prop} {i:Nat->Option Row} {a:Nat->Option (Nat×Nat)} (j:h d e) (k:a d=some g) (l:w.heap[g.1]? = some (.cells b f (0,0))) (m:n<=c) (o:c<=maxLen) (p:c*s+g.2=b.size) :
  RT w M i a h (.buf d e s 0 n) (.slice (some ⟨g.1,g.2,none⟩) n c) :=
 ⟨j,fun _ _ _ =>.inl ⟨g,g.2,c,b.size,f,k,rfl,fun _=>⟨rfl,p⟩,m,o,by simp[World.shape?,l]⟩⟩
def VA (n:Nat) (a:List D):rf n (a.map canon)=(rf n a).map canon:=by simp[rf,List.map_flatten]
def FW (s:ke P T) (u:Inv N M L w0 blk V t h a w) {y len d:Nat} {parts:Array (Nat×Operand)} {τ:Ty} {E:cH} (S:o.op=.buildSlice y len parts) (U:o.dst=some d) (W:kZ N V d e) (X:T y=some τ)
  (b:fu T τ h e d len (parts.toList.map fun p=>(p.1,ev t p.2))=some E):fm P o a w (bA N M L w0 V t h a e o.dst E):=by
 obtain⟨dd,A,K⟩:=under s X;unfold fu at b;split at b
 ·rename_i el B;rw[B]at K;have:=iA K;subst this;split at b
  ·rename_i φ O;split at b
   ·rename_i c;obtain⟨c1,Y,Z,C⟩:=c;split at b
    ·rename_i D r hf;split at b
     ·rename_i aa;simp only[alz]at b;subst b;obtain⟨z,F,G⟩:=lB (s el φ O) w;have m:(len*φ.size=0->((Array.range (len*φ.size)).map fun i=>φ.zero.toArray[i % φ.zero.toArray.size]!) = #[]):=by intro l;simp[l]
      obtain⟨cur',H,i2,i3,i4⟩:=u.kK hf (u.ic r) (cur:=(Array.range (len*φ.size)).map fun i=>φ.zero.toArray[i % φ.zero.toArray.size]!)
       (by rw[ve];simp[C]) (fun j x I=>by
        obtain⟨Q,R⟩:=Gp _ _ _ _ I;simp only[alU]at Q R;rw[<- C,zS φ.zero len j Q];have:=uM (w:=w) (M:=Own M (aZ h (lh h r)) blk) φ.zero Z _ x R;simp_all)
      have ab:=(u.freeze r).alloc (d:=d) (e:=e) (ty:=el) (lst:=true) (cs:=D.map canon) (vs:=cur') W (by simp_all) (fun j x I=>Qc (f:=fun j=>cur'.getD j undef) i4 j x I);refine aP (v := .slice (some ⟨w.heap.size,0,none⟩) len len) (w':=w.alloc (.cells cur' el)) ?_ ⟨cq blk d (some (w.heap.size,0)),?_,?_⟩
      ·have n:¬len*φ.size>2 ^ 24:=by omega
       simp only[execOp,S,Instr.buildSlice,alW,run_underlying A,Result.andThen_ok,run_sizeOf (s _ _ O),if_neg n]
       by_cases l:len*φ.size=0
       ·have k:=m l;rw[k]at H;have J:((Array.range (len*φ.size)).map fun i=>(#[]:Array Value)[i % (#[]:Array Value).size]!) = #[]:=by simp[l]
        simp only[if_pos l,alW,Sem.run_pure,Result.andThen_ok,ame];rw[J,H];simp[newRow]
       ·simp only[if_neg l,alW,F,Result.andThen_ok,Sem.run_pure,G,ame];rw[H];simp[newRow]
      ·show Inv _ _ _ _ _ _ _ (aZ h (lh h r++[(d,some ⟨e,el,D.map canon,false,true,false⟩)])) _ _;rw[jc];grind
      ·have q:cur'.size=len*φ.size:=by
        rw[<- i2,i3,ve];simp[C]
       refine w9 (g:=(w.heap.size,0)) (.inr ⟨U,rfl⟩) (ay _ _ _) (heap_alloc_new w _) (alq _) ?_ (by rw[q];simp);have:len<=len*φ.size:=Nat.le_mul_of_pos_right _ Y;simp only[maxLen];omega
     ·cases b
    ·cases b
   ·cases b
  ·cases b
 ·cases b
def Ak {a:Nat->Prop} {d:D} {n:Nat} {u:Value} (b:ur d=some n) (c:RT w a h blk V d u):∃k,u=.int k n:=by
 obtain⟨k,rfl⟩:=qU b;exact⟨k,pI c⟩
def Zr (K:ke P T) (y:Inv N M L w0 blk V t h a w) {u d:Nat} {l c:Operand} {τ:Ty} {E:cH} (X:o.op=.makeSlice u l c) (Y:o.dst=some d) (Z:kZ N V d e) (hτ:T u=some τ)
  (b:u9 T τ e d (ev t l) (ev t c)=some E):fm P o a w (bA N M L w0 V t h a e o.dst E):=by
 have A:=y.ev l;have B:=y.ev c;obtain⟨dd,C,O⟩:=under K hτ;unfold u9 at b;split at b
 ·rename_i el D;rw[D]at O;have:=iA O;subst this;split at b
  ·rename_i φ n k hφ hn hk;split at b
   ·rename_i q;obtain⟨F,Q,c3,c4,c5,R⟩:=q;simp only[alz]at b;subst b;obtain⟨q1,hl⟩:=Ak hn A;obtain⟨q2,G⟩:=Ak hk B;obtain⟨d',i,z,g1,g2,g3,S,g5,g6,g7⟩:=(K el φ hφ).get;have hb:(i.bytes:Int)*(k:Int)<=281474976710656:=by
     grind
    have r:(k:Int)<=9223372036854775807:=by
     simp only[maxLen]at Q;omega
    have p:=run_make (P:=P) w u el i z C g3 g6 q1 q2 n k (by omega) (by omega) hb r;simp only[Int.toNat_natCast]at p;have m:∀j x,(rf n (φ.zero.map rH))[j]? = some x->bE x=true∧RP w (Own M h blk) x ((madeCells z.cells (k*i.size)).getD j undef):=by
     intro j x H;obtain⟨U,W⟩:=Gp _ _ _ _ H;simp only[alU]at U W;have I:j<k*φ.zero.length:=alu U (al8 _ F);have:=uM (w:=w) (M:=Own M h blk) φ.zero c5 _ x W;refine⟨this.1,?_⟩;have he:(madeCells z.cells (k*i.size)).getD j undef=φ.zero.toArray.getD (j % φ.zero.length) undef:=by
      rw[g7,S,<- R];have:=zS φ.zero k j I;simpa [madeCells,List.getD] using this
     simp_all
    have s:(madeCells z.cells (k*i.size)).size=k*φ.size:=by simp[madeCells,S]
    have J:=y.alloc (d:=d) (e:=e) (ty:=el) (lst:=true) (cs:=rf n ((φ.zero.map rH).map canon)) (vs:=madeCells z.cells (k*i.size)) Z (by rw[ve,s];simp only[alU,R];exact al8 _ F) (fun j x H=>Qc (f:=fun j=>(madeCells z.cells (k*i.size)).getD j undef) m j x (by rw[<- VA];exact H));refine aP (v := .slice (some ⟨w.heap.size,0,none⟩) n k) (w':=w.alloc (.cells (madeCells z.cells (k*i.size)) el)) ?_ ⟨cq blk d (some (w.heap.size,0)),?_,?_⟩
    ·simp[execOp,X,hl,G,p]
    ·refine J.weaken fun x v hx =>?_;grind
    ·exact w9 (g:=(w.heap.size,0)) (.inr ⟨Y,rfl⟩) (ay _ _ _) (heap_alloc_new w _) F Q (by rw[s];simp)
   ·cases b
  ·cases b
 ·cases b
def adI {a:BinOp} {ty:Nat} {k:IntKind} {x y:Int} {d:D} (c:ou a=false) (h:j0 a k x y=some d):∃v,(binOp a ty (.int k x) (.int k y)).run P w=.ok v w∧RP w M d v:=by
 cases a with
 | shl=>simp[ou]at c
 | shr=>simp[ou]at c
 | quo =>
  simp only[j0]at h;split at h
  ·cases h
  ·rename_i b;simp only[alz]at h;subst h;exact⟨_,by simp[binOp,Op.intDiv,b],.int _ _⟩
 | rem =>
  simp only[j0]at h;split at h
  ·cases h
  ·rename_i b;simp only[alz]at h;subst h;exact⟨_,by simp[binOp,Op.intDiv,b],.int _ _⟩
 | add=>simp only[j0,alz]at h;subst h;exact⟨_,by simp[binOp,Op.intArith],.int _ _⟩
 | sub=>simp only[j0,alz]at h;subst h;exact⟨_,by simp[binOp,Op.intArith],.int _ _⟩
 | mul=>simp only[j0,alz]at h;subst h;exact⟨_,by simp[binOp,Op.intArith],.int _ _⟩
 | and=>simp only[j0,alz]at h;subst h;exact⟨_,by simp[binOp,Op.intBits,GY],.int _ _⟩
 | or=>simp only[j0,alz]at h;subst h;exact⟨_,by simp[binOp,Op.intBits,GY],.int _ _⟩
 | xor=>simp only[j0,alz]at h;subst h;exact⟨_,by simp[binOp,Op.intBits,GY],.int _ _⟩
 | andNot=>simp only[j0,alz]at h;subst h;exact⟨_,by simp[binOp,Op.intBits,GY],.int _ _⟩
 | eql=>simp only[j0,alz]at h;subst h;exact⟨_,by simp[binOp,Op.intCmp],.bool _⟩
 | neq=>simp only[j0,alz]at h;subst h;exact⟨_,by simp[binOp,Op.intCmp],.bool _⟩
 | lss=>simp only[j0,alz]at h;subst h;exact⟨_,by simp[binOp,Op.intCmp],.bool _⟩
 | leq=>simp only[j0,alz]at h;subst h;exact⟨_,by simp[binOp,Op.intCmp],.bool _⟩
 | gtr=>simp only[j0,alz]at h;subst h;exact⟨_,by simp[binOp,Op.intCmp],.bool _⟩
 | geq=>simp only[j0,alz]at h;subst h;exact⟨_,by simp[binOp,Op.intCmp],.bool _⟩
def VC {a:BinOp} {ty:Nat} {k k':IntKind} {x y:Int} {d:D} (b:ou a=true) (h:B0 a k x y=some d):∃v,(binOp a ty (.int k x) (.int k' y)).run P w=.ok v w∧RP w M d v:=by
 unfold B0 at h;split at h
 ·cases h
 ·rename_i c;cases a<;>simp only[ou,alY]at b<;>simp only[alz]at h<;>subst h<;>exact⟨_,by simp[binOp,Op.shift,c],.int _ _⟩
def adK {a:BinOp} {ty:Nat} {x y:ByteArray} {d:D} (h:KC a x y=some d):∃v,(binOp a ty (.string x) (.string y)).run P w=.ok v w∧RP w M d v:=by
 cases a with
 | add =>
  simp only[KC]at h;split at h
  ·cases h
  ·rename_i b;simp only[alz]at h;subst h;refine⟨_,?_,.str _⟩;simp only[binOp,Op.stringOp];simp_all
 | eql=>simp only[KC,alz]at h;subst h;exact⟨_,by simp[binOp,Op.stringOp],.bool _⟩
 | neq=>simp only[KC,alz]at h;subst h;exact⟨_,by simp[binOp,Op.stringOp],.bool _⟩
 | lss=>simp only[KC,alz]at h;subst h;exact⟨_,by simp[binOp,Op.stringOp],.bool _⟩
 | leq=>simp only[KC,alz]at h;subst h;exact⟨_,by simp[binOp,Op.stringOp],.bool _⟩
 | gtr=>simp only[KC,alz]at h;subst h;exact⟨_,by simp[binOp,Op.stringOp],.bool _⟩
 | geq=>simp only[KC,alz]at h;subst h;exact⟨_,by simp[binOp,Op.stringOp],.bool _⟩
 | _=>simp[KC]at h
end
section
variable {P:Program} {T:Nat->Option Ty} {N:Nat} {M:Nat->Prop} {L:lG} {w0:World} {blk:Nat->Option (Nat×Nat)} {V:Nat->Nat->Prop} {t:Nat->D} {h:Nat->Option Row} {a:Act} {w:World} {e:Nat} {o:Oper} {Γ:Env}
def afL (p:ke P T) {g:Nat} {φ:Ty} (q:T g=some φ) (r:Tv φ.ds=true) {x y:D} {u v:Value} {b:Bool} {o:Nat->Prop} (h:RP w o x u) (l:RP w o y v) (a:eqC x y=some b) (n:Nat) :
  (∃d,P.underlying g=some d)∧((∃k,φ.ds=.int k∧∃m i j,x=.int m i∧y=.int m j)∨(φ.ds=.bool∧∃i j,x=.bool i∧y=.bool j)∨(φ.ds=.str∧∃i j,x=.str i∧y=.str j)->(Op.equalIn (n+1) g u v).run P w=.ok b w):=by
 obtain⟨d,f,c⟩:=under p q;refine⟨⟨d,f⟩,?_⟩;rintro (⟨k,e,m,i,j,rfl,rfl⟩|⟨e,i,j,rfl,rfl⟩|⟨e,i,j,rfl,rfl⟩)
 ·rw[e]at c;have:=Cs c;subst this;cases h;cases l;simp only[eqC,if_true,alz]at a;subst a;simp[Op.equalIn,run_underlying f]
 ·rw[e]at c;have:=Ae c;subst this;cases h;cases l;simp only[eqC,alz]at a;subst a;simp[Op.equalIn,run_underlying f]
 ·rw[e]at c;have:=wv c;subst this;cases h;cases l;simp only[eqC,alz]at a;subst a;simp[Op.equalIn,run_underlying f]
def ZB {x y:D} {b:Bool} {s:Ds} (a:eqC x y=some b) (c:kindOk s x=true) :
  (∃k,s=.int k∧∃d i j,x=.int d i∧y=.int d j)∨(s=.bool∧∃i j,x=.bool i∧y=.bool j)∨(s=.str∧∃i j,x=.str i∧y=.str j):=by
 cases x<;>cases y<;>simp only[eqC]at a<;>try (cases a;done)
 ·rename_i k i d j;split at a
  ·rename_i e;subst e;cases s<;>simp[kindOk]at c;simp_all
  ·cases a
 ·cases s<;>simp[kindOk]at c;simp_all
 ·cases s<;>simp[kindOk]at c;simp_all
def N0 (j:Inv N M L w0 blk V t h a w) {x:Operand} {i:Nat} {c:List D} {d:D} (m:o.op=.extract x i) (n:ev t x=.tup c) (k:c[i]? = some d):fm P o a w (bA N M L w0 V t h a e o.dst ⟨d,[]⟩):=by
 have l:=j.ev x;rw[n]at l;have g:RP w (Own M h blk) (.tup c) (a.eval x):=l;generalize p:a.eval x=u at *;cases g with
 | tup c f h1 h2 =>
  have q:=(alT.1 k).1;refine aP (v:=f.getD i undef) (w':=w) ?_ (bA.eU j (ca (h2 i d k)));have b:f[i]? = some (f.getD i undef):=by simp_all
  generalize f.getD i undef=v at *;simp[execOp,m,Instr.extract,p,b]
def NZ (i:ke P T) (j:Inv N M L w0 blk V t h a w) {x:Operand} {src f:Nat} {τ σ:Ty} {k b:IntKind} {n:Int} (p:o.op=.convert src f x) (q:T f=some τ) (r:T src=some σ) (g:τ.ds=.int b) (s:ev t x=.int k n) :
  fm P o a w (bA N M L w0 V t h a e o.dst ⟨.int b (b.wrap n),[]⟩):=by
 have l:=j.ev x;rw[s]at l;have u:=pI l;obtain⟨d,y,m⟩:=under i q;obtain⟨d2,c,_⟩:=under i r;rw[g]at m;have:=Cs m;subst this;refine aP (v := .int b (b.wrap n)) (w':=w) ?_ (bA.eU j (ca (.int _ _)));have:=run_convert_int (P:=P) (w:=w) src f k n (by simp[c]);simp[execOp,p,u,convert,run_underlying y,run_underlying c,Conv.intToInt]
def Zu (g:Inv N M L w0 blk V t h a w) {x:Operand} {f:UnOp} {m:Nat} {d:D} (j:o.op=.unOp f m x) (c:unD f (ev t x)=some d):fm P o a w (bA N M L w0 V t h a e o.dst ⟨d,[]⟩):=by
 have l:=g.ev x;generalize ev t x=q at *;cases q with
 | int k n =>
  have i:=pI l;cases f<;>simp only[unD,alz]at c<;>try (cases c;done)
  all_goals
   subst c;refine aP (w':=w) ?_ (bA.eU g (ca (.int _ _)));simp[execOp,j,i,Op.unary,Op.intArith,Op.intBits,GY]
 | bool b =>
  have i:=zY l;cases f<;>simp only[unD,alz]at c<;>try (cases c;done)
  all_goals
   subst c;refine aP (w':=w) ?_ (bA.eU g (ca (.bool _)));simp[execOp,j,i,Op.unary]
 | _=>simp[unD]at c
def Ah:∀ {b:List D},uf b=true->∀x∈b,kv x=true
 | [],_,x,a=>by simp at a
 | y::c,h,x,a=>by
  simp only[uf,al0]at h;rcases alx.1 a with rfl|a
  ·exact h.1
  ·exact Ah h.2 x a
def RP.flat {g h:Nat->Prop} {d:D} {u:Value} (i:RP w g d u) (a:kv d=true):RP w h d u:=by
 induction i with
 | int k n=>exact .int k n
 | bool b=>exact .bool b
 | str s=>exact .str s
 | sl A c nl tight n xs us h1 h2 h3 h4 h5 h6 h7 h8 ih=>simp[kv]at a
 | agg xs us h1 h2 h3 ih =>
  simp only[kv]at a;exact .agg xs us h1 (fun j x e=>ih j x e (Ah a x (alR e))) h3
 | tup xs us h1 h2 ih =>
  simp only[kv]at a;exact .tup xs us h1 (fun j x e=>ih j x e (Ah a x (alR e)))
 | ip xs ad us h6 h7 h8 ih=>simp[kv]at a
 | fn f=>exact .fn f
 | ali x v s o n u h1=>simp[kv]at a
 | mpc ks vs mb us h1 h2 h3 h4 ih=>simp[kv]at a
 | alm x v u h1=>simp[kv]at a
 | clo f l xs us h1 h2 ih=>simp[kv]at a
def BV {h:Nat->Option Row} {blk:Nat->Option (Nat×Nat)} {a:Option Nat} {b:Nat} (e:Own M (forget h a) blk b):Own M h blk b:=by
 rcases e with e|⟨x,r,g,d,f,i,j⟩
 ·exact .inl e
 ·refine .inr ⟨x,r,g,?_,f,i,j⟩;cases a with
  | none=>exact d
  | some y =>
   simp only[forget]at d
   by_cases c:x=y
   ·subst c;simp[cq]at d
   ·rwa [aD _ _ c]at d
def Inv.fresh (z:Inv N M L w0 blk V t h a w) {w':World} {v:Value} {d ty s n:Nat} {cells:List D} {old dst:Option Nat} (B:dst=some d) (C:kZ N V d e)
  (hb:eV (fun b=>∃y g,old=some y∧blk y=some g∧b=g.1) w w') (i:∀y,old=some y->∃r,h y=some r∧r.fz=false)
  (G:(∃(g:Nat×Nat) (c:Nat) (l:Array Value),v=.slice (some ⟨g.1,g.2,none⟩) n c∧(w.heap.size<=g.1∨∃y m,old=some y∧blk y=some m∧g.1=m.1)∧w'.heap[g.1]? = some (.cells l ty (0,0))∧n<=c∧c<=maxLen∧c*s+g.2=l.size∧g.2+cells.length<=l.size ∧
   ∀(j:Nat) d,cells[j]? = some d->bE d=true∧RP w' (fun b=>Own M (forget h old) blk b∨b=g.1) d (l.getD (g.2+j) undef))∨(n=0∧cells=[]∧∃A,v=.slice A 0 0)) :
  ∃f,Inv N M L w0 f (fun x k=>V x k∨(dst=some x∧k=e)) t (cq (forget h old) d (some ⟨e,ty,cells,false,true,false⟩)) a w' ∧
   RT w' (Own M (cq (forget h old) d (some ⟨e,ty,cells,false,true,false⟩)) f) (cq (forget h old) d (some ⟨e,ty,cells,false,true,false⟩)) f (fun x k=>V x k∨(dst=some x∧k=e)) (.buf d e s 0 n) v:=by
 have E:∀ {f:Nat->Option (Nat×Nat)},Inv N M L w0 f (fun x k=>V x k∨(x=d∧k=e)) t (cq (forget h old) d (some ⟨e,ty,cells,false,true,false⟩)) a w'->Inv N M L w0 f (fun x k=>V x k∨(dst=some x∧k=e)) t (cq (forget h old) d (some ⟨e,ty,cells,false,true,false⟩)) a w':=fun hJ=>hJ.weaken fun x k Q=>by
  grind
 rcases G with⟨g,c,l,rfl,H,F,I,J,K,O,P⟩|⟨rfl,rfl,A,rfl⟩
 ·refine⟨cq blk d (some g),E (z.Uq (old:=old) hb.os hb.tape hb.output hb.size (fun k o hn=>hb.block k o (fun⟨y,m,p,q,u⟩=>hn y m p q u)) i rfl C ⟨H,l,F,O,P⟩),?_⟩;exact w9 (.inr ⟨B,rfl⟩) (ay _ _ _) F I J K
 ·refine⟨cq blk d none,E (z.Uq (go:=none) (old:=old) hb.os hb.tape hb.output hb.size (fun k o hn=>hb.block k o (fun⟨y,m,p,q,u⟩=>hn y m p q u)) i rfl C rfl),?_⟩;exact⟨.inr ⟨B,rfl⟩,fun _ _ _ =>.inr ⟨ay _ _ _,rfl,A,rfl⟩⟩
def RP.less {M1 a:Nat->Prop} {d:D} {u:Value} (c:RP w M1 d u) (e:∀b,a b->M1 b):RP w a d u:=c.keep fun _ f h2=>⟨f,fun g=>h2 (e _ g),rfl⟩
def Inv.GS (k:Inv N M L w0 blk V t h a w) {f c:List D} {l:List Nat} {e:Array Value} {m:Nat->Prop} (g:Am.b9 h f=some (c,l)) (n:s6 M h blk l m) (i:e.size=f.length)
  (r:∀(j:Nat) d,f[j]? = some d->RT w (Own M h blk) h blk V d (e.getD j undef)):Cb w m c e:=by
 obtain⟨o,s⟩:=k.b9 (us:=e.toList) g n (by simpa using i) (fun j d p=>by simp_all);refine⟨by simpa using o,fun j d p =>?_,fun b q=>(k.tab b q).less n.le⟩;simp_all
def P6 (hΓ:bV P Γ) (hI:Inv N M L w0 blk V t h a w) {g:Nat} {o:Option Nat} {E:cH} {K:List D} {u:Array Value} (l:yI Γ h e o g K=some E) (hV:∀d,o=some d->kZ N V d e) (p:u.size=K.length)
  (I:∀(j:Nat) d,K[j]? = some d->RT w (Own M h blk) h blk V d (u.getD j undef)):fl P g∧Calls P g u w fun F G=>∃v,F=.returned v∧bA N M L w0 V t h a e o E v G:=by
 unfold yI at l;split at l
 ·rename_i H C q;split at l
  ·rename_i r O Q;simp only[alz]at l;subst l;obtain⟨i,z⟩:=hΓ.calls g none H _ _ Q;refine⟨z,?_⟩
   by_cases f:kv r=true
   ·refine (i w _ u (fun b k=>hI.BW k.1) (hI.GS q (hI.Mk C) p I)).mono fun F G A =>?_;obtain⟨v,B,k,m⟩:=A;refine⟨v,B,?_⟩;rw[if_pos f];exact bA.eU (hI.later k) (ca (RP.flat m f))
   ·have hIf:=hI.freeze C;refine (i w _ u (fun b k=>hIf.BW k) (hI.GS q (hI.ic C) p I)).mono fun F G A =>?_;obtain⟨v,B,k,m⟩:=A;refine⟨v,B,?_⟩;rw[if_neg f];exact⟨blk,(hIf.later k).weaken fun _ _ h =>.inl h,ca m⟩
  ·rename_i ty s n cells O Q;split at l
   ·rename_i d;split at l
    ·rename_i aa;simp only[alz]at l;subst l;obtain⟨i,z⟩:=hΓ.calls g none H _ _ Q;refine⟨z,?_⟩
     by_cases f:uf cells=true
     ·refine (i w _ u (fun b k=>hI.BW k.1) (hI.GS q (hI.Mk C) p I)).mono fun F G A =>?_;obtain⟨v,B,k,m⟩:=A;refine⟨v,B,?_⟩;rw[if_pos f];exact hI.fresh (old:=none) rfl (hV d rfl) (eV.wF k) (fun y R=>by cases R) (by
       rcases m with⟨g,c,S,T,U,W,X,Y,Z,h7,J⟩|m
       ·exact .inl ⟨g,c,S,T,.inl (U.resolve_right id),W,X,Y,Z,h7,fun j x hj=>⟨(J j x hj).1,(J j x hj).2.flat (Ah f x (alR hj))⟩⟩
       ·exact .inr m)
     ·have hIf:=hI.freeze C;refine (i w _ u (fun b k=>hIf.BW k) (hI.GS q (hI.ic C) p I)).mono fun F G A =>?_;obtain⟨v,B,k,m⟩:=A;refine⟨v,B,?_⟩;rw[if_neg f];have:=hIf.fresh (e:=e) (ty:=ty) (s:=s) (cells:=cells) (n:=n) (v:=v) (old:=none) (dst:=some d) rfl (hV d rfl) (eV.wF k) (fun y R=>by cases R) (by
       rcases m with⟨g,c,S,T,U,W,X,Y,Z,h7,J⟩|m
       ·exact .inl ⟨g,c,S,T,.inl (U.resolve_right id),W,X,Y,Z,h7,J⟩
       ·exact .inr m)
      unfold bA;rw[jc];exact this
    ·cases l
   ·cases l
  ·cases l
 ·cases l
def Inv.agM (f:Inv N M L w0 blk V t h a w) {x v:Nat} {r:Row} (d:live h x v=some r) {u:Value} : (∀s o n,RT w (Own M h blk) h blk V (.buf x v s o n) u->EO w (blk x) (.buf 0 0 s o n) u)∧(∀o,RT w (Own M h blk) h blk V (.ptr x v o) u->EO w (blk x) (.ptr 0 0 o) u):=by
 obtain⟨b,c⟩:=cX d;exact⟨fun s o n hr=>⟨trivial,fun e _ _=>hr.2 r b c⟩,fun o hr=>⟨trivial,fun e _ _=>hr.2 r b c⟩⟩
def Inv.ac7 (e:Inv N M L w0 blk V t h a w) {x v:Nat} {r:Row} (b:BL h x v=some r) {u:Value} (hr:RT w (Own M h blk) h blk V (.mp x v) u):EO w (blk x) (.mp 0 0) u:=by
 obtain⟨c,d,_⟩:=Fv b;exact⟨trivial,fun f _ _=>hr.2 r c d⟩
def Vg {d0:D} {x v:Nat} {r:Row} (a:CW d0 h x v=some r):(h x=some r∧r.v=v)∧yt r=true:=by
 unfold CW at a;split at a
 ·obtain⟨b,c,_,d⟩:=Fv a;simp_all
 ·exact⟨cX a,Iv (jR a)⟩
def G4 (hΓ : bV P Γ) (hI : Inv N M L w0 blk V t h a w) {g x v : Nat} {d0 : D} {K : Option Nat} {E : cH} {ds : List D} {u0 : Value} {Y : Array Value} (i : tT Γ h e K g x v d0 ds = some E) (hV : ∀ d, K = some d -> kZ N V d e) (aj : V x v)
    (h0 : ∀ r, CW d0 h x v = some r -> EO w (blk x) d0 u0) (ak : Y.size = ds.length) (hr : ∀ (j : Nat) d, ds[j]? = some d -> RT w (Own M h blk) h blk V d (Y.getD j undef)) :
    fl P g ∧ Calls P g (#[u0] ++ Y) w fun R B => ∃ v, R = .returned v ∧ bA N M L w0 V t h a e K E v B := by
  unfold tT at i;split at i
  · rename_i r hl
    obtain ⟨⟨hx, hv⟩, al⟩ := Vg hl;split at i
    · rename_i hz
      split at i
      · rename_i S A an
        split at i
        · rename_i ao
          have hIf := hI.freeze A;have I : aZ h (lh h A) x = some r := by rw [DN ao]; exact hx
          have aq : ∀ b, xW (blk x) b -> Own M (aZ h (lh h A)) blk b := fun b ⟨p, l, q⟩ => .inr ⟨x, r, p, I, hz, l, q.symm⟩;have O : ∀ b, ((Own M (aZ h (lh h A)) blk b ∧ ¬ xW (blk x) b) ∨ xW (blk x) b) -> Own M (aZ h (lh h A)) blk b := fun b hb => hb.elim (·.1) (aq b);have C := hI.GS an (hI.ic A) ak hr;have Q : Cb w (fun b => (Own M (aZ h (lh h A)) blk b ∧ ¬ xW (blk x) b) ∨ xW (blk x) b) S Y := ⟨C.1, fun j d hj => (C.2 j d hj).less O, fun b hb => (C.tab b hb).less O⟩;have aa : Wt w (fun b => (Own M (aZ h (lh h A)) blk b ∧ ¬ xW (blk x) b) ∨ xW (blk x) b) (blk x) { r with v := 0 } := by
            have := (hIf.rows x r I).2;cases G : blk x with
            | none => rw [G] at this; exact this
            | some p =>
              rw [G] at this O;exact fh.keep (r' := { r with v := 0 }) this.2 rfl rfl rfl rfl (fun b h1 h2 => ⟨h1, fun hb => h2 (O b hb), rfl⟩)
          have ab : ∀ (r2 : Option Row) b, Own M (cq (aZ h (lh h A)) x r2) blk b -> (Own M (aZ h (lh h A)) blk b ∧ ¬ xW (blk x) b) ∨ xW (blk x) b := by
            intro r2 b hb
            by_cases hi : xW (blk x) b
            · exact .inr hi
            · refine .inl ⟨?_, hi⟩
              rcases hb with hb | ⟨y, s, p, hy, ar, l, q⟩
              · exact .inl hb
              · by_cases ad : y = x
                · subst ad; exact absurd ⟨p, l, q.symm⟩ hi
                · rw [aD _ _ ad] at hy
                  exact .inr ⟨y, s, p, hy, ar, l, q⟩
          have key : ∀ {rk : RK} {T : Option Row}, Γ.sem g (some (d0, { r with v := 0 })) S = some (rk, T) -> fl P g ∧ Calls P g (#[u0] ++ Y) w fun R B => ∃ u, R = .returned u ∧ eV (xW (blk x)) w B ∧
              (∀ J, T = some J -> Inv N M L w0 blk V t (cq (aZ h (lh h A)) x (some { J with v := v })) a B ∧ J.ty = r.ty) ∧
              (match rk with
               | .same s o n => EO B (blk x) (.buf 0 0 s o n) u
               | .clean d => RP B (fun b => (Own M (aZ h (lh h A)) blk b ∧ ¬ xW (blk x) b) ∨ xW (blk x) b) d u
               | .fresh Z s n cells => yC w B (fun b => Own M (aZ h (lh h A)) blk b ∧ ¬ xW (blk x) b) (xW (blk x)) u (.fresh Z s n cells)) := by
            intro rk T U;obtain ⟨f, F⟩ := hΓ.calls g _ S _ _ U;refine ⟨F, ?_⟩;refine (f w (fun b => Own M (aZ h (lh h A)) blk b ∧ ¬ xW (blk x) b) (blk x) u0 Y (fun b hb => hIf.BW hb.1) (fun b hb hb' => hb'.2 hb) hz (by simpa [yt] using al) aa (h0 r hl) Q).mono fun R B G => ?_;obtain ⟨u, q, hb, ho, hk⟩ := G;refine ⟨u, q, hb, fun J au => ?_, hk⟩;subst au;obtain ⟨o1, o2, ⟨ax, av⟩, o3, o4⟩ := ho;refine ⟨?_, o1⟩;have := hIf.mn (r0 := { J with v := v }) (w' := B) I hz hv.symm hb.os hb.tape hb.output hb.size (fun b aw hb2 => hb.block b aw (fun ⟨p, l, q⟩ => hb2 p l q)) (by
              cases G : blk x with
              | none => rw [G] at o4; exact o4
              | some p =>
                rw [G] at o3 o4;refine ⟨o3 p rfl, fh.keep (r' := { J with v := v }) o4 rfl rfl rfl rfl (fun b h1 h2 => ⟨h1, fun hb => h2 ?_, rfl⟩)⟩;simp_all) (fun h => by simp_all) (fun hm p _ j x' s n hj => by
                  obtain ⟨ks, ay, hc⟩ := C0 av hm;grind)
            exact this
          split at i
          · rename_i c J U
            simp only [alz] at i;subst i;obtain ⟨F, f⟩ := key U;refine ⟨F, f.mono fun R B G => ?_⟩;obtain ⟨u, q, hb, ho, hk⟩ := G;refine ⟨u, q, blk, ?_, ?_⟩
            · rw [jc]; exact (ho J rfl).1.weaken fun _ _ h => .inl h
            · rw [jc]; exact ca (RP.less hk (ab _))
          · rename_i s o' n J U
            simp only [alz] at i;subst i;obtain ⟨F, f⟩ := key U;refine ⟨F, f.mono fun R B G => ?_⟩;obtain ⟨u, q, hb, ho, hk⟩ := G;refine ⟨u, q, blk, ?_, ?_⟩
            · rw [jc]; exact (ho J rfl).1.weaken fun _ _ h => .inl h
            · rw [jc]
              exact ⟨.inl aj, fun r' _ _ => hk.2 ⟨0, 0, [], false, false, false⟩ rfl rfl⟩
          · rename_i Z s n cells U
            split at i
            · rename_i d
              split at i
              · rename_i hd
                simp only [alz] at i;subst i;obtain ⟨F, f⟩ := key U;refine ⟨F, f.mono fun R B G => ?_⟩;obtain ⟨u, q, hb, _, hk⟩ := G;refine ⟨u, q, ?_⟩;have := hIf.fresh (e := e) (ty := Z) (s := s) (cells := cells) (n := n) (v := u) (old := some x) (dst := some d) rfl (hV d rfl) (w' := B) ⟨hb.os, hb.tape, hb.output, hb.size, fun k hk hn => hb.block k hk (fun ⟨p, l, q⟩ => hn ⟨x, p, rfl, l, q⟩)⟩ (fun y hy => by simp_all) (by
                  rcases hk with ⟨g, c, cs, h1, h2, h3, h4, h5, h6, h7, h8⟩ | hv
                  · refine .inl ⟨g, c, cs, h1, h2.imp id (fun ⟨p, l, q⟩ => ⟨x, p, rfl, l, q⟩), h3, h4, h5, h6, h7, fun j y hj => ⟨(h8 j y hj).1, ?_⟩⟩
                    refine (h8 j y hj).2.less fun b hb => ?_;rcases hb with hb | hb
                    · refine .inl ⟨?_, ?_⟩
                      · rcases hb with hb | ⟨z, s', p, m, ae, W, X⟩
                        · exact .inl hb
                        · simp only [forget] at m
                          by_cases H : z = x
                          · subst H; simp [cq] at m
                          · rw [aD _ _ H] at m
                            exact .inr ⟨z, s', p, m, ae, W, X⟩
                      · rintro ⟨g1, ag, ai⟩
                        rcases hb with hb | ⟨z, s', p, m, ae, W, X⟩
                        · rw [ai] at hb
                          exact hIf.notM I ag hb
                        · simp only [forget] at m
                          by_cases H : z = x
                          · subst H; simp [cq] at m
                          · rw [aD _ _ H] at m
                            exact H (hIf.inj z x s' r p g1 m I W ag (X.trans ai))
                    · exact .inr hb
                  · exact .inr hv)
                unfold bA;have e1 : lh h A ++ [(x, none), (d, some ⟨e, Z, cells, false, true, false⟩)] = (lh h A ++ [(x, none)]) ++ [(d, some ⟨e, Z, cells, false, true, false⟩)] := by simp
                rw [e1, jc, jc];exact this
              · cases i
            · cases i
          · cases i
        · cases i
      · cases i
    · cases i
  · cases i
inductive qH (Q:D->Value->Prop):List D->List Value->Prop
 | nil:qH Q [] []
 | cons {d:D} {u:Value} {ds:List D} {us:List Value} (h:Q d u) (hs:qH Q ds us):qH Q (d::ds) (u::us)
def qH.length {Q:D->Value->Prop} {a:List D} {b:List Value} (h:qH Q a b):b.length=a.length:=by
 induction h with
 | nil=>rfl
 | cons h hs c=>simp[c]
def qH.of {Q:D->Value->Prop} : ∀ {a:List D} {b:List Value},b.length=a.length->(∀(j:Nat) d,a[j]? = some d->Q d (b.getD j undef))->qH Q a b
 | [],[],_,_ =>.nil
 | [],_::_,h,_=>by simp at h
 | _::_,[],h,_=>by simp at h
 | d::a,u::b,h,c =>.cons (by simpa using c 0 d rfl) (qH.of (by simpa using h) fun j x e=>by simpa using c (j+1) x (by simpa using e))
def qH.at_ {Q:D->Value->Prop} {a:List D} {b:List Value} (h:qH Q a b):∀(j:Nat) d,a[j]? = some d->∃u,b[j]? = some u∧Q d u:=by
 induction h with
 | nil=>simp_all
 | cons h hs c =>
  grind
def qH.append {Q:D->Value->Prop} {c a:List D} {d b:List Value} (h:qH Q c d) (e:qH Q a b):qH Q (c++a) (d++b):=by
 induction h with
 | nil=>exact e
 | cons h hs f=>exact .cons h f
def qH.take {Q:D->Value->Prop} {a:List D} {b:List Value} (h:qH Q a b):∀n:Nat,qH Q (a.take n) (b.take n):=by
 induction h with
 | nil=>intro n;simp;exact .nil
 | cons h hs c =>
  intro n;cases n with
  | zero=>exact .nil
  | succ n=>exact .cons h (c n)
def qH.drop {Q:D->Value->Prop} {a:List D} {b:List Value} (h:qH Q a b):∀n:Nat,qH Q (a.drop n) (b.drop n):=by
 induction h with
 | nil=>intro n;simp;exact .nil
 | cons h hs c =>
  intro n;cases n with
  | zero=>exact .cons h hs
  | succ n=>exact c n
def qH.mono {Q Q':D->Value->Prop} {a:List D} {b:List Value} (h:qH Q a b) (c:∀d u,Q d u->Q' d u):qH Q' a b:=by
 induction h with
 | nil=>exact .nil
 | cons h hs e=>exact .cons (c _ _ h) e
def Inv.ajA (m:Inv N M L w0 blk V t h a w) {x v s n:Nat} {r:Row} {u:Value} (o:live h x v=some r) (C:RT w (Own M h blk) h blk V (.buf x v s 0 n) u) :
  ∃p,abg w r.ty s (blk x) u n p∧qH (fun d u=>bE d=true∧RP w (Own M h blk) d u) r.cells p:=by
 obtain⟨f,D⟩:=cX o;rcases C.2 r f D with⟨g,J,c,E,K,b,rfl,F,G,H,q⟩|⟨b,rfl,A,rfl⟩
 ·obtain⟨arr,z,O,P⟩:=m.Iq f b (jR o);obtain⟨B,Q⟩:=F (.inr rfl);have R:E=arr.size:=by
   simp only[World.shape?,z,alz,Prod.mk.injEq]at q;exact q.2.symm
  rw[alZ]at B;subst B;refine⟨(List.range r.cells.length).map fun j=>arr.getD (g.2+j) undef,.inl ⟨g,c,arr,b,rfl,z,by omega,G,H,fun j y k =>?_⟩,qH.of (by simp) fun j d k =>?_⟩
  ·rw[aln,alo]at k;obtain⟨i,l,rfl⟩:=k;have e:=(alT.1 l).1;rw[List.getElem?_range (by simpa using e)]at l;cases l;simp only[alV]at e;rw[alv,amy (show g.2+j<arr.size by omega)];rfl
  grind
 ·have:=(m.rows x r f).2;rw[b]at this;have I:r.cells=[]:=this;exact⟨[],.inr ⟨b,rfl,rfl,A,rfl⟩,by rw[I];exact .nil⟩
def abJ {g:Nat} {p:Nat×Nat×Nat} (f:aa5 P g p) (hI:Inv N M L w0 blk V t h a w) {A:Option Nat} {E:cH} {Q:List D} {H:Array Value} (B:xX h e A p Q=some E) (hV:∀d,A=some d->kZ N V d e) (R:H.size=Q.length)
  (hr:∀(j:Nat) d,Q[j]? = some d->RT w (Own M h blk) h blk V d (H.getD j undef)):fl P g∧Calls P g H w fun e' w'=>∃v,e'=.returned v∧bA N M L w0 V t h a e A E v w':=by
 refine⟨f.callable,?_⟩;unfold xX at B;split at B<;>try (cases B;done)
 rename_i x v s o n i y v' s' o' m;split at B<;>try (cases B;done)
 rename_i r S d hl T;split at B<;>try (cases B;done)
 rename_i hc;obtain⟨hz,aA,ax,ab,hxy,rfl,rfl,ad,U,rfl,rfl,W,I,aB,aC,ae,X⟩:=hc;simp only[alz]at B;subst B;obtain⟨hx,hv⟩:=cX hl;obtain⟨hy,aE⟩:=cX T;have ag:H = #[H.getD 0 undef,H.getD 1 undef,H.getD 2 undef]:=by
  simp only[List.length_cons,List.length_nil]at R;apply amz
  ·simp[R]
  ·intro j h1 h2;have:j=0∨j=1∨j=2:=by omega
   rcases this with rfl|rfl|rfl<;>simp[amy h1]
 have h0:=hr 0 _ rfl;have h1:=pI (hr 1 _ rfl);have h2:=hr 2 _ rfl;obtain⟨Y,a1,a2⟩:=hI.ajA hl h0;obtain⟨J,b1,b2⟩:=hI.ajA T h2;rw[ad]at a1;rw[U]at b1;have F:∀ {Q:List D} {us:List Value},qH (fun d u=>bE d=true∧RP w (Own M h blk) d u) Q us->∀u∈us,u.oneCell'=true:=by
  intro Q us hR
  induction hR with
  | nil=>grind
  | cons h hs ih =>
   intro u hu;rcases alx.1 hu with rfl|hu
   ·exact h.2.tw h.1
   ·exact ih u hu
 rw[ag,h1,show i=((i.toNat:Nat):Int) by omega];refine (f.calls w (blk x) (blk y) _ _ i.toNat n m Y J a1 b1 (fun g g' hg ai K=>hxy (hI.inj x y r S g g' hx hy hg ai K)) (by rw[a2.length,W]) (by rw[b2.length,I]) (F a2) (F b2) (by omega) ae X).mono fun e' w' hg =>?_;obtain⟨u,K,hb,g,c,aj,rfl,g1,g2,g3,g4,g5,g6⟩:=hg;refine⟨_,K,?_⟩;have ak:=hI.drop y;have aF:cq h y none x=some r:=by rw[aD _ _ hxy];exact hx
 have G:qH (fun d u=>bE d=true∧RP w (Own M h blk) d u) (r.cells.take (i.toNat*p.2.1)++(S.cells++r.cells.drop (i.toNat*p.2.1))) (Y.take (i.toNat*p.2.1)++(J++Y.drop (i.toNat*p.2.1))):=(a2.take _).append (b2.append (a2.drop _));have ay:∀b,Own M (forget (cq h y none) (some x)) blk b->Own M h blk b:=by
  intro b hb;rcases BV hb with hb|⟨z,q,O,C,al,an,ao⟩
  ·exact .inl hb
  ·by_cases Z:z=y
   ·subst Z;simp[cq]at C
   ·rw[aD _ _ Z]at C;exact .inr ⟨z,q,O,C,al,an,ao⟩
 have aq:∀b,xW (blk x) b->Own M h blk b:=fun b ⟨O,l,ar⟩ =>.inr ⟨x,r,O,hx,hz,l,ar.symm⟩;have aa:=ak.fresh (e:=e) (ty:=p.1) (s:=p.2.1) (cells:=r.cells.take (i.toNat*p.2.1)++(S.cells++r.cells.drop (i.toNat*p.2.1))) (n:=n+m) (v := .slice (some ⟨g.1,g.2,none⟩) (n+m) c) (old:=some x) (dst:=some d) rfl (hV d rfl) (w':=w')
  ⟨hb.os,hb.tape,hb.output,hb.size,fun k hk hn=>hb.block k hk (fun⟨O,l,K⟩=>hn ⟨x,O,rfl,l,K⟩)⟩ (fun z C=>by grind)
  (.inl ⟨g,c,aj,rfl,g1.imp id (fun⟨O,l,K⟩=>⟨x,O,rfl,l,K⟩),g2,g3,g4,g5,?_,fun j d' hj =>?_⟩)
 ·unfold bA;exact aa
 ·have az:=f.pos;have e1:(Y.take (i.toNat*p.2.1)++(J++Y.drop (i.toNat*p.2.1))).length=(r.cells.take (i.toNat*p.2.1)++(S.cells++r.cells.drop (i.toNat*p.2.1))).length:=G.length;have e2:(r.cells.take (i.toNat*p.2.1)++(S.cells++r.cells.drop (i.toNat*p.2.1))).length=(n+m)*p.2.1:=by
   grind
  rw[e2];have:=al8 p.2.1 g3;omega
 ·obtain⟨u,hu,au,av⟩:=G.at_ j d' hj;have aw:=g6 j u hu;refine⟨au,?_⟩;rw[alv,aw];refine av.keep fun b q1 q2=>⟨alu q1 hb.size,?_,hb.block b q1 (fun hn=>q2 (aq b hn))⟩;grind
def abH {g:Nat} {p:Grow} (Q:agd P g p) (R:Inv N M L w0 blk V t h a w) (hP:∀x v,V x v->x<N∨2*PK<=x) {au:Option Nat} {E:cH} {ds:List D} {vs:Array Value} (B:AO h p ds=some E) (av:vs.size=ds.length)
  (hr:∀(j:Nat) d,ds[j]? = some d->RT w (Own M h blk) h blk V d (vs.getD j undef)):fl P g∧Calls P g vs w fun e' S=>∃v,e'=.returned v∧bA N M L w0 V t h a e au E v S:=by
 refine⟨Q.callable,?_⟩;unfold AO at B;split at B<;>try (cases B;done)
 rename_i y v k m;split at B<;>try (cases B;done)
 rename_i i l s n r aw hk;split at B<;>try (cases B;done)
 rename_i T;obtain⟨rfl,aa,ab,ad,ax,aQ,aR,rfl,az,I,ae⟩:=T;split at B<;>try (cases B;done)
 rename_i cs J;simp only[alz]at B;subst B;obtain⟨hy,hv,ag,aA⟩:=BM aw;obtain⟨f1,f2,f3,f4⟩:=Q.flat _ _ _ J;have h0:=hr 0 _ rfl;obtain⟨f,q,aS⟩:=h0.2 i hy hv;have U:=R.rowIs hy q;unfold fh at U;rw[ag]at U;rcases U with⟨_,_,aT,_⟩|⟨_,G,y1,y2,_⟩
 ·simp_all
 replace y2:f.2<G.size:=by grind
 obtain⟨_,u,C,aB⟩:=R.pha y i f hy ag q 0 _ _ _ (by rw[aA];rfl);rw[alZ]at C;have aC:y<N:=by have:=hP _ _ h0.1;omega
 have aE:G[f.2]? = some u:=by
  rw[bm y1 y2]at C;simp_all
 have aP:=R.big;have aU:PK=1000000:=rfl;have hyk:y≠l:=by omega
 have aF:abg w p.ty p.k (blk l) u n (r.cells.map Pt):=by
  rcases aB r hk with⟨g',c,N',aV,K,rfl,g2,g3,g4,g5⟩|⟨K,rfl,A,rfl⟩
  ·obtain⟨F,k1,k2,k3⟩:=R.Iq hk K ax;rw[az]at k1;refine .inl ⟨g',c,F,K,rfl,k1,?_,g3,g4,fun j x o =>?_⟩
   ·simp only[World.shape?,k1,alz,Prod.mk.injEq]at g5;omega
   ·rw[aln,alo]at o;obtain⟨d,o,rfl⟩:=o;have aG:=(alT.1 o).1;have:=Ma (f1 d (alR o)) (k3 j d o).2;rw[amy (by omega),<- this,alv,amy (by omega)];rfl
  ·have:=(R.rows l r hk).2;rw[K]at this;have hc:r.cells=[]:=this;exact .inr ⟨K,rfl,by rw[hc];rfl,A,rfl⟩
 have ai:∀g,blk l=some g->g.1≠f.1:=fun g hg he=>hyk (R.inj y l i r f g hy hk q hg he.symm);have aH:vs = #[.pointer (some ⟨f.1,f.2,none⟩)]++(m.map af7).toArray:=by
  apply amz
  ·simp_all
  ·intro j h1 h2;cases j with
   | zero =>
    simp_all
   | succ j =>
    have o:j<m.length:=by simp at av;omega
    have Z:=hr (j+1) _ (by rw[amq];exact alE o);have H:=f2 _ (alC o);have aI:RP w (Own M h blk) m[j] (vs.getD (j+1) undef):=by
     revert Z H;generalize m[j]=d;intro Z H;cases d<;>first|exact Z|cases H
    have:=ZE H aI;simp_all
 rw[aH];refine (Q.calls w f G i.ty (blk l) u n r.cells m cs y1 aE aF ai I J ae).mono fun e' S W =>?_;obtain⟨he,O,g,c,F,q1,q2,q3,q4,q5,q6,q7⟩:=W;refine⟨_,he,cq blk l (some g),?_,RP.int _ _⟩;have aJ:∀v,¬V l v:=fun v hv=>by grind
 generalize aK:Value.slice (some ⟨g.1,g.2,none⟩) (n+1) c=X at q2;have aj:(w.setRow f.1 (G.setIfInBounds f.2 X)).heap[f.1]? = some (.cells (G.setIfInBounds f.2 X) i.ty (0,0)):=setRow_heap w f.1 G _ i.ty (0,0) y1;have ak:(w.setRow f.1 (G.setIfInBounds f.2 X)).heap.size=w.heap.size:=by simp[World.setRow]
 have hheap:∀b,b≠f.1->(w.setRow f.1 (G.setIfInBounds f.2 X)).heap[b]? = w.heap[b]?:=by
  intro b O;simp only[World.setRow,alA];grind
 have aL:=R.mn (r0:=⟨i.v,i.ty,[],false,false,false⟩) (w':=w.setRow f.1 (G.setIfInBounds f.2 X)) hy ad rfl rfl rfl rfl (by omega) (fun b _ O=>hheap b (O f q)) (by
  rw[q];exact⟨by simp[World.shape?,aj,y1],_,aj,by simp;omega,fun j d o=>by simp at o⟩) (fun h=>by cases h)
 have aW:cq h y (some (⟨i.v,i.ty,[],false,false,false⟩:Row)) l=some r:=by rw[aD _ _ (Ne.symm hyk)];exact hk
 have hA:=aL.abo (w':=S) (h1:=forget (cq h y (some ⟨i.v,i.ty,[],false,false,false⟩)) (some l)) (old:=some l) (d:=l) (r0:=⟨r.v,p.ty,r.cells++cs,false,true,false⟩) (go:=some g) (y0:=y) O.os O.tape O.output (by rw[ak];exact O.size)
  (fun b aG hn=>by
   by_cases al:b=f.1
   ·simp_all
   ·rw[hheap b al];refine O.block b (by omega) ?_;rintro (hh|⟨K,an,hh⟩)
    ·exact al hh
    grind) (fun y' aX=>by simp_all) rfl aa aC aJ
  (fun r' Y=>by
   simp only[forget]at Y;rw[aD _ _ hyk,ay]at Y;cases Y;rfl) (by
  refine⟨q1.imp (fun hh=>by rw[ak];exact hh) (fun⟨K,an,hh⟩=>⟨l,K,rfl,an,hh⟩),F,q3,?_,fun j d o =>?_⟩
  ·simp only[amu,f4,I];have:=al8 p.k q4;grind
  ·have aM:Fm d=true:=by
    grind
   have hx:=q7 j (Pt d) (by grind);have:F.getD (g.2+j) undef=Pt d:=by simp_all
   rw[this];exact acz aM) rfl
 have aN:cq (forget (cq h y (some (⟨i.v,i.ty,[],false,false,false⟩:Row))) (some l)) l (some (⟨r.v,p.ty,r.cells++cs,false,true,false⟩:Row)) y=some ⟨i.v,i.ty,[],false,false,false⟩:=by
  rw[aD _ _ hyk];simp only[forget];rw[aD _ _ hyk,ay]
 have ao:cq blk l (some g) y=some f:=by rw[aD _ _ hyk,q]
 have aq:f.2<(G.setIfInBounds f.2 X).size:=by simpa using y2
 have hB:=hA.mn (r0:=⟨i.v,i.ty,[.ph l p.k (n+1)],false,false,true⟩) (w':=S) aN rfl rfl rfl rfl rfl (alq _) (fun b _ _=>rfl) (by
  rw[ao];refine⟨rfl,.inr ⟨fun d Z=>by simp only[alM]at Z;subst Z;rfl,_,q2,by grind,fun j d o =>?_⟩⟩;cases j with
  | zero=>simp only[List.getElem?_cons_zero,alz]at o;subst o;trivial
  | succ j=>simp at o) (fun h=>by cases h) (fun _ g' ar j x' s' n' hc=>by
  rw[ao]at ar;cases ar;cases j with
  | succ j=>simp at hc
  | zero =>
  simp only[List.getElem?_cons_zero,alz,D.ph.injEq]at hc;obtain⟨rfl,rfl,rfl⟩:=hc;rw[alZ];refine⟨⟨ab,.inl aa⟩,X,?_,fun r' _ =>.inl ⟨g,c,F.size,p.ty,ay _ _ _,aK.symm,q6,q4,q5,by simp[World.shape?,q3]⟩⟩;rw[bm q2 aq];simp_all)
 have aO:aZ h [(l,some (⟨r.v,p.ty,r.cells++cs,false,true,false⟩:Row)),(y,some ⟨i.v,i.ty,[.ph l p.k (n+1)],false,false,true⟩)]=cq (cq (forget (cq h y (some (⟨i.v,i.ty,[],false,false,false⟩:Row))) (some l)) l (some (⟨r.v,p.ty,r.cells++cs,false,true,false⟩:Row))) y (some ⟨i.v,i.ty,[.ph l p.k (n+1)],false,false,true⟩):=by
  funext z;simp only[aZ,forget,cq];simp_all
 show Inv _ _ _ _ _ _ _ (aZ h _) _ _;rw[aO];exact hB.weaken fun _ _ h =>.inl h
def Zp (J:bV P Γ) (hI:Inv N M L w0 blk V t h a w) {c:Call} {f:Operand} {E:cH} (ho:o.op=.call c) (hc:c.callee=.value f) (Q:∀d,o.dst=some d->kZ N V d e) (hP:∀x v,V x v->x<N∨2*PK<=x) (D:ki Γ h e o.dst (ev t f) (c.args.toList.map (ev t))=some E):fm P o a w (bA N M L w0 V t h a e o.dst E):=by
 have hf:=hI.ev f;have b:∀(j:Nat) d,(c.args.toList.map (ev t))[j]? = some d->RT w (Own M h blk) h blk V d ((c.args.map a.eval).getD j undef):=by
  intro j d A;rw[aln]at A;cases hx:c.args.toList[j]? with
  | none=>simp[hx]at A
  | some x =>
   simp only[hx,Option.map_some,alz]at A;subst A;have:(c.args.map a.eval).getD j undef=a.eval x:=by
    simp_all
   rw[this];exact hI.ev x
 have B:(c.args.map a.eval).size=(c.args.toList.map (ev t)).length:=by simp
 have S:∀ {g:Nat} {R l:Array Value},a.eval f=.func (.func g) R l->fl P g->(execOp a.eval o).run P w=.ok (.enter g (R++c.args.map a.eval++l)) w:=by
  intro g R l z ⟨fn,aa,K,ab⟩;have hn:¬fn.name = "runtime.NumGoroutine":=by simpa using K
  have hb:¬fn.body=none:=by
   grind
  simp[execOp,ho,resolve,hc,z,Deferred.ofValue,invoke,callFunc,program,Sem.run,aa,hn,hb]
 generalize c.args.toList.map (ev t)=ds at *;generalize c.args.map a.eval=k at *;generalize ev t f=q at *;have m:∀ {g:Nat} {R l:Array Value} {args:Array Value},a.eval f=.func (.func g) R l->args=R++k++l->(fl P g∧Calls P g args w fun e' w'=>∃v,e'=.returned v∧bA N M L w0 V t h a e o.dst E v w')->fm P o a w (bA N M L w0 V t h a e o.dst E) :=
  fun z b ⟨Y,Z⟩ =>.inr (.inr ⟨_,_,b ▸ S z Y,Z⟩)
 cases q with
 | fn g =>
  have z:a.eval f=.func (.func g) #[] #[]:=by
   have ad:RP w (Own M h blk) (.fn g) (a.eval f):=hf;generalize a.eval f=u at *;cases ad;rfl
  simp only[ki]at D;split at D
  ·rename_i p hp;exact m z (by simp) (abJ (J.ins g p hp) hI D Q B b)
  split at D
  ·rename_i p hp;exact m z (by simp) (abH (J.grw g p hp) hI hP D B b)
  split at D
  ·split at D
   ·rename_i x v s c0 n C;have y:(k.extract 1 k.size).size=C.length:=by simp_all
    have T:k = #[k.getD 0 undef]++k.extract 1 k.size:=by
     have:0<k.size:=by simp at B;omega
     apply amz
     ·simp;omega
     ·intro i Y Z;cases i with
      | zero=>simp_all
      | succ i=>simp[Array.getElem_append];congr 1;omega
    have I:=b 0 _ rfl;refine m z (by grind) (G4 J hI D Q I.1 (fun r U=>(hI.agM U).1 _ _ _ I) y (fun j d A =>?_));have:=b (j+1) d (by simpa using A);have W:(k.extract 1 k.size).getD j undef=k.getD (j+1) undef:=by
     simp only[alv];grind
    rw[W];exact this
   ·rename_i x v c0 C;have y:(k.extract 1 k.size).size=C.length:=by simp_all
    have T:k = #[k.getD 0 undef]++k.extract 1 k.size:=by
     have:0<k.size:=by simp at B;omega
     apply amz
     ·simp;omega
     ·intro i Y Z;cases i with
      | zero=>simp_all
      | succ i=>simp[Array.getElem_append];congr 1;omega
    have I:=b 0 _ rfl;refine m z (by grind) (G4 J hI D Q I.1 (fun r U=>(hI.agM U).2 _ I) y (fun j d A =>?_));have:=b (j+1) d (by simpa using A);have W:(k.extract 1 k.size).getD j undef=k.getD (j+1) undef:=by
     simp only[alv];grind
    rw[W];exact this
   ·rename_i x v C;have y:(k.extract 1 k.size).size=C.length:=by simp_all
    have T:k = #[k.getD 0 undef]++k.extract 1 k.size:=by
     have:0<k.size:=by simp at B;omega
     apply amz
     ·simp;omega
     ·intro i Y Z;cases i with
      | zero=>simp_all
      | succ i=>simp[Array.getElem_append];congr 1;omega
    have I:=b 0 _ rfl;refine m z (by grind) (G4 J hI D Q I.1 (fun r U=>hI.ac7 U I) y (fun j d A =>?_));have:=b (j+1) d (by simpa using A);have W:(k.extract 1 k.size).getD j undef=k.getD (j+1) undef:=by
     simp only[alv];grind
    rw[W];exact this
   ·cases D
  ·exact m z (by simp) (P6 J hI D Q B b)
 | clo g F l =>
  obtain⟨H,k1,k2,k3⟩:=hf;simp only[ki]at D
  by_cases ae:l.all vl=true
  rotate_left
  ·simp_all
  rw[if_pos ae]at D;have ag:((H.take F).toArray++k++(H.drop F).toArray).toList=H.take F++(k.toList++H.drop F):=by simp
  have ai:(H.take F).length=(l.take F).length:=by simp_all
  have y:k.toList.length=ds.length:=by simpa using B
  refine m k1 rfl (P6 J hI D Q (by simp[B,k2]) (fun j d A =>?_));have X:((H.take F).toArray++k++(H.drop F).toArray).getD j undef=(H.take F++(k.toList++H.drop F)).getD j undef:=by
   rw[<- ag,alv,al2,amw]
  rw[X,al2];rw[List.getElem?_append]at A ⊢;rw[ai];split at A
  ·rename_i O;rw[if_pos O];have aj:j<F:=by grind
   rw[alS,if_pos aj]at A ⊢;have:=GL (k3 _ d A);simp_all
  ·rename_i O;rw[if_neg O];rw[List.getElem?_append]at A ⊢;rw[y];split at A
   ·rename_i G;rw[if_pos G];have:=b _ d A;simp_all
   ·rename_i G;rw[if_neg G];rw[alP]at A ⊢;have:=GL (k3 _ d A);simp_all
 | _=>simp[ki]at D
def RT.akF {d:D} {n:Nat} {u:Value} (z:Inv N M L w0 blk V t h a w) (b:F3 d=some n) (j:alive h d=true) (i:RT w (Own M h blk) h blk V d u) :
  (∀s,d=.str s->u=.string s∧s.size=n)∧((∀s,d ≠ .str s)->∃A c,u=.slice A n c):=by
 cases d with
 | str s =>
  simp only[F3,alz]at b;refine⟨fun k f =>?_,fun l=>absurd rfl (l s)⟩;cases f;exact⟨GN i,b⟩
 | sl nl tight m xs =>
  simp only[F3,alz]at b;subst b;refine⟨fun k f=>(by cases f),fun _ =>?_⟩;have e:RP w (Own M h blk) (.sl nl tight m xs) u:=i;cases e with
  | sl A c nl tight n xs us h1 h2 h3 h4 h5 h6 h7 h8=>simp_all
 | buf x v s o m =>
  simp only[F3,alz]at b;subst b;refine⟨fun k f=>(by cases f),fun _ =>?_⟩;simp only[alive,Option.isSome_iff_exists]at j;obtain⟨r,e⟩:=j;obtain⟨p,q⟩:=uo e;rcases i.2 r p q with⟨g,B,c,C,E,_,y,_⟩|⟨_,rfl,A,y⟩
  ·simp_all
  simp_all
 | _=>simp[F3]at b
def Tr (k:IntKind):∀(b:List D) (us:List Value) (x z:Int),BO (fun x y=>if y>x then y else x) k x b=some z->us.length=b.length->(∀j d,b[j]? = some d->RT w (Own M h blk) h blk V d (us.getD j undef)) ->
  (us.foldlM Builtin.max2 (.int k x)).run P w=.ok (.int k z) w
 | [],us,x,z,a,e,_=>by
  have:us=[]:=amA e;subst this;simp only[BO,alz]at a;subst a;rfl
 | d::b,us,x,z,a,e,f=>by
  cases us with
  | nil=>simp at e
  | cons u us =>
   have g:=f 0 d rfl;cases d with
   | int k' y =>
    simp only[BO]at a;split at a
    ·have c:=pI g;simp only[amo]at c;subst c;have i:=Tr k b us _ z a (by simpa using e) (fun j d l=>by simpa using f (j+1) d (by simpa using l));simp only[List.foldlM_cons,alW,Builtin.max2,Sem.run_pure,Result.andThen_ok];exact i
    ·cases a
   | _=>simp[BO]at a
def Ts (k:IntKind):∀(b:List D) (us:List Value) (x z:Int),BO (fun x y=>if y<x then y else x) k x b=some z->us.length=b.length->(∀j d,b[j]? = some d->RT w (Own M h blk) h blk V d (us.getD j undef)) ->
  (us.foldlM Builtin.min2 (.int k x)).run P w=.ok (.int k z) w
 | [],us,x,z,a,e,_=>by
  have:us=[]:=amA e;subst this;simp only[BO,alz]at a;subst a;rfl
 | d::b,us,x,z,a,e,f=>by
  cases us with
  | nil=>simp at e
  | cons u us =>
   have g:=f 0 d rfl;cases d with
   | int k' y =>
    simp only[BO]at a;split at a
    ·have c:=pI g;simp only[amo]at c;subst c;have i:=Ts k b us _ z a (by simpa using e) (fun j d l=>by simpa using f (j+1) d (by simpa using l));simp only[List.foldlM_cons,alW,Builtin.min2,Sem.run_pure,Result.andThen_ok];exact i
    ·cases a
   | _=>simp[BO]at a
end
end Go.Proofs.YtobnihfgnbnncaaGreat.Am
