import Derived.WalkKit
import Derived.Orders
import Derived.Maps.AppendAt
import Derived.Laws.OwnMore
import Derived.Laws.CopyRow
import Derived.Laws.Concat
import Derived.Laws.Cover3
import Derived.WalkSmall
import Derived.MapKept
import Derived.ArgAppend
import Derived.Deep.LoopGhost
import Derived.Maps.RangeRun
import Derived.Test.YtobnihfgnbnncaaGreatChecked
import Derived.KernelRfl
import GoSem.Claim
import Derived.RowKit
import Derived.Sort.Grow
import Derived.OpenShut
import Derived.Deep.Slices
import Derived.WideKeyArgs
import Derived.SizedLaws
import Derived.ProofKit
import Derived.Below
import Derived.Handed
import Derived.Lib.ItoaMem
import Derived.Lib.SlicesCompact
import Derived.Shelf.Sort.Plain
import Derived.Shelf.Slices.In.SortNone
import Derived.Ground.NamesProg
import Derived.Shelf.SlIterI.Sorted
import Derived.Shelf.SlGeneric
import Derived.Ground.GgzProg
import Derived.Shelf.SlSortCmp.NoneTotal
import Derived.Ground.SlsfProg
import Derived.Test.YtobnihfgnbnncaaGreatProg
import Derived.Shelf.Spec.SlicesInsertGrow
import Derived.RangeFuncBox
import Derived.RangeFuncNested
import Derived.RangeFuncLeaves
import Derived.Shelf.Abstract
import Derived.OwnWalkIn
import Derived.TacticsInMore
import Derived.LoopNIn
import Derived.LoopIn
import Derived.Test.YtobnihfgnbnncaaGreatRows
import Derived.Lib.LaidTab
import Derived.Lib.ItoaNum
import Derived.LaidMore
import Derived.LaidHandle
import Derived.MakeChecks
import Derived.Stop.LaidErr
import Derived.Lib.SlicesDelete
import Derived.Shelf.RegionOpenPlain
import Derived.Deep.RegionLaw
import Derived.Lib.Walk
import Derived.Shelf.GgSortFunc.InsertionK
import Derived.Shelf.SlSortCmp.Insertion
import Derived.Lib.Small
import Derived.StillTailTactics
set_option linter.unusedSimpArgs false
set_option linter.unusedVariables false
set_option linter.defProp false
noncomputable section
open Go.Proofs.Tryz
namespace Go.Proofs.YtobnihfgnbnncaaGreat
def ake:=@World.cell?_of_block
def akf:=@List.getElem?_map.{0,0}
def akg:=@Option.map_eq_some_iff.{0,0}
def akh:=@List.mem_map.{0,0}
def aki:=@Nat.le_refl
def akj:=@Nat.zero_le
def akk:=@Nat.le_trans
def akl:=@Nat.lt_of_lt_of_le
def akm:=@Array.getD_eq_getD_getElem?.{0}
def akn:=@List.map_cons.{0,0}
def ako:=@List.mem_cons.{0}
def akp:=@Option.map_some.{0,0}
def akq:=@Option.some.injEq.{0}
def akr:=@Array.getElem?_modify.{0}
def aks:=@List.all_eq_true.{0}
def akt:=@List.getElem_mem.{0}
def aku:=@List.getElem?_eq_getElem.{0}
def akv:=@List.mem_append_left.{0}
def akw:=@List.mem_append_right.{0}
def akx:=@Nat.eq_zero_or_pos
def aky:=@List.length_take.{0}
def akz:=@List.length_drop.{0}
def akA:=@Nat.add_assoc
def akB:=@List.getElem?_of_mem.{0}
def akC:=@List.mem_singleton.{0}
def akD:=@List.cons.injEq.{0}
def akE:=@List.getElem?_drop.{0}
def akF:=@List.getElem?_cons_zero.{0}
def akG:=@List.mem_of_getElem?.{0}
def akH:=@List.getElem?_take.{0}
def akI:=@List.getElem?_eq_some_iff.{0}
def akJ:=@List.length_map.{0,0}
def akK:=@List.length_range
def akL:=@Sem.run_bind
def akM:=@Result.andThen_ok
def akN:=@Bool.false_eq_true
def akO:=@Nat.add_zero
def akP:=@Bool.and_eq_true
def akQ:=@List.getD_eq_getElem?_getD.{0}
def akR:=@Array.length_toList.{0}
def akS:=@List.mem_of_mem_drop.{0}
def akT:=@Sem.run_pure
def akU:=@List.mem_of_mem_take.{0}
def akV:=@Nat.lt_or_ge
def akW:=@Nat.mul_le_mul_right
def akX:=@List.foldl_cons.{0,0}
def akY:=@List.length_cons.{0}
def akZ:=@List.map_nil.{0,0}
def ak0:=@Option.getD_some.{0}
def ak1:=@Array.mapM_eq_mapM_toList.{0,0,0}
def ak2:=@Array.toList_map.{0,0}
def ak3:=@Nat.mod_lt
def ak4:=@List.replicate_succ.{0}
def ak5:=@List.getElem?_append_left.{0}
def ak6:=@Nat.mod_eq_of_lt
def ak7:=@List.getElem?_append_right.{0}
def ak8:=@Int.toNat_natCast
def ak9:=@List.idxOf_cons.{0}
def ala:=@List.contains_cons.{0}
def alb:=@Bool.false_or
def alc:=@List.getD_cons_zero.{0}
def ald:=@List.getD_cons_succ.{0}
def ale:=@List.getElem?_cons_succ.{0}
def alf:=@Nat.zero_add
def alg:=@Array.getElem?_eq_some_iff.{0}
def alh:=@List.length_append.{0}
def alj:=@List.length_nil.{0}
def alk:=@Array.getElem?_toList.{0}
def aln:=@Nat.sub_self
def alo:=@Array.getElem?_eq_getElem.{0}
def alp:=@Array.ext.{0}
def alq:=@List.eq_nil_of_length_eq_zero.{0}
def alr:=@List.size_toArray.{0}
def als:=@List.map_append.{0,0}
def alu:=@List.mem_flatMap.{0,0}
def alv:=@List.mem_append.{0}
def alw:=@List.mem_cons_self.{0}
def alx:=@List.mem_cons_of_mem.{0}
def aly:=@List.toList_toArray.{0}
def alz:=@Array.toList_append.{0}
def alA:=@List.map_congr_left.{0,0}
def alB:=@List.not_mem_nil.{0}
def alC:=@Option.bind_some.{0,0}
def alE:=@List.mem_filter.{0}
def alF:=@List.pairwise_cons.{0}
def alG:=@Bool.not_true
def alH:=@List.mem_range
def alI:=@List.pairwise_lt_range
def alJ:=@Nat.zero_lt_one
def alK:=@Nat.le_of_ble_eq_true
def alL:=@List.drop_append.{0}
def alM:=@List.drop_eq_nil_of_le.{0}
def alO:=@List.nil_append.{0}
def alP:=@Nat.succ_mul
def alQ:=@Nat.add_sub_cancel
def alR:=@List.drop_drop.{0}
def alS:=@List.take_append_drop.{0}
def alT:=@Nat.zero_mul
def alU:=@List.drop_zero.{0}
def alV:=@List.take_of_length_le.{0}
def alW:=@List.length_pos_iff.{0}
def alX:=@List.append_nil.{0}
def alY:=@List.cons_append.{0}
def alZ:=@List.append_assoc.{0}
def al0:=@List.drop_succ_cons.{0}
def al1:=@List.take_succ_cons.{0}
def al2:=@List.append_inj.{0}
def al3:=@List.drop_eq_getElem_cons.{0}
def al4:=@List.take_zero.{0}
def al5:=@Nat.add_sub_cancel_left
def al6:=@List.take_append_of_le_length.{0}
def al7:=@List.drop_append_of_le_length.{0}
def al8:=@Option.isSome_some.{0}
def al9:=@Bool.true_and
def ama:=@Nat.one_ne_zero
def amb:=@List.length_set.{0}
def amc:=@Nat.min_eq_left
def amd:=@List.take_length.{0}
def ame:=@List.ext_getElem?.{0}
def amf:=@Option.some.inj.{0}
def amg:=@List.pairwise_map.{0,0}
def amh:=@List.pairwise_iff_getElem.{0}
def ami:=@List.getElem_of_mem.{0}
def amj:=@List.getElem?_mapIdx.{0,0}
def amk:=@Int.mul_le_mul_of_nonneg_left
def aml:=@List.mem_or_eq_of_mem_set.{0}
def amm:=@Int.mul_add
def amn:=@Nat.and_two_pow_sub_one_eq_mod
def amo:=@Int.ediv_nonneg
def amp:=@Int.ediv_lt_of_lt_mul
def amq:=@Int.emod_nonneg
def amr:=@Int.emod_lt_of_pos
def ams:=@Int.mul_ediv_add_emod
def amu:=@Int.mul_nonneg
def amv:=@Int.mul_le_mul_of_nonneg_right
def amw:=@Int.natCast_mul
def amx:=@Int.sign_eq_one_of_pos
def amy:=@Nat.le_of_not_lt
def amz:=@List.head?_drop.{0}
def amA:=@List.getElem?_eq_none.{0}
def amB:=@List.take_succ_eq_append_getElem.{0}
def amC:=@Nat.mul_le_mul
def amD:=@List.filter_append.{0}
def amE:=@List.range_succ
def amF:=@Rat.mul_nonneg
def amG:=@List.filter_cons_of_pos.{0}
def amH:=@List.length_filter_le.{0}
def amI:=@Nat.pow_le_pow_right
def amJ:=@Bool.true_eq_false
def amK:=@Array.replicate_succ.{0}
def amL:=@Array.replicate_zero.{0}
def amM:=@List.push_toArray.{0}
def amN:=@List.append_toArray.{0}
def amO:=@Addr.add_lit
def amP{α:Type}{a:α}:a=a:=Eq.trans rfl rfl
end Go.Proofs.YtobnihfgnbnncaaGreat
namespace Go.Proofs.YtobnihfgnbnncaaGreat.Am
open Go.RowKit
abbrev ec:=Int×Option Int
def nW:ec->Value
 | (n,none) =>.int .i64 n
 | (a,some b) =>.agg #[.int .i64 a,.int .i64 b]
def JC(k:ec):Bool:=k.2.isSome
def abJ{k c:ec}(h:nW k=nW c):k=c:=by
 obtain⟨a,x⟩:=k;obtain⟨b,y⟩:=c;cases x<;>cases y<;>simp[nW]at h
 ·subst h;rfl
 simp_all
inductive D where
 | int (k:IntKind) (n:Int)
 | bool (b:Bool)
 | str (s:ByteArray)
 | sl (nl tight:Bool) (n:Nat) (xs:List D)
 | ptr (x v o:Nat)
 | ip (xs:List D)
 | buf (x v s o n:Nat)
 | agg (xs:List D)
 | tup (xs:List D)
 | fn (f:Nat)
 | clo (f k:Nat) (caps:List D)
 | ali (x v s o n:Nat)
 | box1 (x v s o n:Nat)
 | mp (x v:Nat)
 | mpc (ks:List ec) (vs:List D)
 | alm (x v:Nat)
 | pm (x v y:Nat)
 | ph (x s n:Nat)
 | nx (n:Nat) (xs:List D)
 | nr (ty s nv:Nat) (cs:List D)
 | und
 | skp
structure Row where
 v:Nat
 ty:Nat
 cells:List D
 fz:Bool
 lst:Bool
 mp:Bool:=false
def bu:D->Bool
 | .int _ _ | .bool _ | .str _ | .sl _ _ _ _ | .ali _ _ _ _ _ | .mpc _ _ | .alm _ _=>true
 | _=>false
def canon:D->D
 | .sl _ _ n xs =>.sl false false n xs
 | d=>d
def jT:D->D
 | .sl _ _ n xs =>.sl false false n xs
 | .agg xs =>.agg (xs.map canon)
 | d=>d
def ca{α:Type}(f:Nat->α)(i:Nat)(v:α):Nat->α:=fun j=>if j=i then v else f j
inductive Ds where
 | int (k:IntKind)|bool|str
 | struct (fs:List (Nat×Nat))
 | slice (e:Nat)
 | arr (n e:Nat)
 | map (k e:Nat)
 | other
structure Ty where
 ds:Ds
 size:Nat
 bytes:Nat
 zero:List Value
 eqok:Bool:=false
def conv:TypeDesc->Ds
 | .int k =>.int k
 | .bool =>.bool
 | .string =>.str
 | .struct F =>.struct (F.toList.map fun f=>(f.type,f.offset))
 | .slice e =>.slice e
 | .array n e =>.arr n e
 | .map k e =>.map k e
 | _ =>.other
def qL:Value->D
 | .int k n =>.int k n
 | .bool b =>.bool b
 | .string s =>.str s
 | .slice none 0 0 =>.sl true true 0 []
 | .map none =>.mpc [] []
 | _ =>.und
def Ds.vp:Ds->Bool
 | .struct _ | .arr _ _=>true
 | _=>false
def ev(t:Nat->D):Operand->D
 | .tmp i=>t i
 | .const v=>qL v
 | .global _ =>.und
 | .func f =>.fn f
def T6:Value->Bool
 | .agg _=>true
 | _=>false
structure eG(P:Program)(t:Nat)(τ:Ty):Prop where
 desc:(P.underlying t).map conv=some τ.ds
 info:(P.info? t).map (fun i=>(i.size,i.bytes,i.zero.map fun z=>z.cells.toList))=some (τ.size,τ.bytes,some τ.zero)
 agg:(P.info? t).map (fun i=>i.zero.map T6)=some (some τ.ds.vp)
 eqs:τ.eqok=true->P.stoodInHeld t=false∧P.eqGuardType P.depth t=false∧(match P.underlying t with|some (.struct F)=>F.all (fun f=>f.name != "_")|_=>true)=true
def jL(P:Program)(T:Nat->Option Ty):Prop:=∀t τ,T t=some τ->eG P t τ
inductive RP(w:World)(M:Nat->Prop):D->Value->Prop
 | int (k:IntKind) (n:Int):RP w M (.int k n) (.int k n)
 | bool (b:Bool):RP w M (.bool b) (.bool b)
 | str (s:ByteArray):RP w M (.str s) (.string s)
 | sl (A:Option Addr) (c:Nat) (nl tight:Bool) (n:Nat) (xs:List D) (us:Nat->Value) (h1:n<=c) (h2:c<=maxLen) (h3:nl=true->(tight=true->A=none∧c=0)∧(tight=false->A≠none)) (h4:A=none->n=0∧c=0)
   (h5:tight=true->c=n) (h6:xs≠[]->∃b o,A=some ⟨b,o,none⟩∧b<w.heap.size∧¬M b∧∀j,j<xs.length->w.cell? ⟨b,o+j,none⟩=some (us j))
   (h7:∀j x,xs[j]? = some x->RP w M x (us j)) (h8:∀x∈xs,bu x=true):RP w M (.sl nl tight n xs) (.slice A n c)
 | ip (xs:List D) (ad:Addr) (us:Nat->Value) (h6:xs≠[]->∃b o,ad=⟨b,o,none⟩∧b<w.heap.size∧¬M b∧∀j,j<xs.length->w.cell? ⟨b,o+j,none⟩=some (us j))
   (h7:∀j x,xs[j]? = some x->RP w M x (us j)) (h8:∀x∈xs,bu x=true):RP w M (.ip xs) (.pointer (some ad))
 | agg (xs:List D) (us:List Value) (h1:us.length=xs.length) (h2:∀j x,xs[j]? = some x->RP w M x (us.getD j undef)) (h3:∀x∈xs,bu x=true):RP w M (.agg xs) (.agg us.toArray)
 | tup (xs:List D) (us:List Value) (h1:us.length=xs.length) (h2:∀j x,xs[j]? = some x->RP w M x (us.getD j undef)):RP w M (.tup xs) (.tuple us.toArray)
 | fn (f:Nat):RP w M (.fn f) (.func (.func f) #[] #[])
 | ali (x v s o n:Nat) (u:Value) (h1:u.oneCell'=true):RP w M (.ali x v s o n) u
 | alm (x v:Nat) (u:Value) (h1:u.oneCell'=true):RP w M (.alm x v) u
 | mpc (ks:List ec) (vs:List D) (mb:Option Nat) (us:Nat->Value) (h1:vs.length=ks.length) (h2:mb=none->ks=[])
   (h3:∀b,mb=some b->b<w.heap.size∧¬M b∧∃(ents:Array MapEntry)(clock:Nat),w.heap[b]? = some (.map ents clock)∧ents.size=ks.length∧∀j k,ks[j]? = some k->∃e:MapEntry,ents[j]? = some e∧e.key=nW k∧e.val=us j)
   (h4:∀j x,vs[j]? = some x->RP w M x (us j)):RP w M (.mpc ks vs) (.map mb)
 | clo (f k:Nat) (xs:List D) (us:List Value) (h1:us.length=xs.length) (h2:∀j x,xs[j]? = some x->RP w M x (us.getD j undef)):RP w M (.clo f k xs) (.func (.func f) (us.take k).toArray (us.drop k).toArray)
def RP.keep{w l:World}{M B:Nat->Prop}(C:∀b,b<w.heap.size->¬M b->b<l.heap.size∧¬B b∧l.heap[b]? = w.heap[b]?){d:D}{u:Value}(h:RP w M d u):RP l B d u:=by
 induction h with
 | int k n=>exact .int k n
 | bool b=>exact .bool b
 | str s=>exact .str s
 | sl A c nl tight n xs us h1 h2 h3 h4 h5 h6 h7 h8 e =>
  refine .sl A c nl tight n xs us h1 h2 h3 h4 h5 (fun g =>?_) e h8;obtain⟨b,o,m,i,p,q⟩:=h6 g;obtain⟨r,t,y⟩:=C b i p;exact⟨b,o,m,r,t,fun j z=>(ake (a:=⟨b,o+j,none⟩) y).trans (q j z)⟩
 | ip xs ad us h6 h7 h8 e =>
  refine .ip xs ad us (fun g =>?_) e h8;obtain⟨b,o,m,i,p,q⟩:=h6 g;obtain⟨r,t,y⟩:=C b i p;exact⟨b,o,m,r,t,fun j z=>(ake (a:=⟨b,o+j,none⟩) y).trans (q j z)⟩
 | agg xs us h1 h2 h3 e=>exact .agg xs us h1 e h3
 | tup xs us h1 h2 e=>exact .tup xs us h1 e
 | fn f=>exact .fn f
 | ali x v s o n u h1=>exact .ali x v s o n u h1
 | alm x v u h1=>exact .alm x v u h1
 | mpc ks vs mb us h1 h2 h3 h4 e =>
  refine .mpc ks vs mb us h1 h2 (fun b i =>?_) e;grind
 | clo f E xs us h1 h2 e=>exact .clo f E xs us h1 e
def RP.canon{w:World}{M:Nat->Prop}{d:D}{u:Value}(h:RP w M d u):RP w M (canon d) u:=by
 cases h with
 | sl A c nl tight n xs us h1 h2 h3 a h5 e g i=>exact .sl A c false false n xs us h1 h2 (fun h=>by cases h) a (fun h=>by cases h) e g i
 | int k n=>exact .int k n
 | bool b=>exact .bool b
 | str s=>exact .str s
 | ip xs ad us e g i=>exact .ip xs ad us e g i
 | agg xs us h1 h2 h3=>exact .agg xs us h1 h2 h3
 | tup xs us h1 h2=>exact .tup xs us h1 h2
 | fn f=>exact .fn f
 | ali x v s o n u h1=>exact .ali x v s o n u h1
 | alm x v u h1=>exact .alm x v u h1
 | mpc ks vs mb us h1 h2 h3 a=>exact .mpc ks vs mb us h1 h2 h3 a
 | clo f j xs us h1 h2=>exact .clo f j xs us h1 h2
def pr(d:D):bu (canon d)=bu d:=by cases d<;>rfl
def RP.jT{w:World}{M:Nat->Prop}{d:D}{u:Value}(h:RP w M d u):RP w M (jT d) u:=by
 cases h with
 | agg xs us h1 h2 h3 =>
  refine .agg _ us (by simpa using h1) (fun j x m =>?_) (fun x p =>?_)
  ·rw[akf,akg]at m;obtain⟨y,a,rfl⟩:=m;exact (h2 j y a).canon
  ·obtain⟨y,a,rfl⟩:=akh.1 p;rw[pr];exact h3 y a
 | sl A c nl tight n xs us h1 h2 h3 e h5 g i l=>exact .sl A c false false n xs us h1 h2 (fun h=>by cases h) e (fun h=>by cases h) g i l
 | int k n=>exact .int k n
 | bool b=>exact .bool b
 | str s=>exact .str s
 | ip xs ad us g i l=>exact .ip xs ad us g i l
 | tup xs us h1 h2=>exact .tup xs us h1 h2
 | fn f=>exact .fn f
 | ali x v s o n u h1=>exact .ali x v s o n u h1
 | alm x v u h1=>exact .alm x v u h1
 | mpc ks vs mb us h1 h2 h3 e=>exact .mpc ks vs mb us h1 h2 h3 e
 | clo f q xs us h1 h2=>exact .clo f q xs us h1 h2
def RC(w:World)(M:Nat->Prop)(h:Nat->Option Row)(blk:Nat->Option (Nat×Nat))(V:Nat->Nat->Prop):D->Value->Prop
 | .ptr x v o,u=>V x v∧∀r,h x=some r->r.v=v->∃g,blk x=some g∧u=.pointer (some ⟨g.1,g.2+o,none⟩)
 | .mp x v,u=>V x v∧∀r,h x=some r->r.v=v->∃g,blk x=some g∧u=.map (some g.1)
 | .pm x v _,u=>V x v∧∀r,h x=some r->r.v=v->∃g,blk x=some g∧u=.pointer (some ⟨g.1,g.2+0,none⟩)
 | d,u=>RP w M d u
def RT(w:World)(M:Nat->Prop)(h:Nat->Option Row)(blk:Nat->Option (Nat×Nat))(V:Nat->Nat->Prop):D->Value->Prop
 | .ptr x v o,u=>V x v∧∀r,h x=some r->r.v=v->∃g,blk x=some g∧u=.pointer (some ⟨g.1,g.2+o,none⟩)
 | .buf x v s o n,u=>V x v∧∀r,h x=some r->r.v=v ->
   (∃g o' c N t,blk x=some g∧u=.slice (some ⟨g.1,o',none⟩) n c∧(0<c∨o=0->o'=g.2+o∧c*s+o'=N)∧n<=c∧c<=maxLen∧w.shape? g.1=some (t,N))∨(blk x=none∧n=0∧∃A,u=.slice A 0 0)
 | .clo f e xs,u=>∃a:List Value,u=.func (.func f) (a.take e).toArray (a.drop e).toArray∧a.length=xs.length∧∀(j:Nat) x,xs[j]? = some x->RC w M h blk V x (a.getD j undef)
 | .mp x v,u=>V x v∧∀r,h x=some r->r.v=v->∃g,blk x=some g∧u=.map (some g.1)
 | .pm x v _,u=>V x v∧∀r,h x=some r->r.v=v->∃g,blk x=some g∧u=.pointer (some ⟨g.1,g.2+0,none⟩)
 | .box1 x v s o n,u=>∃b:Value,u=.agg #[b]∧b.oneCell'=true∧V x v∧∀r,h x=some r->r.v=v ->
   (∃g o' c N t,blk x=some g∧b=.slice (some ⟨g.1,o',none⟩) n c∧(0<c∨o=0->o'=g.2+o∧c*s+o'=N)∧n<=c∧c<=maxLen∧w.shape? g.1=some (t,N))∨(blk x=none∧n=0∧∃A,b=.slice A 0 0)
 | .und,_=>True
 | .skp,u=>u=undef
 | d,u=>RP w M d u
def Own(M:Nat->Prop)(h:Nat->Option Row)(blk:Nat->Option (Nat×Nat))(b:Nat):Prop:=M b∨∃x r g,h x=some r∧r.fz=false∧blk x=some g∧g.1=b
def ZX(w:World)(M:Nat->Prop)(g:Nat×Nat)(r:Row):Prop :=
 ∃a:Array Value,w.heap[g.1]? = some (.cells a r.ty (0,0))∧g.2+r.cells.length<=a.size∧∀j d,r.cells[j]? = some d->bu d=true∧RP w M d (a.getD (g.2+j) undef)
def adA(w:World)(M:Nat->Prop)(g:Nat×Nat)(c:List ec)(f:List D):Prop :=
 ∃(a:Array MapEntry)(b:Nat),w.heap[g.1]? = some (.map a b)∧a.size=c.length∧MapKept.Stamped a b∧∃d:Nat->Value,(∀j k,c[j]? = some k->∃e:MapEntry,a[j]? = some e∧e.key=nW k∧e.val=d j)∧∀j x,f[j]? = some x->RP w M x (d j)
def Ow(w:World)(M:Nat->Prop)(g:Nat×Nat)(m:Nat)(f:List ec)(n:List D):Prop :=
 g.2=0∧∃(b:Nat)(d:Array MapEntry)(a:Nat)(seen:Array Nat)(c l:List Nat)(h:Nat->Value),w.heap[g.1]? = some (.mapIter (some b) a seen a)∧b<w.heap.size∧¬M b∧w.heap[b]? = some (.map d a)∧MapKept.Stamped d a ∧
  c.length=m-900000∧c.length<=1∧(c++l).length=f.length∧l.Nodup∧(∀i,i∈l↔∃e:MapEntry,d[i]? = some e∧seen.contains e.born=false)∧(∀i,i∈c->∃e:MapEntry,d[i]? = some e∧seen.back? = some e.born) ∧
  (∀j k,f[j]? = some k->∃(i:Nat)(e:MapEntry),(c++l)[j]? = some i∧d[i]? = some e∧e.key=nW k∧e.val=h j)∧∀j x,n[j]? = some x->RP w M x (h j)
def Bn(w:World)(M:Nat->Prop)(g:Nat×Nat)(r:Row):Prop :=
 ∃a b,r.cells=[.mpc a b]∧b.length=a.length∧(r.ty<900000->adA w M g a b)∧(900000<=r.ty->Ow w M g r.ty a b)
def phC:D->Bool
 | .ph _ _ _ | .und | .int _ _ | .bool _ | .str _ | .sl _ _ _ _=>true
 | _=>false
def FB(w:World)(M:Nat->Prop):D->Value->Prop
 | .ph _ _ _,_=>True
 | .und,_=>True
 | d,u=>RP w M d u
def FC(w:World)(M:Nat->Prop)(g:Nat×Nat)(r:Row):Prop:=(∀d∈r.cells,phC d=true)∧∃a:Array Value,w.heap[g.1]? = some (.cells a r.ty (0,0))∧g.2+r.cells.length<=a.size∧∀j d,r.cells[j]? = some d->FB w M d (a.getD (g.2+j) undef)
def eJ(w:World)(M:Nat->Prop)(g:Nat×Nat)(r:Row):Prop :=
 match r.mp with
 | true=>Bn w M g r∨FC w M g r
 | false=>ZX w M g r
def Vn(L:Nat->Prop)(w0 w:World)(M:Nat->Prop)(g:Option (Nat×Nat))(r:Row):Prop :=
 match g with
 | some g=>(w0.heap.size<=g.1∨L g.1)∧eJ w M g r
 | none=>r.cells=[]
def acW:Option Nat:=none
def agw:Array Value:=((List.range 20).map fun i=>Value.int .u64 ((10 ^ i:Nat):Int)).toArray
structure Vq(w:World)(M:Nat->Prop)(b:Nat):Prop where
 lt:b<w.heap.size
 no:¬M b
 is:∃ty fr,w.heap[b]? = some (.cells agw ty fr)
def Vq.less{w:World}{M1 a:Nat->Prop}{b:Nat}(h:Vq w M1 b)(c:∀b,a b->M1 b):Vq w a b:=⟨h.lt,fun d=>h.no (c _ d),h.is⟩
def XP(w:World)(M:Nat->Prop):Prop:=∀b,acW=some b->Vq w M b
def XP.keep{w a:World}{M c:Nat->Prop}(d:∀b,b<w.heap.size->¬M b->b<a.heap.size∧¬c b∧a.heap[b]? = w.heap[b]?)(h:XP w M):XP a c:=fun b e=>by
 obtain⟨f,g,i,j,k⟩:=h b e;obtain⟨l,m,n⟩:=d b f g;exact⟨l,m,i,j,n.trans k⟩
structure eM(L:Nat->Prop)(w0 w:World):Prop where
 os:w.os=w0.os
 tape:w.tape=w0.tape
 output:w.output=w0.output
 size:w0.heap.size<=w.heap.size
 block:∀k,k<w0.heap.size->¬L k->w.heap[k]? = w0.heap[k]?
def alD:D->Option D
 | .ali x v s o n=>some (.buf x v s o n)
 | .alm x v=>some (.mp x v)
 | _=>none
abbrev kz:=Option (Option (Nat×Nat)×(Nat->Prop))
def LB(L:kz)(b:Nat):Prop:=∃p,L=some p∧((∃g:Nat×Nat,p.1=some g∧b=g.1)∨p.2 b)
def Nl(a:Option (Nat×Nat)):kz:=some (a,fun _=>False)
def ub{b:Nat}:¬LB none b:=fun⟨_,h,_⟩=>by cases h
def Mw{a:Option (Nat×Nat)}{b:Nat}:LB (Nl a) b↔∃g,a=some g∧b=g.1 :=
 ⟨fun⟨p,c,d⟩=>by cases c;simp_all,fun h=>⟨_,rfl,.inl h⟩⟩
def PK:Nat:=1000000
def NK(y j:Nat):Nat:=PK*(j+2)+y
def Ta(y j x:Nat):Prop:=y<PK∧(x=PK+y∨x=NK y j)
def PhR(w:World)(h:Nat->Option Row)(blk:Nat->Option (Nat×Nat))(x s n:Nat)(u:Value):Prop:=∀r,h x=some r ->
 (∃g c a b,blk x=some g∧u=.slice (some ⟨g.1,g.2,none⟩) n c∧c*s+g.2=a∧n<=c∧c<=maxLen∧w.shape? g.1=some (b,a))∨(blk x=none∧n=0∧∃A,u=.slice A 0 0)
structure ky(N:Nat)(V:Nat->Nat->Prop)(d e:Nat):Prop where
 no:¬V d e
 lt:d<N
structure Inv(N:Nat)(M:Nat->Prop)(L:kz)(w0:World)(blk:Nat->Option (Nat×Nat))(V:Nat->Nat->Prop)(t:Nat->D)(h:Nat->Option Row)(a:Act)(w:World):Prop where
 tab:XP w (Own M h blk)
 below:eM (LB L) w0 w
 mlt:∀b,M b->b<w0.heap.size
 bY:∀b,LB L b->¬M b
 pin:∀go,L=some go->V 0 0∧∀r,h 0=some r->r.v=0->blk 0=go.1∧∀g,go.1=some g->w.shape? g.1=w0.shape? g.1
 defers:a.defers=[]
 tsz:a.tmps.size=N
 slots:∀i,RT w (Own M h blk) h blk V (t i) (a.tmps.getD i undef)
 rows:∀x r,h x=some r->(x<N->V x r.v)∧Vn (LB L) w0 w (Own M h blk) (blk x) r
 inj:∀x y r s g g',h x=some r->h y=some s->blk x=some g->blk y=some g'->g.1=g'.1->x=y
 ali:∀y r g,h y=some r->r.fz=true->r.lst=false->blk y=some g->∀j c d,r.cells[j]? = some c->alD c=some d->∃u,w.cell? ⟨g.1,g.2+j,none⟩=some u∧RT w (Own M h blk) h blk V d u
 big:N<=PK
 pha:∀y r g,h y=some r->r.mp=true->blk y=some g->∀j x s n:Nat,r.cells[j]? = some (D.ph x s n)->Ta y j x∧∃u,w.cell? ⟨g.1,g.2+j,none⟩=some u∧PhR w h blk x s n u
def jQ:D->List Nat
 | .ptr x _ _=>[x]
 | .box1 x _ _ _ _=>[x]
 | .mp x _=>[x]
 | .pm x _ y=>[x,y]
 | .buf x _ _ _ _=>[x]
 | _=>[]
def nm:D->List Nat
 | .clo _ _ xs=>xs.flatMap jQ
 | d=>jQ d
def live(h:Nat->Option Row)(x v:Nat):Option Row :=
 match h x with
 | some r=>if r.v=v∧r.mp=false then some r else none
 | none=>none
def qY(h:Nat->Option Row)(x v:Nat):Option Row :=
 match h x with
 | some r=>if r.v=v then some r else none
 | none=>none
def vr(h:Nat->Option Row)(x v:Nat):Option (Row×Nat×Nat×Nat) :=
 match h x with
 | some r=>if r.v=v∧r.mp=true then (match r.cells with | [.ph y s n]=>some (r,y,s,n)|_=>none) else none
 | none=>none
def mN(h:Nat->Option Row)(x v:Nat):Option (List ec×List D) :=
 match h x with
 | some r=>if r.v=v∧r.mp=true∧r.ty<900000 then (match r.cells with | [.mpc a b]=>some (a,b)|_=>none) else none
 | none=>none
def xp(r:Row):Bool :=
 match r.mp,r.cells with
 | true,[.mpc _ _]=>decide (r.ty<900000)
 | true,_=>false
 | false,_=>true
def AV(h:Nat->Option Row)(x v:Nat):Option Row :=
 match h x with
 | some r=>if r.v=v∧r.mp=true∧xp r=true then some r else none
 | none=>none
def BZ(d:D)(h:Nat->Option Row)(x v:Nat):Option Row :=
 match d with
 | .mp _ _=>AV h x v
 | _=>live h x v
def content(h:Nat->Option Row):D->Option (Nat×List D)
 | .sl _ _ n xs=>some (n,xs)
 | .buf x v s o n =>
  match live h x v with
  | some r=>if o+n*s<=r.cells.length then some (n,(r.cells.drop o).take (n*s)) else none
  | none=>none
 | _=>none
def eP(h:Nat->Option Row):D->Option (D×List Nat)
 | .int k n=>some (.int k n,[])
 | .bool b=>some (.bool b,[])
 | .str s=>some (.str s,[])
 | .sl a b n xs=>some (.sl a b n xs,[])
 | .buf x v s o n =>
  match live h x v with
  | some r=>if o+n*s<=r.cells.length then some (.sl false false n ((r.cells.drop o).take (n*s)),[x]) else none
  | none=>none
 | _=>none
def gD(h:Nat->Option Row):D->Option (List D×List Nat)
 | .agg xs=>some (xs,[])
 | d =>
  match eP h d with
  | some (a,fr)=>some ([a],fr)
  | none=>none
def bR(h:Nat->Option Row):D->Option (D×List Nat)
 | .ptr x v o =>
  match live h x v with
  | some r=>if o<=r.cells.length then some (.ip (r.cells.drop o),[x]) else none
  | none=>none
 | .agg xs=>some (.agg (xs.map canon),[])
 | .ip xs=>some (.ip xs,[])
 | .fn f=>some (.fn f,[])
 | .box1 x v s o n =>
  match eP h (.buf x v s o n) with
  | some (a,fr)=>some (.agg [canon a],fr)
  | none=>none
 | .mp x v =>
  match mN h x v with
  | some (ks,vs)=>some (.mpc ks vs,[x])
  | none=>none
 | .mpc ks vs=>some (.mpc ks vs,[])
 | .pm x v y =>
  match live h x v with
  | some r =>
   match r.cells with
   | [.alm b c] =>
    if r.fz=true∧r.lst=false∧b=y then
     match mN h y c with
     | some (ks,vs)=>some (.ip [.mpc ks vs],[x,y])
     | none=>none
    else none
   | _=>none
  | none=>none
 | d =>
  match eP h d with
  | some (a,fr)=>some (canon a,fr)
  | none=>none
def ee(h:Nat->Option Row):List D->Option (List D×List Nat)
 | []=>some ([],[])
 | d::c =>
  match bR h d with
  | some (e,fr) =>
   match ee h c with
   | some (a,b)=>some (e::a,fr++b)
   | none=>none
  | none=>none
def cU(h:Nat->Option Row):D->Option (D×List Nat)
 | .clo f a b =>
  match ee h b with
  | some (c,fr)=>some (.clo f a c,fr)
  | none=>none
 | d=>bR h d
def bZ(h:Nat->Option Row):List D->Option (List D×List Nat)
 | []=>some ([],[])
 | d::c =>
  match cU h d with
  | some (e,fr) =>
   match bZ h c with
   | some (a,b)=>some (e::a,fr++b)
   | none=>none
  | none=>none
def xk(r:Row):Row :=
 match r.fz with
 | true=>r
 | false=>{ r with fz:=true,lst:=true }
def kE(h:Nat->Option Row)(a:List Nat):List (Nat×Option Row):=a.map fun x=>(x,(h x).map xk)
structure cv where
 val:D
 hw:List (Nat×Option Row)
def aW(h:Nat->Option Row):List (Nat×Option Row)->Nat->Option Row
 | []=>h
 | (x,r)::l=>aW (ca h x r) l
def uC(b:Bool)(a:List D):List D:=if b then a.map canon else a
def putCells(cells:List D)(o:Nat)(a:List D):List D:=cells.take o++a++cells.drop (o+a.length)
def lL(τ:Ty)(a:List D):Option D :=
 if τ.ds.vp then some (.agg a) else match a with | [d]=>some d|_=>none
def afW(b:Bool):List D->Option D
 | [.ali x v s o n]=>some (if b then .box1 x v s o n else .buf x v s o n)
 | _=>none
def fO(τ:Ty)(h:Nat->Option Row):D->Option cv
 | .ptr x v o =>
  match live h x v with
  | some r=>if o+τ.size<=r.cells.length then (match lL τ ((r.cells.drop o).take τ.size) with|some d=>some ⟨d,[]⟩|none=>none) else none
  | none=>none
 | .ip a=>if τ.size<=a.length then (match lL τ (a.take τ.size) with|some d=>some ⟨d,[]⟩|none=>none) else none
 | _=>none
def uN(τ:Ty)(h:Nat->Option Row)(x v o:Nat):Option Row->Option cv
 | some r =>
  if r.fz && !r.lst then
   if o+τ.size<=r.cells.length then
    match afW τ.ds.vp ((r.cells.drop o).take τ.size) with
    | some d=>some ⟨d,[]⟩
    | none=>fO τ h (.ptr x v o)
   else none
  else fO τ h (.ptr x v o)
 | none=>none
def Az(τ:Ty)(h:Nat->Option Row)(x v y:Nat):Option (Row×Nat×Nat×Nat)->Option cv
 | some (_,a,s,n) =>
  match h y with
  | some r=>if a=y∧y=PK+x∧r.mp=false∧r.lst=true∧r.cells.length=n*s∧τ.size=1 then some ⟨if τ.ds.vp then .agg [.sl false false n r.cells] else .sl false false n r.cells,kE h [y]⟩ else none
  | none=>none
 | none=>none
def s7(τ:Ty)(h:Nat->Option Row):D->Option cv
 | .ptr x v o=>uN τ h x v o (live h x v)
 | .pm x v y =>
  match live h x v with
  | some r =>
   match r.cells with
   | [.alm a b]=>if r.fz=true∧r.lst=false∧τ.size=1∧τ.ds.vp=false then some ⟨.mp a b,[]⟩ else none
   | _=>none
  | none=>Az τ h x v y (vr h x v)
 | d=>fO τ h d
def ig(τ:Ty)(h:Nat->Option Row):D->D->Option cv
 | .ptr x v o,d =>
  match live h x v with
  | some r =>
   match gD h d with
   | some (a,b)=>if a.length=τ.size∧o+τ.size<=r.cells.length∧r.fz=false∧b.contains x=false then some ⟨.und,kE h b++[(x,some { r with cells:=putCells r.cells o (uC r.lst a) })]⟩ else none
   | none=>none
  | none=>none
 | _,_=>none
def im(τ:Ty)(h:Nat->Option Row)(p d:D):Option cv :=
 match d with
 | .box1 y a s b n =>
  match p with
  | .ptr x v o =>
   match live h x v with
   | some r=>if τ.size=1∧o=0∧r.cells.length=1∧r.fz=false∧r.lst=false then some ⟨.und,[(x,some ⟨r.v,r.ty,[.ali y a s b n],true,false,false⟩)]⟩ else none
   | none=>none
  | .pm x v k =>
   match live h x v,live h y a with
   | some r,some q=>if τ.size=1∧b=0∧r.cells.length=1∧r.fz=false∧r.lst=false∧q.fz=false∧q.lst=true∧q.cells.length=n*s∧x≠y∧k=PK+x∧x<PK then
     some ⟨.und,[(y,none),(k,some ⟨0,q.ty,q.cells,false,true,false⟩),(x,some ⟨r.v,r.ty,[.ph k s n],false,false,true⟩)]⟩ else none
   | _,_=>none
  | _=>none
 | .mp c e =>
  match p with
  | .pm x v y =>
   match live h x v with
   | some r=>if τ.size=1∧c=y∧r.cells.length=1∧r.fz=false∧r.lst=false∧(mN h y e).isSome then some ⟨.und,[(x,some ⟨r.v,r.ty,[.alm c e],true,false,false⟩)]⟩ else none
   | none=>none
  | _=>none
 | d=>ig τ h p d
def p8(h:Nat->Option Row):D->Option cv
 | .ptr x v o=>match qY h x v with|some _=>some ⟨.ptr x v o,[]⟩|none=>none
 | .ip xs=>some ⟨.ip xs,[]⟩
 | _=>none
def gR(T:Nat->Option Ty)(τ:Ty)(h:Nat->Option Row)(i:Nat):D->Option cv
 | .ptr x v o =>
  match qY h x v,τ.ds with
  | some _,.struct b=>match b[i]? with
   | some (c,a)=>match T c with|some φ=>if φ.size=0 then none else some ⟨.ptr x v (o+a),[]⟩|none=>none
   | none=>none
  | _,_=>none
 | .pm x v k =>
  match vr h x v,τ.ds with
  | some _,.struct b=>match b[i]? with
   | some (c,0)=>match T c with|some φ=>if φ.size=0 then none else some ⟨.pm x v k,[]⟩|none=>none
   | _=>none
  | _,_=>none
 | .ip d =>
  match τ.ds with
  | .struct b=>match b[i]? with
   | some (c,a)=>match T c with|some φ=>if φ.size=0 then none else some ⟨.ip (d.drop a),[]⟩|none=>none
   | none=>none
  | _=>none
 | _=>none
def WS(φ:Ty)(b:List D)(a:Nat):Option D :=
 if φ.ds.vp then (if a+φ.size<=b.length then some (.agg ((b.drop a).take φ.size)) else none) else b[a]?
def BM(T:Nat->Option Ty)(τ:Ty)(i:Nat):D->Option cv
 | .agg b =>
  match τ.ds with
  | .struct c=>match c[i]? with
   | some (e,a)=>match T e with|some φ=>(match WS φ b a with|some d=>some ⟨d,[]⟩|none=>none)|none=>none
   | none=>none
  | _=>none
 | _=>none
def cX(T:Nat->Option Ty)(τ:Ty)(h:Nat->Option Row):D->D->Option cv
 | .sl _ _ n a,.int _ i =>
  match τ.ds with
  | .slice el=>match T el with|some φ=>if 0<=i∧i<n then some ⟨.ip (a.drop (i.toNat*φ.size)),[]⟩ else none|none=>none
  | _=>none
 | .buf x v s o n,.int _ i =>
  match qY h x v,τ.ds with
  | some _,.slice el=>match T el with|some φ=>if φ.size=s∧0<=i∧i<n then some ⟨.ptr x v (o+i.toNat*s),[]⟩ else none|none=>none
  | _,_=>none
 | .ptr x v o,.int _ i =>
  match live h x v,τ.ds with
  | some _,.arr n el=>match T el with|some φ=>if 0<=i∧i<n then some ⟨.ptr x v (o+i.toNat*φ.size),[]⟩ else none|none=>none
  | _,_=>none
 | _,_=>none
def nh(T:Nat->Option Ty)(τ:Ty):D->D->Option cv
 | .str s,.int _ i =>
  match τ.ds with
  | .str=>if 0<=i then (match s[i.toNat]? with|some b=>some ⟨.int .u8 b.toNat,[]⟩|none=>none) else none
  | _=>none
 | .agg a,.int _ i =>
  match τ.ds with
  | .arr n el=>match T el with|some φ=>if 0<=i∧i<n then (match WS φ a (i.toNat*φ.size) with|some d=>some ⟨d,[]⟩|none=>none) else none|none=>none
  | _=>none
 | _,_=>none
def tw:D->Option Nat
 | .int _ i=>if 0<=i then some i.toNat else none
 | _=>none
def As(n:Nat)(a b:Option D):Option (Nat×Nat) :=
 match (match b with|none=>some n|some d=>tw d),(match a with|none=>some 0|some d=>tw d) with
 | some h,some l=>if l<=h∧h<=n then some (l,h) else none
 | _,_=>none
def iP(T:Nat->Option Ty)(τ:Ty)(h:Nat->Option Row)(x:D)(b a c:Option D):Option cv :=
 match x with
 | .str s =>
  match τ.ds,c,As s.size b a with
  | .str,none,some (l,k)=>some ⟨.str (s.extract l k),[]⟩
  | _,_,_=>none
 | .sl nl tight n d =>
  match τ.ds with
  | .slice el =>
   match T el,As n b a with
   | some φ,some (l,k) =>
    match c with
    | none=>some ⟨.sl (nl&&tight) (tight&&k==n) (k-l) ((d.drop (l*φ.size)).take ((k-l)*φ.size)),[]⟩
    | some m=>match tw m,a with
     | some m,some _=>if k<=m∧m<=n then some ⟨.sl false (m==k) (k-l) ((d.drop (l*φ.size)).take ((k-l)*φ.size)),[]⟩ else none
     | _,_=>none
   | _,_=>none
  | _=>none
 | .buf y v s o n =>
  match live h y v,τ.ds,c with
  | some _,.slice el,none =>
   match T el,As n b a with
   | some φ,some (l,k)=>if φ.size=s∧0<s then some ⟨.buf y v s (o+l*s) (k-l),[]⟩ else none
   | _,_=>none
  | _,_,_=>none
 | _=>none
def kf(h:Nat->Option Row)(a:Nat->Option (Nat×Nat))(cells:List D):List (Nat×D)->Option (List D×List Nat)
 | []=>some (cells,[])
 | (i,d)::c =>
  match a i,gD h d with
  | some (e,b),some (g,fr) =>
   if g.length=b∧e+b<=cells.length then
    match kf h a (putCells cells e g) c with
    | some (out,f)=>some (out,fr++f)
    | none=>none
   else none
  | _,_=>none
def fieldAt(T:Nat->Option Ty)(b:List (Nat×Nat))(i:Nat):Option (Nat×Nat) :=
 match b[i]? with
 | some (c,a)=>match T c with|some φ=>some (a,φ.size)|none=>none
 | none=>none
def iO(T:Nat->Option Ty)(τ:Ty)(h:Nat->Option Row)(parts:List (Nat×D)):Option cv :=
 match τ.ds with
 | .struct a =>
  if (a.all fun f=>(T f.1).isSome)&&(τ.zero.map qL).all bu then
   match kf h (fieldAt T a) (τ.zero.map qL) parts with
   | some (cs,fr)=>some ⟨.agg cs,kE h fr⟩
   | none=>none
  else none
 | _=>none
def alive(h:Nat->Option Row):D->Bool
 | .ptr x v _=>(qY h x v).isSome
 | .buf x v _ _ _=>(qY h x v).isSome
 | _=>true
def cE:Option cv->Option cv
 | some ⟨.agg cs,hw⟩=>some ⟨.agg (cs.map canon),hw⟩
 | _=>none
def s5(q:Nat->Bool)(T:Nat->Option Ty)(τ:Ty)(h:Nat->Option Row)(b:Option Nat)(parts:List (Nat×D)):Option cv :=
 match b with
 | some d =>
  if q d then iO T τ h parts else
   match τ.ds,parts with
   | .struct a,[(0,.buf x v s o n)]=>if (alive h (.buf x v s o n))∧(a.all fun f=>(T f.1).isSome)∧fieldAt T a 0=some (0,1)∧τ.zero.length=1 then some ⟨.box1 x v s o n,[]⟩ else none
   | .struct a,[(0,.box1 x v s o n)]=>if (alive h (.buf x v s o n))∧(a.all fun f=>(T f.1).isSome)∧fieldAt T a 0=some (0,1)∧τ.zero.length=1 then some ⟨.box1 x v s o n,[]⟩ else none
   | _,_=>cE (iO T τ h parts)
 | none=>iO T τ h parts
def qv(n:Nat)(a:List D):List D:=(List.replicate n a).flatten
def fi(T:Nat->Option Ty)(τ:Ty)(h:Nat->Option Row)(e d len:Nat)(parts:List (Nat×D)):Option cv :=
 match τ.ds with
 | .slice el =>
  match T el with
  | some φ =>
   if len*φ.size<=16777216∧0<φ.size∧(φ.zero.map qL).all bu=true∧φ.zero.length=φ.size then
    match kf h (fun i=>some (i*φ.size,φ.size)) (qv len (φ.zero.map qL)) parts with
    | some (b,a)=>if a.contains d=false then some ⟨.buf d e φ.size 0 len,kE h a++[(d,some ⟨e,el,b.map canon,false,true,false⟩)]⟩ else none
    | none=>none
   else none
  | none=>none
 | _=>none
def ui(T:Nat->Option Ty)(τ:Ty)(e d:Nat)(l c:D):Option cv :=
 match τ.ds with
 | .slice el =>
  match T el,tw l,tw c with
  | some φ,some l,some c =>
   if l<=c∧c<=maxLen∧c*φ.bytes<=140737488355328∧0<φ.size∧(φ.zero.map qL).all bu=true∧φ.zero.length=φ.size then
    some ⟨.buf d e φ.size 0 l,[(d,some ⟨e,el,qv l ((φ.zero.map qL).map canon),false,true,false⟩)]⟩
   else none
  | _,_,_=>none
 | _=>none
def kR(T:Nat->Option Ty)(τ:Ty)(h:Nat->Option Row)(e d:Nat)(s x:D):Option cv :=
 match τ.ds with
 | .slice el =>
  match T el,content h x with
  | some φ,some (m,a) =>
   if 0<φ.size∧φ.zero.length=φ.size then
    match s with
    | .sl c tight n b =>
     if tight=true∧n+m<=maxLen∧(n+m)*φ.bytes<=140737488355328∧b.length=n*φ.size∧a.length=m*φ.size then
      if m=0 then some ⟨.sl c tight n b,[]⟩ else some ⟨.buf d e φ.size 0 (n+m),[(d,some ⟨e,el,b++a,false,true,false⟩)]⟩
     else none
    | .buf y v z o n =>
     match live h y v with
     | some r =>
      if z=φ.size∧r.ty=el∧r.fz=false∧o+n*φ.size<=r.cells.length∧n+m<=maxLen∧(n+m)*φ.bytes<=140737488355328∧a.length=m*φ.size then
       some ⟨.buf d e φ.size 0 (n+m),[(y,none),(d,some ⟨e,el,(r.cells.drop o).take (n*φ.size)++a,false,true,false⟩)]⟩
      else none
     | none=>none
    | _=>none
   else none
  | _,_=>none
 | _=>none
def Yx:D->Option ec
 | .int .i64 n=>some (n,none)
 | .agg [.int .i64 a,.int .i64 b]=>some (a,some b)
 | _=>none
def ur(z:D):List ec->List D->ec->D
 | k::a,v::b,n=>if k=n then v else ur z a b n
 | _,_,_=>z
def A6(a:List ec)(n:ec):List ec:=if a.contains n then a else a++[n]
def E9(a:List ec)(b:List D)(n:ec)(d:D):List D:=if a.contains n then b.set (a.idxOf n) d else b++[d]
def yw(T:Nat->Option Ty)(κ:Ty):Option Bool :=
 match κ.ds with
 | .int .i64=>some false
 | .struct [(a,0),(b,1)]=>match T a,T b with
  | some α,some β=>match α.ds,β.ds with
   | .int .i64,.int .i64=>if κ.eqok then some true else none
   | _,_=>none
  | _,_=>none
 | _=>none
def Hn(T:Nat->Option Ty)(τ:Ty):Option (Bool×Ty) :=
 match τ.ds with
 | .map k el=>match T k,T el with
  | some κ,some φ=>match yw T κ with|some b=>some (b,φ)|none=>none
  | _,_=>none
 | _=>none
def p7(T:Nat->Option Ty)(a:Nat)(τ:Ty)(e d:Nat):Option cv :=
 match Hn T τ with
 | some _=>if 900000<=a then none else some ⟨.mp d e,[(d,some ⟨e,a,[.mpc [] []],false,true,true⟩)]⟩
 | none=>none
def mapOf(h:Nat->Option Row):D->Option (List ec×List D)
 | .mp x v=>mN h x v
 | .mpc ks vs=>some (ks,vs)
 | _=>none
def u3(b:Bool)(n:ec)(a:List ec):Bool:=JC n==b&&a.all fun k=>JC k==b
def jm(T:Nat->Option Ty)(τ:Ty)(h:Nat->Option Row)(m i:D)(d:Bool):Option cv :=
 match Hn T τ,mapOf h m,Yx i with
 | some (b,φ),some (a,c),some n =>
  match lL φ (φ.zero.map qL) with
  | some z=>if u3 b n a=true∧(φ.zero.map qL).all bu=true then some ⟨if d then .tup [ur (jT z) a c n,.bool (a.contains n)] else ur (jT z) a c n,[]⟩ else none
  | none=>none
 | _,_,_=>none
def zS(h:Nat->Option Row):D->Option (D×List Nat)
 | .agg xs=>some (.agg (xs.map canon),[])
 | d =>
  match eP h d with
  | some (a,fr)=>some (canon a,fr)
  | none=>none
def eQ(T:Nat->Option Ty)(τ:Ty)(h:Nat->Option Row)(m i x:D):Option cv :=
 match Hn T τ,m,Yx i,zS h x with
 | some (b,_),.mp y v,some n,some (d,c) =>
  match h y with
  | some r =>
   match mN h y v with
   | some (a,e)=>if u3 b n a=true∧r.fz=false∧c.contains y=false then some ⟨.und,kE h c++[(y,some ⟨r.v,r.ty,[.mpc (A6 a n) (E9 a e n d)],false,true,true⟩)]⟩ else none
   | none=>none
  | none=>none
 | _,_,_,_=>none
def eqC:D->D->Option Bool
 | .int k a,.int c b=>if k=c then some (a==b) else none
 | .bool a,.bool b=>some (a==b)
 | .str a,.str b=>some (a==b)
 | _,_=>none
def eqL:List D->List D->Option Bool
 | [],[]=>some true
 | x::c,y::d=>match eqC x y,eqL c d with|some a,some b=>some (a&&b)|_,_=>none
 | _,_=>none
def Sk:Ds->Bool
 | .int _ | .bool | .str=>true
 | _=>false
def kindOk:Ds->D->Bool
 | .int _,.int _ _=>true
 | .bool,.bool _=>true
 | .str,.str _=>true
 | _,_=>false
def nS(T:Nat->Option Ty):Nat->List (Nat×Nat)->List D->Bool
 | _,[],[]=>true
 | o,(a,off)::b,x::c=>off==o&&(match T a with|some φ=>kindOk φ.ds x|none=>false)&&nS T (o+1) b c
 | _,_,_=>false
def aep(a tight:Bool)(n:Nat):Option Bool:=if 0<n then some false else if a then some tight else none
def eqD(T:Nat->Option Ty)(τ:Ty):D->D->Option Bool
 | .bool a,.bool b=>match τ.ds with | .bool=>some (a==b)|_=>none
 | .sl d tight n _,.sl true true 0 []=>match τ.ds with | .slice _=>aep d tight n|_=>none
 | .agg c,.agg e =>
  match τ.ds with
  | .struct f=>if τ.eqok&&nS T 0 f c then eqL c e else none
  | _=>none
 | _,_=>none
def FQ(c:BinOp)(k:IntKind)(x y:Int):Int :=
 let a:=BitVec.ofInt k.bits x
 let b:=BitVec.ofInt k.bits y
 match c with
 | .and=>k.wrap (a &&& b).toNat
 | .or=>k.wrap (a ||| b).toNat
 | .xor=>k.wrap (a ^^^ b).toNat
 | _=>k.wrap (a &&& ~~~b).toNat
def jG(a:BinOp)(k:IntKind)(x y:Int):Option D :=
 match a with
 | .add=>some (.int k (k.wrap (x+y)))
 | .sub=>some (.int k (k.wrap (x-y)))
 | .mul=>some (.int k (k.wrap (x*y)))
 | .quo=>if y=0 then none else some (.int k (k.wrap (x.tdiv y)))
 | .rem=>if y=0 then none else some (.int k (x.tmod y))
 | .and=>some (.int k (FQ .and k x y))
 | .or=>some (.int k (FQ .or k x y))
 | .xor=>some (.int k (FQ .xor k x y))
 | .andNot=>some (.int k (FQ .andNot k x y))
 | .eql=>some (.bool (x==y))
 | .neq=>some (.bool (x != y))
 | .lss=>some (.bool (x<y))
 | .leq=>some (.bool (x<=y))
 | .gtr=>some (.bool (x>y))
 | .geq=>some (.bool (x>=y))
 | _=>none
def JB(a:BinOp)(x y:ByteArray):Option D :=
 match a with
 | .add=>if ((x.size+y.size:Nat):Int)>IntKind.i64.max then none else some (.str (x++y))
 | .eql=>some (.bool (x.toList==y.toList))
 | .neq=>some (.bool !(x.toList==y.toList))
 | .lss=>some (.bool (Op.bytesLess x.toList y.toList))
 | .leq=>some (.bool (Op.bytesLess x.toList y.toList||x.toList==y.toList))
 | .gtr=>some (.bool !(Op.bytesLess x.toList y.toList||x.toList==y.toList))
 | .geq=>some (.bool !Op.bytesLess x.toList y.toList)
 | _=>none
def A9(a:BinOp)(k:IntKind)(x y:Int):Option D :=
 if y<0 then none else
 match a with
 | .shl=>some (.int k (k.wrap (x*2 ^ (min y.toNat k.bits))))
 | .shr=>some (.int k (x.fdiv (2 ^ (min y.toNat k.bits))))
 | _=>none
def nM:BinOp->Bool
 | .shl | .shr=>true
 | _=>false
def FP(T:Nat->Option Ty)(e:Nat)(d:BinOp)(a b:D):Option D :=
 match a,b with
 | .int k x,.int f y=>if nM d then A9 d k x y else if k=f then jG d k x y else none
 | .str x,.str y=>JB d x y
 | a,b =>
  match T e with
  | some τ =>
   match d with
   | .eql=>match eqD T τ a b with|some c=>some (.bool c)|none=>none
   | .neq=>match eqD T τ a b with|some c=>some (.bool !c)|none=>none
   | _=>none
  | none=>none
def Zz(a:UnOp):D->Option D
 | .int k n=>match a with
  | .neg=>some (.int k (k.wrap (0-n)))
  | .xor=>some (.int k (FQ .xor k (if k.signed then -1 else k.max) n))
  | _=>none
 | .bool b=>match a with | .not=>some (.bool !b)|_=>none
 | _=>none
mutual
def jW:D->Bool
 | .int _ _ | .bool _ | .str _=>true
 | .agg xs | .tup xs=>tj xs
 | _=>false
def tj:List D->Bool
 | []=>true
 | x::xs=>jW x&&tj xs
end
def E1:D->Option Nat
 | .str s=>some s.size
 | .sl _ _ n _=>some n
 | .buf _ _ _ _ n=>some n
 | _=>none
def AX(f:Int->Int->Int)(k:IntKind):Int->List D->Option Int
 | x,[]=>some x
 | x,.int a y::r=>if k=a then AX f k (f x y) r else none
 | _,_=>none
def fw(T:Nat->Option Ty)(h:Nat->Option Row)(e:Nat)(c:Option Nat)(b:Builtin)(f:List Nat)(a:List D):Option cv :=
 match b,f,a with
 | .len,t::_,[x] =>
  if alive h x then
   match T t,E1 x with
   | some τ,some n=>match τ.ds,x with
    | .str,.str _=>some ⟨.int .i64 n,[]⟩
    | .slice _,.sl _ _ _ _=>some ⟨.int .i64 n,[]⟩
    | .slice _,.buf _ _ _ _ _=>some ⟨.int .i64 n,[]⟩
    | _,_=>none
   | some τ,none=>match τ.ds,mapOf h x with
    | .map _ _,some (g,_)=>some ⟨.int .i64 (g.length:Nat),[]⟩
    | _,_=>none
   | _,_=>none
  else none
 | .append,[t,i],[s,x] =>
  if t=i then
   match T t,c with
   | some τ,some d=>kR T τ h e d s x
   | _,_=>none
  else none
 | .max,_,.int k x::r=>match AX (fun x y=>if y>x then y else x) k x r with|some z=>some ⟨.int k z,[]⟩|none=>none
 | .min,_,.int k x::r=>match AX (fun x y=>if y<x then y else x) k x r with|some z=>some ⟨.int k z,[]⟩|none=>none
 | _,_,_=>none
def uv:D->Bool
 | .buf _ _ _ _ _ | .clo _ _ _ | .und | .skp | .box1 _ _ _ _ _=>false
 | _=>true
inductive RK where
 | clean (d:D)
 | same (s o n:Nat)
 | fresh (ty s n:Nat) (cells:List D)
structure Grow where
 ty:Nat
 k:Nat
 bytes:Nat
 sem:List D->List D->Option (List D)
def Et(a b:Nat)(c:Bool):Option D->Option Row
 | some (.nx n xs)=>some ⟨b,a,xs,c,true,false⟩
 | _=>none
def Lk(a:Bool)(o:Nat):List D->Option Row
 | [.nr ty s nv cs]=>Et ty nv a (cs.drop o).head?
 | _=>none
def tx(r:Row)(o:Nat):Option Row:=if r.mp then Lk r.fz o r.cells else none
def eZ:D->Bool
 | .int _ _ | .bool _ | .str _ | .sl _ _ _ _=>true
 | _=>false
def vB(y s o:Nat):D->D
 | .nx n _ =>.ph (NK y o) s n
 | d=>if eZ d then d else .und
def kK{y s o:Nat}{d:D}(h:eZ d=true):vB y s o d=d:=by
 cases d<;>first|rfl|cases h
def tO{y s o x a n:Nat}{d:D}(h:vB y s o d=.ph x a n):∃b,d=.nx n b∧x=NK y o∧a=s:=by
 cases d<;>simp[vB,eZ]at h;simp_all
def nO(y s o:Nat)(d:D):phC (vB y s o d)=true:=by
 cases d<;>rfl
def skL(y:Nat):List D->List D
 | [.nr ty s nv cs]=>cs.mapIdx (vB y s)
 | cs=>cs
def Fc(y:Nat)(r:Row):Row:=if r.mp then { r with cells:=skL y r.cells } else r
def ltB(a b:Nat):Decidable (a<b):=@Eq.rec Prop (¬b<=a) (fun p _=>Decidable p) instDecidableNot (a<b) (propext Nat.not_le)
def EH(h:Nat->Option Row)(k:Nat):Option Row:=@ite _ (k<2*PK) (ltB k (2*PK)) ((h k).map (Fc k)) ((h (k % PK)).bind fun r=>tx r (k / PK-2))
def rt(k:Nat):Nat:=if k<2*PK then k else k % PK
structure ajt where
 lnd:Nat->Option (Nat×(Nat->Nat->Nat->Nat->List D->List D->Option (D×List D))):=fun _=>none
 res:Nat->Option (List D->Option (Nat×Nat×Nat×Nat×Nat×List D)):=fun _=>none
structure Env where
 lends:Nat->Bool
 sem:Nat->Option (D×Row)->List D->Option (RK×Option Row)
 own:Nat->Bool
 hint:Nat->Option Nat:=fun _=>none
 ins:Nat->Option (Nat×Nat×Nat):=fun _=>none
 grw:Nat->Option Grow:=fun _=>none
 nst:Nat->Option (Nat×Nat×Nat):=fun _=>none
 nx:ajt:={}
def xE(Γ:Env)(h:Nat->Option Row)(e:Nat)(b:Option Nat)(g:Nat)(a:List D):Option cv :=
 match bZ h a with
 | some (c,f) =>
  match Γ.sem g none c with
  | some (.clean r,_)=>some ⟨r,if jW r then [] else kE h f⟩
  | some (.fresh i s n cells,_) =>
   match b with
   | some d=>if f.contains d=false then some ⟨.buf d e s 0 n,(if tj cells then [] else kE h f)++[(d,some ⟨e,i,cells,false,true,false⟩)]⟩ else none
   | none=>none
  | _=>none
 | none=>none
def sX(Γ:Env)(h:Nat->Option Row)(e:Nat)(f:Option Nat)(g x v:Nat)(d0:D)(a:List D):Option cv :=
 match BZ d0 h x v with
 | some r =>
  if r.fz=false then
   match bZ h a with
   | some (akd,b) =>
    if b.contains x=false then
     match Γ.sem g (some (d0,{ r with v:=0 })) akd with
     | some (.clean c,some i)=>some ⟨c,kE h b++[(x,some { i with v:=v })]⟩
     | some (.same s o n,some i)=>some ⟨.buf x v s o n,kE h b++[(x,some { i with v:=v })]⟩
     | some (.fresh j s n cells,none) =>
      match f with
      | some d=>if b.contains d=false then some ⟨.buf d e s 0 n,kE h b++[(x,none),(d,some ⟨e,j,cells,false,true,false⟩)]⟩ else none
      | none=>none
     | _=>none
    else none
   | none=>none
  else none
 | none=>none
def zT(h:Nat->Option Row)(p:Grow)(a:List D):Option cv :=
 match a with
 | .pm y v k::b =>
  match vr h y v,h k with
  | some (c,d,s,n),some r =>
   if d=k∧k=PK+y∧y<PK∧c.fz=false∧r.mp=false∧r.fz=false∧r.lst=true∧s=p.k∧r.ty=p.ty∧r.cells.length=n*p.k∧(n+1)*p.bytes<=140737488355328 then
    match p.sem r.cells b with
    | some cs=>some ⟨.int .i64 (n:Int),[(k,some ⟨r.v,p.ty,r.cells++cs,false,true,false⟩),(y,some ⟨c.v,c.ty,[.ph k p.k (n+1)],false,false,true⟩)]⟩
    | none=>none
   else none
  | _,_=>none
 | _=>none
def w9(h:Nat->Option Row)(e:Nat)(c:Option Nat)(p:Nat×Nat×Nat)(a:List D):Option cv :=
 match a with
 | [.buf x v s o n,.int .i64 i,.buf y f g j m] =>
  match live h x v,live h y f,c with
  | some r,some b,some d =>
   if r.fz=false∧b.fz=false∧r.lst=true∧b.lst=true∧x≠y∧s=p.2.1∧g=p.2.1∧r.ty=p.1∧b.ty=p.1∧o=0∧j=0∧r.cells.length=n*p.2.1∧b.cells.length=m*p.2.1∧0<=i∧i<=n∧0<m∧(n+m)*p.2.2<=140737488355328 then
    some ⟨.buf d e p.2.1 0 (n+m),[(y,none),(x,none),(d,some ⟨e,p.1,r.cells.take (i.toNat*p.2.1)++(b.cells++r.cells.drop (i.toNat*p.2.1)),false,true,false⟩)]⟩
   else none
  | _,_,_=>none
 | _=>none
def jP(Γ:Env)(h:Nat->Option Row)(e:Nat)(b:Option Nat)(f:D)(a:List D):Option cv :=
 match f with
 | .fn g =>
  match Γ.ins g with
  | some p=>w9 h e b p a
  | none =>
  match Γ.grw g with
  | some p=>zT h p a
  | none =>
  if Γ.lends g then
   match a with
   | .buf x v s o n::rest=>sX Γ h e b g x v (.buf 0 0 s o n) rest
   | .ptr x v o::rest=>sX Γ h e b g x v (.ptr 0 0 o) rest
   | .mp x v::rest=>sX Γ h e b g x v (.mp 0 0) rest
   | _=>none
  else xE Γ h e b g a
 | .clo g d c=>if c.all uv then xE Γ h e b g (c.take d++(a++c.drop d)) else none
 | _=>none
def dH(T:Nat->Option Ty)(b e:Nat)(a:Option Nat)(h:Nat->Option Row)(x:D):Option cv :=
 match x with
 | .buf y v s o n =>
  match a,live h y v with
  | some d,some r=>if r.fz then some ⟨.buf y v s o n,[]⟩ else some ⟨.buf d e s o n,[(y,none),(d,some { r with v:=e })]⟩
  | _,_=>if (qY h y v).isSome then some ⟨.buf y v s o n,[]⟩ else some ⟨.und,[]⟩
 | .sl true true 0 [] =>
  match a,T b with
  | some d,some τ =>
   match τ.ds with
   | .slice el=>match T el with|some φ=>some ⟨.buf d e φ.size 0 0,[(d,some ⟨e,el,[],false,true,false⟩)]⟩|none=>none
   | _=>none
  | _,_=>none
 | x=>some ⟨x,[]⟩
def sY(h:Nat->Option Row):D->Option (D×List Nat)
 | .agg xs=>some (.agg xs,[])
 | d=>eP h d
def oV(h:Nat->Option Row)(x:D):Option cv :=
 match sY h x with
 | some (a,fr)=>some ⟨jT a,kE h fr⟩
 | none=>none
def uM(T:Nat->Option Ty)(q:Nat->Bool)(b e:Nat)(a:Option Nat)(h:Nat->Option Row)(x:D):Option cv :=
 match a with
 | some d=>if q d then dH T b e (some d) h x else oV h x
 | none=>dH T b e none h x
def tR(T:Nat->Option Ty)(Γ:Env)(e:Nat)(o:Oper)(g:Operand->D)(h:Nat->Option Row):Option cv :=
 match o.op with
 | .move x=>some ⟨g x,[]⟩
 | .assign x=>uM T Γ.own o.type e o.dst h (g x)
 | .pick c a b=>match g c with | .bool true=>some ⟨g a,[]⟩ | .bool false=>some ⟨g b,[]⟩|_=>none
 | .alloc j=>match T j,o.dst with
  | some τ,some d=>if (τ.zero.map qL).all bu then some ⟨match Γ.hint d with|some y =>.pm d e y|none =>.ptr d e 0,[(d,some ⟨e,j,τ.zero.map qL,false,false,false⟩)]⟩ else none
  | _,_=>none
 | .box j x=>match o.dst,gD h (g x) with
  | some d,some (u,s)=>if s.contains d=false then some ⟨.ptr d e 0,kE h s++[(d,some ⟨e,j,u,false,false,false⟩)]⟩ else none
  | _,_=>none
 | .load j p=>match T j with|some τ=>s7 τ h (g p)|none=>none
 | .store j p x=>match T j with|some τ=>im τ h (g p) (g x)|none=>none
 | .nilCheck x=>p8 h (g x)
 | .fieldAddr j x i=>match T j with|some τ=>gR T τ h i (g x)|none=>none
 | .field j x i=>match T j with|some τ=>BM T τ i (g x)|none=>none
 | .indexAddr j x i=>match T j with|some τ=>cX T τ h (g x) (g i)|none=>none
 | .index j x i=>match T j with|some τ=>nh T τ (g x) (g i)|none=>none
 | .slice j x v w z=>match T j with|some τ=>iP T τ h (g x) (v.map g) (w.map g) (z.map g)|none=>none
 | .build j parts=>match T j with|some τ=>s5 Γ.own T τ h o.dst (parts.toList.map fun p=>(p.1,g p.2))|none=>none
 | .buildSlice j len parts=>match T j,o.dst with|some τ,some d=>fi T τ h e d len (parts.toList.map fun p=>(p.1,g p.2))|_,_=>none
 | .makeSlice j l c=>match T j,o.dst with|some τ,some d=>ui T τ e d (g l) (g c)|_,_=>none
 | .binOp q j x y _=>match FP T j q (g x) (g y) with|some d=>some ⟨d,[]⟩|none=>none
 | .unOp q _ x=>match Zz q (g x) with|some d=>some ⟨d,[]⟩|none=>none
 | .convert src r x=>match T r,T src,g x with
  | some τ,some _,.int _ n=>(match τ.ds with | .int k=>some ⟨.int k (k.wrap n),[]⟩|_=>none)
  | _,_,_=>none
 | .makeFunc A first caps=>match A with | .func f=>if (first.toList.map g++caps.toList.map g).all uv then some ⟨.clo f first.size (first.toList.map g++caps.toList.map g),[]⟩ else none|_=>none
 | .makeMap j none=>match T j,o.dst with|some τ,some d=>p7 T j τ e d|_,_=>none
 | .lookup j m i B=>match T j with|some τ=>jm T τ h (g m) (g i) B|none=>none
 | .insert j m i x=>match T j with|some τ=>eQ T τ h (g m) (g i) (g x)|none=>none
 | .mapUpdate j m i x=>match T j with|some τ=>eQ T τ h (g m) (g i) (g x)|none=>none
 | .extract t i=>match g t with | .tup C=>(match C[i]? with|some d=>some ⟨d,[]⟩|none=>none)|_=>none
 | .call c=>match c.callee with
  | .value f=>jP Γ h e o.dst (g f) (c.args.toList.map g)
  | .builtin b=>fw T h e o.dst b c.argTypes.toList (c.args.toList.map g)
  | _=>none
 | _=>none
def iY(o:Oper)(a:Operand->D):List Nat :=
 match o.op with
 | .move _ | .pick _ _ _=>[]
 | .makeFunc _ _ _=>[]
 | op=>(op.operands.toList.flatMap fun x=>nm (a x))++o.dst.toList
theorem aB{α:Type}(f:Nat->α)(i:Nat)(v:α):ca f i v i=v:=by simp[ca]
theorem aC{α:Type}(f:Nat->α){i j:Nat}(v:α)(h:j≠i):ca f i v j=f j:=by simp[ca,h]
def adb{α:Type}(f:Nat->α){i j:Nat}(v u:α)(h:i≠j):ca (ca f i v) j u=ca (ca f j u) i v:=by
 funext k;unfold ca;grind
def RP.sn{w:World}{M:Nat->Prop}{d:D}{u:Value}(h:RP w M d u)(a:bu d=true):u.oneCell'=true:=by
 cases h<;>simp_all [bu,Value.oneCell']
def RP.cells{w:World}{M:Nat->Prop}{d:D}{u:Value}(h:RP w M d u)(a:bu d=true):u.cells = #[u]:=by
 cases h with
 | ali x v s o n u h1=>cases u<;>simp_all [Value.oneCell',Value.cells]
 | alm x v u h1=>cases u<;>simp_all [Value.oneCell',Value.cells]
 | _=>simp_all [bu,Value.cells]
def b6{w:World}{M:Nat->Prop}{h:Nat->Option Row}{blk:Nat->Option (Nat×Nat)}{V:Nat->Nat->Prop}{d:D}{u:Value}(a:RP w M d u):RT w M h blk V d u:=by
 cases a with
 | int k n=>exact .int k n
 | bool b=>exact .bool b
 | str s=>exact .str s
 | sl A c nl tight n xs us h1 h2 h3 h4 h5 h6 h7 h8=>exact .sl A c nl tight n xs us h1 h2 h3 h4 h5 h6 h7 h8
 | ip xs ad us h6 h7 h8=>exact .ip xs ad us h6 h7 h8
 | agg xs us h1 h2 h3=>exact .agg xs us h1 h2 h3
 | tup xs us h1 h2=>exact .tup xs us h1 h2
 | fn f=>exact .fn f
 | ali x v s o n u h1=>exact .ali x v s o n u h1
 | mpc ks vs mb us h1 h2 h3 h4=>exact .mpc ks vs mb us h1 h2 h3 h4
 | alm x v u h1=>exact .alm x v u h1
 | clo f g xs us h1 h2 =>
  refine⟨us,rfl,h1,fun j x e =>?_⟩;have:=h2 j x e;cases x with
  | ptr x v o=>cases this
  | mp x v=>cases this
  | pm x v y=>cases this
  | _=>exact this
def Z2(w:World)(M:Nat->Prop)(h:Nat->Option Row)(blk:Nat->Option (Nat×Nat))(V:Nat->Nat->Prop)(v:Value):RT w M h blk V (qL v) v:=by
 unfold qL;split
 ·exact .int _ _
 ·exact .bool _
 ·exact .str _
 ·exact .sl none 0 true true 0 [] (fun _=>undef) (aki _) (akj _) (fun _=>⟨fun _=>⟨rfl,rfl⟩,fun h=>by cases h⟩) (fun _=>⟨rfl,rfl⟩) (fun _=>rfl) (fun h=>absurd rfl h) (fun j x a=>by simp at a) (fun x a=>by simp at a)
 ·exact .mpc [] [] none (fun _=>undef) rfl (fun _=>rfl) (fun b c=>by cases c) (fun j x d=>by simp at d)
 ·trivial
structure Fz(w w':World)(M M':Nat->Prop)(h h':Nat->Option Row)(blk blk':Nat->Option (Nat×Nat))(V V':Nat->Nat->Prop):Prop where
 hk:∀b,b<w.heap.size->¬M b->b<w'.heap.size∧¬M' b∧w'.heap[b]? = w.heap[b]?
 hV:∀x v,V x v->V' x v
 hrow:∀x v,V x v->∀r',h' x=some r'->r'.v=v->(∃r,h x=some r∧r.v=v)∧blk' x=blk x∧∀g,blk x=some g->w'.shape? g.1=w.shape? g.1
def RC.mono{w l:World}{M m:Nat->Prop}{h n:Nat->Option Row}{blk b:Nat->Option (Nat×Nat)}{V p:Nat->Nat->Prop}(k:Fz w l M m h n blk b V p){d:D}{u:Value}
  (a:RC w M h blk V d u):RC l m n b p d u:=by
 cases d with
 | ptr x v o =>
  refine⟨k.hV _ _ a.1,fun c e f =>?_⟩;obtain⟨⟨r,g,i⟩,j,_⟩:=k.hrow x v a.1 c e f;rw[j];exact a.2 r g i
 | mp x v =>
  refine⟨k.hV _ _ a.1,fun c e f =>?_⟩;obtain⟨⟨r,g,i⟩,j,_⟩:=k.hrow x v a.1 c e f;rw[j];exact a.2 r g i
 | pm x v y =>
  refine⟨k.hV _ _ a.1,fun c e f =>?_⟩;obtain⟨⟨r,g,i⟩,j,_⟩:=k.hrow x v a.1 c e f;rw[j];exact a.2 r g i
 | _=>exact RP.keep k.hk a
def RT.mono{w A:World}{M B:Nat->Prop}{h C:Nat->Option Row}{blk b:Nat->Option (Nat×Nat)}{V E:Nat->Nat->Prop}(k:Fz w A M B h C blk b V E){d:D}{u:Value}
  (a:RT w M h blk V d u):RT A B C b E d u:=by
 cases d with
 | ptr x v o=>exact RC.mono (d:=.ptr x v o) k a
 | mp x v=>exact RC.mono (d:=.mp x v) k a
 | pm x v y=>exact RC.mono (d:=.pm x v y) k a
 | buf x v s o n =>
  refine⟨k.hV _ _ a.1,fun m e i =>?_⟩;obtain⟨⟨r,l,p⟩,q,F⟩:=k.hrow x v a.1 m e i;rw[q];rcases a.2 r l p with⟨g,G,c,N,t,H,I,J,K,L,O⟩|z
  ·grind
  ·exact .inr z
 | clo f U xs =>
  obtain⟨P,e,i,l⟩:=a;exact⟨P,e,i,fun j x Q=>(l j x Q).mono k⟩
 | box1 x v s o n =>
  obtain⟨R,S,T,a⟩:=a;refine⟨R,S,T,k.hV _ _ a.1,fun m e i =>?_⟩;obtain⟨⟨r,l,p⟩,q,F⟩:=k.hrow x v a.1 m e i;rw[q];rcases a.2 r l p with⟨g,G,c,N,t,H,I,J,K,L,O⟩|z
  ·simp_all
  ·exact .inr z
 | und=>trivial
 | skp=>exact a
 | _=>exact RP.keep k.hk a
def dj{w a:World}{b:Nat}(h:a.heap[b]? = w.heap[b]?):a.shape? b=w.shape? b:=by simp[World.shape?,h]
def eM.refl(L:Nat->Prop)(w:World):eM L w w:=⟨rfl,rfl,rfl,aki _,fun _ _ _=>rfl⟩
def eM.trans{L L':Nat->Prop}{a b c:World}(h:eM L a b)(k:eM L' b c)(e:∀x,L' x->x<a.heap.size->L x):eM L a c :=
 ⟨k.os.trans h.os,k.tape.trans h.tape,k.output.trans h.output,akk h.size k.size,fun i d hn=>(k.block i (akl d h.size) (fun f=>hn (e i f d))).trans (h.block i d hn)⟩
def eM.vw{L:Nat->Prop}{w a:World}(h:Below w.heap.size w a):eM L w a:=⟨h.os,h.tape,h.output,h.size,fun k b _=>h.block k b⟩
def eM.below{L:Nat->Prop}{w a:World}(h:eM L w a)(c:∀b,¬L b):Below w.heap.size w a:=⟨h.os,h.tape,h.output,h.size,fun k d=>h.block k d (c k)⟩
def ZX.keep{w a:World}{M c:Nat->Prop}{g:Nat×Nat}{r:Row}(h:ZX w M g r)(i:a.heap[g.1]? = w.heap[g.1]?)(k:∀b,b<w.heap.size->¬M b->b<a.heap.size∧¬c b∧a.heap[b]? = w.heap[b]?):ZX a c g r:=by
 obtain⟨l,m,n,e⟩:=h;exact⟨l,i.trans m,n,fun j d f=>⟨(e j d f).1,(e j d f).2.keep k⟩⟩
def Bn.keep{w f:World}{M v:Nat->Prop}{g:Nat×Nat}{r r':Row}(h:Bn w M g r)(z:r'.cells=r.cells)(i:r'.ty=r.ty)(y:f.heap[g.1]? = w.heap[g.1]?)(k:∀b,b<w.heap.size->¬M b->b<f.heap.size∧¬v b∧f.heap[b]? = w.heap[b]?):Bn f v g r':=by
 obtain⟨A,B,C,D,E,F⟩:=h;refine⟨A,B,z.trans C,D,fun q =>?_,fun q =>?_⟩
 ·obtain⟨d,a,m,n,e,o,p,s⟩:=E (i ▸ q);exact⟨d,a,y.trans m,n,e,o,p,fun j x t=>(s j x t).keep k⟩
 ·rw[i];obtain⟨u,b,d,a,seen,c,l,o,m,n,p,s,e,G,H,I,J,K,L,N,O⟩:=F (i ▸ q);obtain⟨P,Q,R⟩:=k b n p;exact⟨u,b,d,a,seen,c,l,o,y.trans m,P,Q,R.trans s,e,G,H,I,J,K,L,N,fun j x t=>(O j x t).keep k⟩
def FB.keep{w a:World}{M c:Nat->Prop}{d:D}{u:Value}(h:FB w M d u)(e:∀b,b<w.heap.size->¬M b->b<a.heap.size∧¬c b∧a.heap[b]? = w.heap[b]?):FB a c d u:=by
 cases d with
 | ph _ _ _=>trivial
 | und=>trivial
 | _=>exact RP.keep e h
def FC.keep{w a:World}{M c:Nat->Prop}{g:Nat×Nat}{r r':Row}(h:FC w M g r)(e:r'.cells=r.cells)(n:r'.ty=r.ty)(o:a.heap[g.1]? = w.heap[g.1]?)(f:∀b,b<w.heap.size->¬M b->b<a.heap.size∧¬c b∧a.heap[b]? = w.heap[b]?):FC a c g r':=by
 obtain⟨i,k,p,l,m⟩:=h;exact⟨by rw[e];exact i,k,by simp_all,by rw[e];exact l,fun j d q=>(m j d (by simp_all)).keep f⟩
def eJ.keep{w c:World}{M k:Nat->Prop}{g:Nat×Nat}{r r':Row}(h:eJ w M g r)(e:r'.cells=r.cells)(l:r'.ty=r.ty)(o:r'.mp=r.mp)(m:c.heap[g.1]? = w.heap[g.1]?)(f:∀b,b<w.heap.size->¬M b->b<c.heap.size∧¬k b∧c.heap[b]? = w.heap[b]?):eJ c k g r':=by
 unfold eJ at h ⊢;rw[o];cases a:r.mp with
 | true =>
  rw[a]at h;rcases h with h|h
  ·exact .inl (Bn.keep h e l m f)
  ·exact .inr (FC.keep h e l m f)
 | false =>
  rw[a]at h;obtain⟨p,s,q,n⟩:=h;refine⟨p,by simp_all,by rw[e];exact q,fun j d i =>?_⟩;rw[e]at i;exact⟨(n j d i).1,(n j d i).2.keep f⟩
def eJ.heap{w:World}{M:Nat->Prop}{g:Nat×Nat}{r:Row}(h:eJ w M g r):g.1<w.heap.size:=by
 unfold eJ at h;cases d:r.mp with
 | true =>
  rw[d]at h;rcases h with⟨m,n,_,_,i,j⟩|⟨_,k,f,_⟩
  ·by_cases q:r.ty<900000
   ·obtain⟨e,a,f,_⟩:=i q;grind
   ·obtain⟨_,b,e,a,seen,c,l,o,f,_⟩:=j (by omega);grind
  grind
 | false=>rw[d]at h;obtain⟨k,f,_⟩:=h;grind
def PhR.mono{w w':World}{h d:Nat->Option Row}{blk a:Nat->Option (Nat×Nat)}{x s n:Nat}{u:Value}(k:PhR w h blk x s n u)(e:∀b,d x=some b->(∃r,h x=some r)∧a x=blk x∧∀g,blk x=some g->w'.shape? g.1=w.shape? g.1):PhR w' d a x s n u:=by
 intro b f;obtain⟨⟨r,i⟩,j,m⟩:=e b f;rw[j];rcases k r i with⟨g,c,o,p,q,t,v,y,z,A⟩|l
 ·simp_all
 ·exact .inr l
def Vn.keep{L:Nat->Prop}{w0 w w':World}{M a:Nat->Prop}{g:Option (Nat×Nat)}{r:Row}(h:Vn L w0 w M g r)(c:∀b,g=some b->w'.heap[b.1]? = w.heap[b.1]?)(d:∀b,b<w.heap.size->¬M b->b<w'.heap.size∧¬a b∧w'.heap[b]? = w.heap[b]?):Vn L w0 w' a g r:=by
 cases g with
 | none=>exact h
 | some g=>exact⟨h.1,h.2.keep rfl rfl rfl (c g rfl) d⟩
section
variable {N:Nat} {M:Nat->Prop} {L:kz} {w0:World} {blk:Nat->Option (Nat×Nat)} {V:Nat->Nat->Prop} {t:Nat->D} {h:Nat->Option Row} {a:Act} {w:World}
def Inv.ev(b:Inv N M L w0 blk V t h a w)(x:Operand):RT w (Own M h blk) h blk V (ev t x) (a.eval x):=by
 cases x with
 | tmp i=>exact b.slots i
 | const v=>exact Z2 _ _ _ _ _ v
 | global g=>trivial
 | func f=>exact RP.fn f
def Inv.Hh(b:Inv N M L w0 blk V t h a w){x:Nat}{r:Row}{g:Nat×Nat}(c:h x=some r)(d:blk x=some g)(e:r.mp=false):ZX w (Own M h blk) g r:=by
 have:=(b.rows x r c).2;rw[d]at this;have:=this.2;unfold eJ at this;simp_all
def Inv.rowIs(b:Inv N M L w0 blk V t h a w){x:Nat}{r:Row}{g:Nat×Nat}(c:h x=some r)(d:blk x=some g):eJ w (Own M h blk) g r:=by
 have:=(b.rows x r c).2;rw[d]at this;exact this.2
def Inv.base(b:Inv N M L w0 blk V t h a w){x:Nat}{r:Row}{g:Nat×Nat}(c:h x=some r)(d:blk x=some g):w0.heap.size<=g.1∨LB L g.1:=by
 have:=(b.rows x r c).2;rw[d]at this;exact this.1
def Inv.lt(b:Inv N M L w0 blk V t h a w){x:Nat}{r:Row}{g:Nat×Nat}(c:h x=some r)(d:blk x=some g):g.1<w.heap.size:=by
 exact (b.rowIs c d).heap
def Inv.A5(c:Inv N M L w0 blk V t h a w){b:Nat}(d:Own M h blk b):b<w.heap.size:=by
 rcases d with d|⟨x,r,g,e,_,f,rfl⟩
 ·exact akl (c.mlt b d) c.below.size
 ·exact c.lt e f
def Inv.notM(b:Inv N M L w0 blk V t h a w){x:Nat}{r:Row}{g:Nat×Nat}(c:h x=some r)(d:blk x=some g):¬M g.1:=by
 rcases b.base c d with h1|h1
 ·intro e;have:=b.mlt _ e;omega
 ·exact b.bY _ h1
def abv(a:Array Value)(d i:Nat)(v:Value)(b:d<a.size):(a.setIfInBounds d v).getD i undef=if i=d then v else a.getD i undef:=by
 simp only[akm];grind
def Inv.put(b:Inv N M L w0 blk V t h a w){d:Nat}(e:d<N){x:D}{v:Value}(f:RT w (Own M h blk) h blk V x v):Inv N M L w0 blk V (ca t d x) h (a.put (some d) v) w where
 tab:=b.tab
 below:=b.below
 mlt:=b.mlt
 bY:=b.bY
 pin:=b.pin
 defers:=b.defers
 tsz:=by simp[Act.put,b.tsz]
 slots i:=by
  simp only[Act.put];rw[abv _ _ _ _ (by rw[b.tsz];exact e)]
  by_cases c:i=d
  ·subst c;simpa [ca] using f
  ·simpa [ca,c] using b.slots i
 rows:=b.rows
 inj:=b.inj
 ali:=b.ali
 pha:=b.pha
 big:=b.big
def Inv.weaken(b:Inv N M L w0 blk V t h a w){V':Nat->Nat->Prop}(hV:∀x v,V x v->V' x v):Inv N M L w0 blk V' t h a w where
 tab:=b.tab
 below:=b.below
 mlt:=b.mlt
 bY:=b.bY
 pin go k:=⟨hV _ _ (b.pin go k).1,(b.pin go k).2⟩
 defers:=b.defers
 tsz:=b.tsz
 slots i:=(b.slots i).mono ⟨fun _ e f=>⟨e,f,rfl⟩,hV,fun _ _ _ l e f=>⟨⟨l,e,f⟩,rfl,fun _ _=>rfl⟩⟩
 rows x r m:=⟨fun n=>hV _ _ ((b.rows x r m).1 n),(b.rows x r m).2⟩
 pha:=b.pha
 big:=b.big
 inj:=b.inj
 ali y r g o p q k j c d s z:=by
  obtain⟨u,e,f⟩:=b.ali y r g o p q k j c d s z;exact⟨u,e,f.mono ⟨fun _ e f=>⟨e,f,rfl⟩,hV,fun _ _ _ l e f=>⟨⟨l,e,f⟩,rfl,fun _ _=>rfl⟩⟩⟩
def Inv.later(e:Inv N M L w0 blk V t h a w){C:World}(hb:Below w.heap.size w C):Inv N M L w0 blk V t h a C where
 tab:=e.tab.keep fun b f l=>⟨akl f hb.size,l,hb.block b f⟩
 below:=e.below.trans (eM.vw (L:=LB L) hb) (fun _ h _=>h)
 mlt:=e.mlt
 bY:=e.bY
 pin go k:=⟨(e.pin go k).1,fun r z D=>⟨((e.pin go k).2 r z D).1,fun g m=>by
  have f:=(e.pin go k).2 r z D;rw[<- f.2 g m];exact dj (hb.block _ (e.lt z (f.1.trans m)))⟩⟩
 defers:=e.defers
 tsz:=e.tsz
 slots i:=(e.slots i).mono ⟨fun b f l=>⟨akl f hb.size,l,hb.block b f⟩,fun _ _ h=>h,
  fun x v _ o f l=>⟨⟨o,f,l⟩,rfl,fun g k=>dj (hb.block _ (e.lt f k))⟩⟩
 rows x r A:=⟨(e.rows x r A).1,(e.rows x r A).2.keep (fun g k=>hb.block _ (e.lt A k)) (fun b p E=>⟨akl p hb.size,E,hb.block b p⟩)⟩
 inj:=e.inj
 big:=e.big
 pha y r g q hm k j x s n F:=by
  obtain⟨G,u,f,l⟩:=e.pha y r g q hm k j x s n F;exact⟨G,u,(ake (a:=⟨g.1,g.2+j,none⟩) (hb.block _ (e.lt q k))).trans f,l.mono fun o p=>⟨⟨o,p⟩,rfl,fun O B=>dj (hb.block _ (e.lt p B))⟩⟩
 ali y r g q H I k j c d J K:=by
  obtain⟨u,f,l⟩:=e.ali y r g q H I k j c d J K;refine⟨u,(ake (a:=⟨g.1,g.2+j,none⟩) (hb.block _ (e.lt q k))).trans f,l.mono ⟨fun b f l=>⟨akl f hb.size,l,hb.block b f⟩,fun _ _ h=>h,
   fun x v _ o f l=>⟨⟨o,f,l⟩,rfl,fun g k=>dj (hb.block _ (e.lt f k))⟩⟩⟩
def Inv.drew(b:Inv N M L w0 blk V t h a w):Inv N M L w0 blk V t h a w.drew:=b.later ((Below.refl _ _).drew)
def I2(l a:List (Nat×Option Row)):∀h:Nat->Option Row,aW h (l++a)=aW (aW h l) a:=by
 induction l with
 | nil=>intro h;rfl
 | cons p l b=>intro h;obtain⟨x,r⟩:=p;exact b _
def iM(h:Nat->Option Row)(l:List (Nat×Option Row))(x:Nat)(r:Option Row):aW h (l++[(x,r)])=ca (aW h l) x r:=by rw[I2];rfl
def M5(r:Row):(xk r).fz=true:=by
 unfold xk;grind
def agd(r:Row):(xk r).v=r.v∧(xk r).ty=r.ty∧(xk r).cells=r.cells∧(xk r).mp=r.mp∧((xk r).lst=false->xk r=r):=by
 unfold xk;grind
def Ti(h:Nat->Option Row)(x:Nat):∀(a:List Nat)(g:Nat->Option Row),(∀y,y∉a->g y=h y∨g y=(h y).map xk) ->
  (x∈a->aW g (kE h a) x=(h x).map xk)∧(x∉a->aW g (kE h a) x=g x):=by
 intro a
 induction a with
 | nil=>intro g _;exact⟨fun b=>by simp at b,fun _=>rfl⟩
 | cons y a i =>
  intro g k;simp only[kE,akn,aW];have e:∀z,z∉a->(ca g y ((h y).map xk)) z=h z∨(ca g y ((h y).map xk)) z=(h z).map xk:=by
   intro z l
   by_cases c:z=y
   ·subst c;right;simp[ca]
   ·simp only[ca,c,if_false];simp_all
  obtain⟨j,f⟩:=i _ e;refine⟨fun b =>?_,fun b =>?_⟩
  ·by_cases d:x∈a
   ·exact j d
   ·have:x=y:=by simp_all
    subst this;exact (f d).trans (by simp[ca])
  ·simp only[ako,not_or]at b;exact (f b.2).trans (by simp[ca,b.1])
def CL(h:Nat->Option Row)(a:List Nat)(x:Nat):aW h (kE h a) x=if x∈a then (h x).map xk else h x:=by
 have:=Ti h x a h (fun _ _ =>.inl rfl);grind
def Inv.freeze(f:Inv N M L w0 blk V t h a w)(E:List Nat):Inv N M L w0 blk V t (aW h (kE h E)) a w:=by
 have o:∀x r',aW h (kE h E) x=some r'->∃r,h x=some r∧r'.v=r.v∧r'.ty=r.ty∧r'.cells=r.cells∧(r'.fz=false->r.fz=false)∧(r'.lst=false->r'=r)∧r'.mp=r.mp:=by
  intro x r' k;rw[CL]at k;split at k
  ·cases A:h x with
   | none=>simp[A]at k
   | some r =>
    simp only[A,Option.map_some,akq]at k;subst k;obtain⟨B,F,Q,R,S⟩:=agd r;exact⟨r,rfl,B,F,Q,(fun h=>by rw[M5]at h;cases h),S,R⟩
  simp_all
 have C:∀b,¬Own M h blk b->¬Own M (aW h (kE h E)) blk b:=by
  intro b q p;rcases p with p|⟨x,r',g,k,G,l,rfl⟩
  ·exact q (.inl p)
  ·obtain⟨r,e,_,_,_,T,_⟩:=o x r' k;exact q (.inr ⟨x,r,g,e,T G,l,rfl⟩)
 exact {
  tab:=f.tab.keep fun b e d=>⟨e,C b d,rfl⟩
  below:=f.below
  mlt:=f.mlt
  bY:=f.bY
  pin:=fun O l=>⟨(f.pin O l).1,fun r' A hv=>by
   obtain⟨r,m,D,_⟩:=o 0 r' A;exact (f.pin O l).2 r m (by omega)⟩
  defers:=f.defers
  tsz:=f.tsz
  slots:=fun i=>(f.slots i).mono ⟨fun b e d=>⟨e,C b d,rfl⟩,fun _ _ h=>h,fun x v _ r' e d=>by
   grind⟩
  rows:=fun x r' k=>by
   obtain⟨r,m,D,U,H,_,_,I⟩:=o x r' k;obtain⟨e,d⟩:=f.rows x r m;rw[D];refine⟨e,?_⟩;cases q:blk x with
   | none=>rw[q]at d;exact H.trans d
   | some g =>
    rw[q]at d;exact⟨d.1,d.2.keep H U I rfl fun b B F=>⟨B,C b F,rfl⟩⟩
  inj:=fun x y r s g W k z l J X=>by
   obtain⟨r',m,_⟩:=o x r k;obtain⟨Y,D,_⟩:=o y s z;exact f.inj x y r' Y g W m D l J X
  big:=f.big
  pha:=fun y r' g z Z l j x s n hc=>by
   obtain⟨r,m,_,_,H,_,_,I⟩:=o y r' z;obtain⟨h0,u,e,d⟩:=f.pha y r g m (I.symm.trans Z) l j x s n (by simp_all);exact⟨h0,u,e,d.mono fun aa B=>by
    grind⟩
  ali:=fun y r' g z G P l j c d' hj K=>by
   obtain⟨r,m,_,_,_,_,g6,_⟩:=o y r' z;obtain rfl:=g6 P;obtain⟨u,e,d⟩:=f.ali y r' g m G P l j c d' hj K;exact⟨u,e,d.mono ⟨fun b e d=>⟨e,C b d,rfl⟩,fun _ _ h=>h,fun x v _ r' e d=>by
    grind⟩⟩ }
def forget(h:Nat->Option Row):Option Nat->Nat->Option Row
 | some y=>ca h y none
 | none=>h
def Inv.FI(p:Inv N M L w0 blk V t h a w){w':World}{h1:Nat->Option Row}{old:Option Nat}{d e:Nat}{r0:Row}{go:Option (Nat×Nat)}
  (ah:w'.os=w.os) (R:w'.tape=w.tape) (aa:w'.output=w.output) (S:w.heap.size<=w'.heap.size)
  (hblock:∀k,k<w.heap.size->(∀y g,old=some y->blk y=some g->k≠g.1)->w'.heap[k]? = w.heap[k]?)
  (z:∀y,old=some y->∃r,h y=some r∧r.fz=false) (ab:h1=forget h old) (hV:ky N V d e)
  (E:match go with
   | some g=>(w.heap.size<=g.1∨∃y G,old=some y∧blk y=some G∧g.1=G.1)∧eJ w' (fun b=>Own M h1 blk b∨b=g.1) g r0
   | none=>r0.cells=[]) (ar:r0.fz=false) (K:r0.v=e) (au:r0.mp=true->∀g,go=some g->∀j x s n:Nat,r0.cells[j]? = some (D.ph x s n)->Ta d j x∧∃u,w'.cell? ⟨g.1,g.2+j,none⟩=some u∧PhR w' (ca h1 d (some r0)) (ca blk d go) x s n u:=by (intro h;cases h)) :
  Inv N M L w0 (ca blk d go) (fun x v=>V x v∨(x=d∧v=e)) t (ca h1 d (some r0)) a w':=by
 have C:∀x r,h1 x=some r->h x=some r∧∀y,old=some y->x≠y:=by
  intro x r o;cases old with
  | none=>subst ab;simp_all
  | some y =>
   subst ab;simp only[forget]at o
   by_cases ad:x=y
   ·subst ad;simp[ca]at o
   ·rw[aC _ _ ad]at o;simp_all
 have hne:∀x r g,h1 x=some r->blk x=some g->∀y G,old=some y->blk y=some G->g.1≠G.1:=by
  intro x r g o l y G m A F;obtain⟨s,O,_⟩:=z y m;exact (C x r o).2 y m (p.inj x y r s g G (C x r o).1 O l A F)
 have av:∀x r g I,h1 x=some r->blk x=some g->go=some I->g.1≠I.1:=by
  intro x r g I o l ai F;subst ai;rcases E.1 with hn|⟨y,G,m,A,P⟩
  ·have:=p.lt (C x r o).1 l;omega
  grind
 have T:∀b,b<w.heap.size->¬Own M h blk b->w'.heap[b]? = w.heap[b]?:=by
  intro b Q hn;refine hblock b Q fun y g m l F =>?_;obtain⟨s,O,U⟩:=z y m;exact hn (.inr ⟨y,s,g,O,U,l,F.symm⟩)
 have ae:∀b,b<w.heap.size->¬Own M h blk b->¬Own M (ca h1 d (some r0)) (ca blk d go) b:=by
  intro b Q hn W;rcases W with W|⟨x,r,g,o,U,l,F⟩
  ·exact hn (.inl W)
  ·by_cases f:x=d
   ·subst f;rw[aB]at l;subst l;rcases E.1 with aw|⟨y,G,m,A,P⟩
    ·omega
    ·obtain⟨s,O,aj⟩:=z y m;exact hn (.inr ⟨y,s,G,O,aj,A,by rw[<- P,F]⟩)
   ·rw[aC _ _ f]at o l;exact hn (.inr ⟨x,r,g,(C x r o).1,U,l,F⟩)
 have hk:∀b,b<w.heap.size->¬Own M h blk b->b<w'.heap.size∧¬Own M (ca h1 d (some r0)) (ca blk d go) b∧w'.heap[b]? = w.heap[b]? :=
  fun b h1 h2=>⟨by omega,ae b h1 h2,T b h1 h2⟩
 have hrowsame:∀x r g,h1 x=some r->blk x=some g->w'.heap[g.1]? = w.heap[g.1]?:=fun x r g o l=>hblock _ (p.lt (C x r o).1 l) (fun y G m A=>hne x r g o l y G m A);exact {
  tab:=p.tab.keep hk
  below:=p.below.trans (L':=fun k=>∃y g,old=some y∧blk y=some g∧k=g.1) ⟨ah,R,aa,S,fun k al hn=>hblock k al (fun y g m l F=>hn ⟨y,g,m,l,F⟩)⟩ (fun k ⟨y,g,m,l,F⟩ an=>by
   obtain⟨s,O,_⟩:=z y m;rcases p.base O l with Q|Q
   ·omega
   grind)
  mlt:=p.mlt
  bY:=p.bY
  pin:=fun X l=>⟨.inl (p.pin X l).1,fun r Z Y=>by
   by_cases f:0=d
   ·subst f;rw[aB]at Z;simp only[akq]at Z;subst Z;rw[K]at Y;subst Y;exact absurd (p.pin X l).1 hV.no
   ·rw[aC _ _ f]at Z;rw[aC _ _ f];obtain⟨k1,k2⟩:=(p.pin X l).2 r (C 0 r Z).1 Y;exact⟨k1,fun g ag=>(dj (hrowsame 0 r g Z (k1.trans ag))).trans (k2 g ag)⟩⟩
  defers:=p.defers
  tsz:=p.tsz
  slots:=fun i=>(p.slots i).mono ⟨hk,fun _ _ h =>.inl h,fun x v Y J B I=>by
   by_cases f:x=d
   ·subst f;rw[aB]at B;simp only[akq]at B;subst B;rw[K]at I;subst I;exact absurd Y hV.no
   ·rw[aC _ _ f]at B;exact⟨⟨J,(C x J B).1,I⟩,aC _ _ f,fun g l=>dj (hrowsame x J g B l)⟩⟩
  rows:=fun x r o=>by
   by_cases f:x=d
   ·subst f;rw[aB]at o;simp only[akq]at o;subst o;rw[aB];refine⟨fun _ =>.inr ⟨rfl,K⟩,?_⟩;cases go with
    | none=>exact E
    | some g =>
     obtain⟨n1,n2⟩:=E;refine⟨?_,n2.keep rfl rfl rfl rfl fun b q1 q2=>⟨q1,fun Q=>q2 ?_,rfl⟩⟩;rotate_left
     ·rcases Q with Q|⟨x',r,g',o,U,l,F⟩
      ·exact .inl (.inl Q)
      ·by_cases f:x'=x
       ·subst f;rw[aB]at l;grind
       ·rw[aC _ _ f]at o l;exact .inl (.inr ⟨x',r,g',o,U,l,F⟩)
     rcases n1 with l|⟨y,G,m,A,P⟩
     ·exact .inl (akk p.below.size l)
     ·obtain⟨s,O,_⟩:=z y m;rw[P];exact p.base O A
   ·rw[aC _ _ f]at o;rw[aC _ _ f];exact⟨fun hn =>.inl ((p.rows x r (C x r o).1).1 hn),(p.rows x r (C x r o).1).2.keep (fun g l=>hrowsame x r g o l) hk⟩
  inj:=fun x y r s g g' o m l H F=>by
   by_cases f:x=d
   ·by_cases q:y=d
    ·rw[f,q]
    ·subst f;rw[aC _ _ q]at m H;rw[aB]at l;grind
   ·by_cases q:y=d
    ·subst q;rw[aC _ _ f]at o l;rw[aB]at H;grind
    ·rw[aC _ _ f]at o l;rw[aC _ _ q]at m H;exact p.inj x y r s g g' (C x r o).1 (C y s m).1 l H F
  big:=p.big
  pha:=fun y r g m hm l j x s n hc=>by
   by_cases q:y=d
   ·subst q;rw[aB]at m;simp only[akq]at m;subst m;rw[aB]at l;grind
   ·rw[aC _ _ q]at m l;obtain⟨h0,u,k1,k2⟩:=p.pha y r g (C y r m).1 hm l j x s n hc;have an:=hV.lt;have aq:=p.big;have ax:PK=1000000:=rfl;have f:x≠d:=by simp only[Ta,NK]at h0;grind
    exact⟨h0,u,(ake (a:=⟨g.1,g.2+j,none⟩) (hrowsame y r g m l)).trans k1,k2.mono fun J B=>by
     rw[aC _ _ f]at B;exact⟨⟨J,(C x J B).1⟩,aC _ _ f,fun g' H=>dj (hrowsame x J g' B H)⟩⟩
  ali:=fun y r g m U hl l j c d' hj ao=>by
   by_cases q:y=d
   ·subst q;rw[aB]at m;grind
   ·rw[aC _ _ q]at m l;obtain⟨u,h1,h2⟩:=p.ali y r g (C y r m).1 U hl l j c d' hj ao;exact⟨u,(ake (a:=⟨g.1,g.2+j,none⟩) (hrowsame y r g m l)).trans h1,h2.mono ⟨hk,fun _ _ h =>.inl h,fun x v Y J B I=>by
     by_cases f:x=d
     ·subst f;rw[aB]at B;simp only[akq]at B;subst B;rw[K]at I;subst I;exact absurd Y hV.no
     ·rw[aC _ _ f]at B;exact⟨⟨J,(C x J B).1,I⟩,aC _ _ f,fun g l=>dj (hrowsame x J g B l)⟩⟩⟩ }
def Inv.aab(p:Inv N M L w0 blk V t h a w){w':World}{h1:Nat->Option Row}{old:Option Nat}{d:Nat}{r0:Row}{go:Option (Nat×Nat)}
  (ab:w'.os=w.os) (O:w'.tape=w.tape) (U:w'.output=w.output) (P:w.heap.size<=w'.heap.size)
  (hblock:∀k,k<w.heap.size->(∀y g,old=some y->blk y=some g->k≠g.1)->w'.heap[k]? = w.heap[k]?)
  (q:∀y,old=some y->∃r,h y=some r∧r.fz=false) (W:h1=forget h old) (aj:N<=d) (al:d≠0) (an:¬V d r0.v) (ao:∀(y:Nat)(r:Row)(j s n:Nat),h1 y=some r->r.mp=true->r.cells[j]? = some (D.ph d s n)->False)
  (B:match go with
   | some g=>(w.heap.size<=g.1∨∃y E,old=some y∧blk y=some E∧g.1=E.1)∧eJ w' (fun b=>Own M h1 blk b∨b=g.1) g r0
   | none=>r0.cells=[]) (aq:r0.fz=false) (ar:r0.mp=true->∀j x s n:Nat,r0.cells[j]?≠some (D.ph x s n):=by (intro h;cases h)) :
  Inv N M L w0 (ca blk d go) V t (ca h1 d (some r0)) a w':=by
 have ai:=p.big;have au:PK=1000000:=rfl;have A:∀x r,h1 x=some r->h x=some r∧∀y,old=some y->x≠y:=by
  intro x r l;cases old with
  | none=>subst W;simp_all
  | some y =>
   subst W;simp only[forget]at l
   by_cases X:x=y
   ·subst X;simp[ca]at l
   ·rw[aC _ _ X]at l;simp_all
 have hne:∀x r g,h1 x=some r->blk x=some g->∀y E,old=some y->blk y=some E->g.1≠E.1:=by
  intro x r g l f y E m z C;obtain⟨s,I,_⟩:=q y m;exact (A x r l).2 y m (p.inj x y r s g E (A x r l).1 I f z C)
 have av:∀x r g Q,h1 x=some r->blk x=some g->go=some Q->g.1≠Q.1:=by
  intro x r g Q l f ad C;subst ad;rcases B.1 with hn|⟨y,E,m,z,J⟩
  ·have:=p.lt (A x r l).1 f;omega
  grind
 have R:∀b,b<w.heap.size->¬Own M h blk b->w'.heap[b]? = w.heap[b]?:=by
  intro b K hn;refine hblock b K fun y g m f C =>?_;obtain⟨s,I,S⟩:=q y m;exact hn (.inr ⟨y,s,g,I,S,f,C.symm⟩)
 have Y:∀b,b<w.heap.size->¬Own M h blk b->¬Own M (ca h1 d (some r0)) (ca blk d go) b:=by
  intro b K hn T;rcases T with T|⟨x,r,g,l,S,f,C⟩
  ·exact hn (.inl T)
  ·by_cases e:x=d
   ·subst e;rw[aB]at f;subst f;rcases B.1 with aw|⟨y,E,m,z,J⟩
    ·omega
    ·obtain⟨s,I,ae⟩:=q y m;exact hn (.inr ⟨y,s,E,I,ae,z,by rw[<- J,C]⟩)
   ·rw[aC _ _ e]at l f;exact hn (.inr ⟨x,r,g,(A x r l).1,S,f,C⟩)
 have hk:∀b,b<w.heap.size->¬Own M h blk b->b<w'.heap.size∧¬Own M (ca h1 d (some r0)) (ca blk d go) b∧w'.heap[b]? = w.heap[b]? :=
  fun b h1 h2=>⟨by omega,Y b h1 h2,R b h1 h2⟩
 have hrowsame:∀x r g,h1 x=some r->blk x=some g->w'.heap[g.1]? = w.heap[g.1]?:=fun x r g l f=>hblock _ (p.lt (A x r l).1 f) (fun y E m z=>hne x r g l f y E m z);exact {
  tab:=p.tab.keep hk
  below:=p.below.trans (L':=fun k=>∃y g,old=some y∧blk y=some g∧k=g.1) ⟨ab,O,U,P,fun k ag hn=>hblock k ag (fun y g m f C=>hn ⟨y,g,m,f,C⟩)⟩ (fun k ⟨y,g,m,f,C⟩ ax=>by
   obtain⟨s,I,_⟩:=q y m;rcases p.base I f with K|K
   ·omega
   grind)
  mlt:=p.mlt
  bY:=p.bY
  pin:=fun Z f=>⟨(p.pin Z f).1,fun r hr hv=>by
   by_cases e:0=d
   ·omega
   ·rw[aC _ _ e]at hr;rw[aC _ _ e];obtain⟨k1,k2⟩:=(p.pin Z f).2 r (A 0 r hr).1 hv;exact⟨k1,fun g aa=>(dj (hrowsame 0 r g hr (k1.trans aa))).trans (k2 g aa)⟩⟩
  defers:=p.defers
  tsz:=p.tsz
  slots:=fun i=>(p.slots i).mono ⟨hk,fun _ _ h=>h,fun x v hv H F Q=>by
   by_cases e:x=d
   ·subst e;rw[aB]at F;grind
   ·rw[aC _ _ e]at F;exact⟨⟨H,(A x H F).1,Q⟩,aC _ _ e,fun g f=>dj (hrowsame x H g F f)⟩⟩
  rows:=fun x r l=>by
   by_cases e:x=d
   ·subst e;rw[aB]at l;simp only[akq]at l;subst l;rw[aB];refine⟨fun hn=>by omega,?_⟩;cases go with
    | none=>exact B
    | some g =>
     obtain⟨n1,n2⟩:=B;refine⟨?_,n2.keep rfl rfl rfl rfl fun b q1 q2=>⟨q1,fun K=>q2 ?_,rfl⟩⟩;rotate_left
     ·rcases K with K|⟨x',r,g',l,S,f,C⟩
      ·exact .inl (.inl K)
      ·by_cases e:x'=x
       ·subst e;rw[aB]at f;grind
       ·rw[aC _ _ e]at l f;exact .inl (.inr ⟨x',r,g',l,S,f,C⟩)
     rcases n1 with f|⟨y,E,m,z,J⟩
     ·exact .inl (akk p.below.size f)
     ·obtain⟨s,I,_⟩:=q y m;rw[J];exact p.base I z
   ·rw[aC _ _ e]at l;rw[aC _ _ e];exact⟨fun hn=>(p.rows x r (A x r l).1).1 hn,(p.rows x r (A x r l).1).2.keep (fun g f=>hrowsame x r g l f) hk⟩
  inj:=fun x y r s g g' l m f G C=>by
   by_cases e:x=d
   ·by_cases o:y=d
    ·rw[e,o]
    ·subst e;rw[aC _ _ o]at m G;rw[aB]at f;grind
   ·by_cases o:y=d
    ·subst o;rw[aC _ _ e]at l f;rw[aB]at G;grind
    ·rw[aC _ _ e]at l f;rw[aC _ _ o]at m G;exact p.inj x y r s g g' (A x r l).1 (A y s m).1 f G C
  big:=p.big
  pha:=fun y r g m hm f j x s n hc=>by
   by_cases o:y=d
   ·subst o;rw[aB]at m;grind
   ·rw[aC _ _ o]at m f;obtain⟨h0,u,k1,k2⟩:=p.pha y r g (A y r m).1 hm f j x s n hc;have e:x≠d:=by
     grind
    exact⟨h0,u,(ake (a:=⟨g.1,g.2+j,none⟩) (hrowsame y r g m f)).trans k1,k2.mono fun H F=>by
     rw[aC _ _ e]at F;exact⟨⟨H,(A x H F).1⟩,aC _ _ e,fun g' G=>dj (hrowsame x H g' F G)⟩⟩
  ali:=fun y r g m S hl f j c d' hj ah=>by
   by_cases o:y=d
   ·subst o;rw[aB]at m;grind
   ·rw[aC _ _ o]at m f;obtain⟨u,h1,h2⟩:=p.ali y r g (A y r m).1 S hl f j c d' hj ah;exact⟨u,(ake (a:=⟨g.1,g.2+j,none⟩) (hrowsame y r g m f)).trans h1,h2.mono ⟨hk,fun _ _ h=>h,fun x v hv H F Q=>by
     by_cases e:x=d
     ·subst e;rw[aB]at F;grind
     ·rw[aC _ _ e]at F;exact⟨⟨H,(A x H F).1,Q⟩,aC _ _ e,fun g f=>dj (hrowsame x H g F f)⟩⟩⟩ }
def Inv.aac(B:Inv N M L w0 blk V t h a w){w':World}{h1:Nat->Option Row}{old:Option Nat}{d:Nat}{r0:Row}{go:Option (Nat×Nat)}
  (C:w'.os=w.os) (f:w'.tape=w.tape) (m:w'.output=w.output) (i:w.heap.size<=w'.heap.size)
  (c:∀k,k<w.heap.size->(∀y g,old=some y->blk y=some g->k≠g.1)->w'.heap[k]? = w.heap[k]?)
  (o:∀y,old=some y->∃r,h y=some r∧r.fz=false) (l:h1=forget h old) {y0:Nat} (P:d=PK+y0) (I:y0<N) (E:∀v,¬V d v) (Q:∀r,h1 y0=some r->r.mp=false)
  (p:match go with
   | some g=>(w.heap.size<=g.1∨∃y J,old=some y∧blk y=some J∧g.1=J.1)∧eJ w' (fun b=>Own M h1 blk b∨b=g.1) g r0
   | none=>r0.cells=[]) (F:r0.fz=false) (G:r0.mp=true->∀j x s n:Nat,r0.cells[j]?≠some (D.ph x s n):=by (intro h;cases h)) :
  Inv N M L w0 (ca blk d go) V t (ca h1 d (some r0)) a w':=by
 have R:PK=1000000:=rfl;have K:=B.big;refine B.aab C f m i c o l (by omega) (by omega) (E _) (fun y r j s n q S H =>?_) p F G;have u:h y=some r:=by
  cases old with
  | none=>subst l;exact q
  | some z =>
   subst l;simp only[forget]at q
   by_cases A:y=z
   ·subst A;rw[aB]at q;cases q
   ·rwa [aC _ _ A]at q
 have e:=(B.rows y r u).2;cases O:blk y with
 | none =>
  rw[O]at e;rw[show r.cells=[] from e]at H;cases H
 | some g =>
  have T:=(B.pha y r g u S O j _ s n H).1;have:y=y0:=by simp only[Ta,NK]at T;grind
  simp_all
def Inv.Tf(E:Inv N M L w0 blk V t h a w){w':World}{p:Nat->Option Row}{old:Option Nat}{d e q:Nat}{m s:Bool}{go:Option (Nat×Nat)}{cs:List D}
  (u:w'.os=w.os) (i:w'.tape=w.tape) (n:w'.output=w.output) (l:w.heap.size<=w'.heap.size)
  (c:∀k,k<w.heap.size->(∀y g,old=some y->blk y=some g->k≠g.1)->w'.heap[k]? = w.heap[k]?)
  (o:∀y,old=some y->∃r,h y=some r∧r.fz=false) (z:p=forget h old) (F:ky N V d e)
  (f:match go with
   | some g=>(w.heap.size<=g.1∨∃y C,old=some y∧blk y=some C∧g.1=C.1)∧∃A:Array Value,w'.heap[g.1]? = some (.cells A q (0,0))∧g.2+cs.length<=A.size∧∀j x,cs[j]? = some x->bu x=true∧RP w' (fun b=>Own M p blk b∨b=g.1) x (A.getD (g.2+j) undef)
   | none=>cs=[]) (B:s=false:=by rfl) :
  Inv N M L w0 (ca blk d go) (fun x v=>V x v∨(x=d∧v=e)) t (ca p d (some ⟨e,q,cs,s,m,false⟩)) a w':=by
 refine E.FI (r0:=⟨e,q,cs,s,m,false⟩) u i n l c o z F ?_ B rfl;cases go with
 | none=>exact f
 | some g=>exact f
def Inv.aaa(K:Inv N M L w0 blk V t h a w){w':World}{h1:Nat->Option Row}{old:Option Nat}{d e ty:Nat}{lst fz:Bool}{go:Option (Nat×Nat)}{cs:List D}
  (A:w'.os=w.os) (l:w'.tape=w.tape) (p:w'.output=w.output) (m:w.heap.size<=w'.heap.size)
  (c:∀k,k<w.heap.size->(∀y g,old=some y->blk y=some g->k≠g.1)->w'.heap[k]? = w.heap[k]?)
  (f:∀y,old=some y->∃r,h y=some r∧r.fz=false) (q:h1=forget h old) (O:ky N V d e)
  (i:match go with
   | some g=>(w.heap.size<=g.1∨∃y o,old=some y∧blk y=some o∧g.1=o.1)∧∃s:Array Value,w'.heap[g.1]? = some (.cells s ty (0,0))∧g.2+cs.length<=s.size∧∀j x,cs[j]? = some x->bu x=true∧RP w (Own M h blk) x (s.getD (g.2+j) undef)
   | none=>cs=[]) (hfz:fz=false:=by rfl) :
  Inv N M L w0 (ca blk d go) (fun x v=>V x v∨(x=d∧v=e)) t (ca h1 d (some ⟨e,ty,cs,fz,lst,false⟩)) a w':=by
 refine K.Tf A l p m c f q O ?_ hfz;cases go with
 | none=>exact i
 | some g =>
  obtain⟨B,s,P,Q,I⟩:=i;refine⟨B,s,P,Q,fun j x J=>⟨(I j x J).1,(I j x J).2.keep fun b R C=>⟨by omega,?_,?_⟩⟩⟩
  ·rintro (E|rfl)
   ·apply C;rcases E with E|⟨x,r,S,T,u,F,z⟩
    ·exact .inl E
    ·refine .inr ⟨x,r,S,?_,u,F,z⟩;subst q;cases old with
     | none=>exact T
     | some y =>
      simp_all[forget,ca,aC]
   ·rcases B with B|⟨y,o,G,n,z⟩
    ·omega
    ·obtain⟨r,H,u⟩:=f y G;exact C (.inr ⟨y,r,o,H,u,n,z.symm⟩)
  ·refine c b R fun y o G n z =>?_;obtain⟨r,H,u⟩:=f y G;exact C (.inr ⟨y,r,o,H,u,n,z.symm⟩)
def Inv.alloc(f:Inv N M L w0 blk V t h a w){d e ty:Nat}{lst:Bool}{cs:List D}{vs:Array Value}(g:ky N V d e)(i:cs.length<=vs.size)
  (n:∀j x,cs[j]? = some x->bu x=true∧RP w (Own M h blk) x (vs.getD j undef)) :
  Inv N M L w0 (ca blk d (some (w.heap.size,0))) (fun x v=>V x v∨(x=d∧v=e)) t (ca h d (some ⟨e,ty,cs,false,lst,false⟩)) a (w.alloc (.cells vs ty)):=by
 have hold:∀b,b<w.heap.size->(w.alloc (.cells vs ty)).heap[b]? = w.heap[b]?:=fun b c=>Below.heap_alloc w _ b c;have c:=(Below.refl w.heap.size w).alloc (aki _) (.cells vs ty);refine f.aaa (h1:=h) (old:=none) c.os c.tape c.output c.size (fun k l _=>hold k l) (fun y m=>by cases m) rfl g ?_;exact⟨.inl (aki _),vs,heap_alloc_new w _,by simpa using i,fun j x o=>by grind⟩
def Inv.drop(hI:Inv N M L w0 blk V t h a w)(y:Nat):Inv N M L w0 blk V t (ca h y none) a w:=by
 have d:∀x r,ca h y none x=some r->h x=some r:=by
  grind[aB,aC]
 have q:∀b,¬Own M h blk b->¬Own M (ca h y none) blk b:=by
  intro b G m;rcases m with m|⟨x,r,g,o,A,k,B⟩
  ·exact G (.inl m)
  ·exact G (.inr ⟨x,r,g,d x r o,A,k,B⟩)
 exact {
  tab:=hI.tab.keep fun b e f=>⟨e,q b f,rfl⟩
  below:=hI.below
  mlt:=hI.mlt
  bY:=hI.bY
  pin:=fun H k=>⟨(hI.pin H k).1,fun r I J=>(hI.pin H k).2 r (d 0 r I) J⟩
  defers:=hI.defers
  tsz:=hI.tsz
  slots:=fun i=>(hI.slots i).mono ⟨fun b e f=>⟨e,q b f,rfl⟩,fun _ _ h=>h,fun x v _ l e f=>⟨⟨l,d x l e,f⟩,rfl,fun _ _=>rfl⟩⟩
  rows:=fun x r o=>⟨(hI.rows x r (d x r o)).1,(hI.rows x r (d x r o)).2.keep (fun _ _=>rfl) (fun b C D=>⟨C,q b D,rfl⟩)⟩
  inj:=fun x y r s g K o p k E B=>hI.inj x y r s g K (d x r o) (d y s p) k E B
  big:=hI.big
  pha:=fun z r g p O k j x s n P=>by
   obtain⟨Q,u,C,D⟩:=hI.pha z r g (d z r p) O k j x s n P;exact⟨Q,u,C,D.mono fun l R=>⟨⟨l,d x l R⟩,rfl,fun _ _=>rfl⟩⟩
  ali:=fun z r g p A S k j c T U F=>by
   obtain⟨u,e,f⟩:=hI.ali z r g (d z r p) A S k j c T U F;exact⟨u,e,f.mono ⟨fun b e f=>⟨e,q b f,rfl⟩,fun _ _ h=>h,fun x v _ l e f=>⟨⟨l,d x l e,f⟩,rfl,fun _ _=>rfl⟩⟩⟩ }
def Inv.lU(m:Inv N M L w0 blk V t h a w){x:Nat}{r:Row}(P:h x=some r)(hz:r.fz=false){r0:Row}{w':World}(X:r0.v=r.v)
  (Y:w'.os=w.os) (C:w'.tape=w.tape) (Q:w'.output=w.output) (E:w.heap.size<=w'.heap.size) (hheap:∀b,b<w.heap.size->(∀g,blk x=some g->b≠g.1)->w'.heap[b]? = w.heap[b]?)
  (q:match blk x with
   | some g=>w'.shape? g.1=w.shape? g.1∧eJ w' (Own M h blk) g r0
   | none=>r0.cells=[])
  (ag:r0.fz=true->r0.lst=false->∀g,blk x=some g->∀j c d,r0.cells[j]? = some c->alD c=some d->∃u,w'.cell? ⟨g.1,g.2+j,none⟩=some u∧RT w (Own M h blk) h blk V d u) (hph:r0.mp=true->∀g,blk x=some g->∀j I s n:Nat,r0.cells[j]? = some (D.ph I s n)->Ta x j I∧∃u,w'.cell? ⟨g.1,g.2+j,none⟩=some u∧PhR w h blk I s n u:=by (intro h;cases h)) :
  Inv N M L w0 blk V t (ca h x (some r0)) a w':=by
 have S:∀y s,ca h x (some r0) y=some s->∃s',h y=some s'∧s.v=s'.v∧(s.fz=false->s'.fz=false):=by
  intro y s f
  by_cases hyx:y=x
  ·subst hyx;rw[aB]at f;simp_all
  ·rw[aC _ _ hyx]at f;simp_all
 have ho:∀b,¬Own M h blk b->¬Own M (ca h x (some r0)) blk b:=by
  intro b T F;rcases F with F|⟨y,s,p,f,G,o,U⟩
  ·exact T (.inl F)
  ·obtain⟨s',A,_,h3⟩:=S y s f;exact T (.inr ⟨y,s',p,A,h3 G,o,U⟩)
 have B:∀b,b<w.heap.size->¬Own M h blk b->w'.heap[b]? = w.heap[b]?:=fun b A h2=>hheap b A (fun g l e=>h2 (.inr ⟨x,r,g,P,hz,l,e.symm⟩));have J:∀b,b<w.heap.size->¬Own M h blk b->b<w'.heap.size∧¬Own M (ca h x (some r0)) blk b∧w'.heap[b]? = w.heap[b]? :=
  fun b A h2=>⟨by omega,ho b h2,B b A h2⟩
 have hother:∀y s p,y≠x->h y=some s->blk y=some p->w'.heap[p.1]? = w.heap[p.1]?:=fun y s p hyx f o=>hheap _ (m.lt f o) (fun g l e=>hyx (m.inj y x s r p g f P o l e));have Z:∀y s p,h y=some s->blk y=some p->w'.shape? p.1=w.shape? p.1:=by
  intro y s p f o
  by_cases hyx:y=x
  ·grind
  ·exact dj (hother y s p hyx f o)
 exact {
  tab:=m.tab.keep J
  below:=m.below.trans (L':=fun k=>∃g,blk x=some g∧k=g.1) ⟨Y,C,Q,E,fun k J hn=>hheap k J (fun g l e=>hn ⟨g,l,e⟩)⟩ (fun k ⟨g,l,U⟩ ah=>by
   rcases m.base P l with T|T
   ·omega
   simp_all)
  mlt:=m.mlt
  bY:=m.bY
  pin:=fun go l=>⟨(m.pin go l).1,fun s hs hv=>by
   obtain⟨s',R,g2,_⟩:=S 0 s hs;obtain⟨K,O⟩:=(m.pin go l).2 s' R (by omega);grind⟩
  defers:=m.defers
  tsz:=m.tsz
  slots:=fun i=>(m.slots i).mono ⟨J,fun _ _ h=>h,fun y v _ s A h2=>by
   grind⟩
  rows:=fun y s f=>by
   by_cases hyx:y=x
   ·subst hyx;rw[aB]at f;simp only[akq]at f;subst f;refine⟨fun hn=>by rw[X];exact (m.rows y r P).1 hn,?_⟩;cases l:blk y with
    | none=>rw[l]at q;exact q
    | some g =>
     rw[l]at q;exact⟨m.base P l,q.2.keep rfl rfl rfl rfl fun b q1 q2=>⟨q1,ho b q2,rfl⟩⟩
   ·rw[aC _ _ hyx]at f;exact⟨(m.rows y s f).1,(m.rows y s f).2.keep (fun p o=>hother y s p hyx f o) J⟩
  inj:=fun y z s s' R g2 f G aa ab U=>by
   obtain⟨H,K,_⟩:=S y s f;obtain⟨r2,O,_⟩:=S z s' G;exact m.inj y z H r2 R g2 K O aa ab U
  big:=m.big
  pha:=fun y H g f W l j I s n hc=>by
   by_cases hyx:y=x
   ·subst hyx;rw[aB]at f;simp only[akq]at f;subst f;obtain⟨h0,u,K,O⟩:=hph W g l j I s n hc;exact⟨h0,u,K,O.mono fun r' R=>by
     grind⟩
   ·rw[aC _ _ hyx]at f;obtain⟨h0,u,K,O⟩:=m.pha y H g f W l j I s n hc;exact⟨h0,u,(ake (a:=⟨g.1,g.2+j,none⟩) (hother y H g hyx f l)).trans K,O.mono fun r' R=>by
     grind⟩
  ali:=fun y H g f ad hl l j c d' hj ae=>by
   have W:∀{u:Value},RT w (Own M h blk) h blk V d' u->RT w' (Own M (ca h x (some r0)) blk) (ca h x (some r0)) blk V d' u:=fun h2=>h2.mono ⟨J,fun _ _ h=>h,fun y v _ s A h2=>by
    grind⟩
   by_cases hyx:y=x
   ·subst hyx;rw[aB]at f;grind
   ·rw[aC _ _ hyx]at f;obtain⟨u,A,h2⟩:=m.ali y H g f ad hl l j c d' hj ae;exact⟨u,(ake (a:=⟨g.1,g.2+j,none⟩) (hother y H g hyx f l)).trans A,W h2⟩ }
def Inv.rewrite(p:Inv N M L w0 blk V t h a w){x:Nat}{r:Row}(q:h x=some r)(s:r.fz=false){cs:List D}{lst fz:Bool}{w':World}
  (m:w'.os=w.os) (f:w'.tape=w.tape) (l:w'.output=w.output) (i:w.heap.size<=w'.heap.size) (k:∀b,b<w.heap.size->(∀g,blk x=some g->b≠g.1)->w'.heap[b]? = w.heap[b]?)
  (e:match blk x with
   | some g=>w'.shape? g.1=w.shape? g.1∧∃n:Array Value,w'.heap[g.1]? = some (.cells n r.ty (0,0))∧g.2+cs.length<=n.size∧∀j d,cs[j]? = some d->bu d=true∧RP w' (Own M h blk) d (n.getD (g.2+j) undef)
   | none=>cs=[])
  (o:fz=true->lst=false->∀g,blk x=some g->∀j c d,cs[j]? = some c->alD c=some d->∃u,w'.cell? ⟨g.1,g.2+j,none⟩=some u∧RT w (Own M h blk) h blk V d u) :
  Inv N M L w0 blk V t (ca h x (some ⟨r.v,r.ty,cs,fz,lst,false⟩)) a w':=by
 refine p.lU (r0:=⟨r.v,r.ty,cs,fz,lst,false⟩) q s rfl m f l i k ?_ o;cases v:blk x with
 | none=>simp_all
 | some g=>rw[v]at e;exact e
def Inv.write(y:Inv N M L w0 blk V t h a w){x:Nat}{r:Row}{g:Nat×Nat}(o:h x=some r)(p:r.fz=false)(k:blk x=some g)(l:r.mp=false){cs:List D}{c i:Array Value}(q:w.heap[g.1]? = some (.cells i r.ty (0,0)))(m:c.size=i.size)
  (z:g.2+cs.length<=c.size) (s:∀j d,cs[j]? = some d->bu d=true∧RP w (Own M h blk) d (c.getD (g.2+j) undef)) :
  Inv N M L w0 blk V t (ca h x (some { r with cells:=cs })) a (w.setRow g.1 c):=by
 have hheap:∀b,b≠g.1->(w.setRow g.1 c).heap[b]? = w.heap[b]?:=by
  intro b u;simp only[World.setRow,akr];grind
 have n:(w.setRow g.1 c).heap.size=w.heap.size:=by simp[World.setRow]
 have f:(w.setRow g.1 c).heap[g.1]? = some (.cells c r.ty (0,0)):=setRow_heap w g.1 i c r.ty (0,0) q;have A:({ r with cells:=cs }:Row)=⟨r.v,r.ty,cs,r.fz,r.lst,false⟩:=by rw[<- l]
 rw[A];refine y.rewrite (fz:=r.fz) (lst:=r.lst) o p rfl rfl rfl (by omega) (fun b _ u=>hheap b (u g k)) ?_ (fun h=>by simp_all);rw[k];exact⟨by simp[World.shape?,f,q,m],c,f,z,fun j d v=>⟨(s j d v).1,(s j d v).2.keep fun b B q2=>⟨by omega,q2,hheap b (fun e=>q2 (.inr ⟨x,r,g,o,p,k,e.symm⟩))⟩⟩⟩
end
structure Bk(w:World)(M:Nat->Prop)(args:List D)(vs:Array Value):Prop where
 size:vs.size=args.length
 at_:∀j d,args[j]? = some d->RP w M d (vs.getD j undef)
 tab:XP w M
def xy(w e:World)(M:Nat->Prop)(f:Nat->Prop)(v:Value):RK->Prop
 | .clean d=>RP e M d v
 | .fresh ty s n cells =>
  (∃(g:Nat×Nat)(c:Nat)(a:Array Value),v=.slice (some ⟨g.1,g.2,none⟩) n c∧(w.heap.size<=g.1∨f g.1)∧e.heap[g.1]? = some (.cells a ty (0,0))∧n<=c∧c<=maxLen∧c*s+g.2=a.size∧g.2+cells.length<=a.size ∧
   ∀(j:Nat) d,cells[j]? = some d->bu d=true∧RP e (fun b=>M b∨b=g.1) d (a.getD (g.2+j) undef))∨(n=0∧cells=[]∧∃A,v=.slice A 0 0)
 | .same _ _ _=>False
def w8(a:Option (Nat×Nat))(b:Nat):Prop:=∃g,a=some g∧b=g.1
def Vm(w:World)(M:Nat->Prop)(a:Option (Nat×Nat))(r:Row):Prop :=
 match a with
 | some g=>eJ w M g r
 | none=>r.cells=[]
def DK(w:World)(go:Option (Nat×Nat))(d:D)(u:Value):Prop:=RT w (fun _=>False) (fun x=>if x=0 then some ⟨0,0,[],false,false,false⟩ else none) (fun _=>go) (fun _ _=>True) d u
def ae6(w w':World)(M:Nat->Prop)(a:Option (Nat×Nat))(r:Row):Option Row->Prop
 | some r1=>r1.ty=r.ty∧r1.fz=false∧(r1.mp=r.mp∧xp r1=true)∧(∀g,a=some g->w'.shape? g.1=w.shape? g.1)∧Vm w' (fun b=>M b∨w8 a b) a r1
 | none=>True
def ae8(w a:World)(M:Nat->Prop)(c:Option (Nat×Nat))(v:Value):RK->Prop
 | .same s o n=>DK a c (.buf 0 0 s o n) v
 | .clean d=>RP a (fun b=>M b∨w8 c b) d v
 | .fresh ty s n cells=>xy w a M (w8 c) v (.fresh ty s n cells)
def uJ(P:Program)(f:FuncId)(bY:Option (D×Row))(a:List D)(i:RK)(h:Option Row):Prop :=
 match bY with
 | none=>∀(w:World)(M:Nat->Prop)(g:Array Value),(∀b,M b->b<w.heap.size)->Bk w M a g->Calls P f g w fun e d=>∃v,e=.returned v∧Below w.heap.size w d∧xy w d M (fun _=>False) v i
 | some (d0,r)=>∀(w:World)(M:Nat->Prop)(c:Option (Nat×Nat))(j:Value)(g:Array Value),(∀b,M b->b<w.heap.size)->(∀b,w8 c b->¬M b)->r.fz=false->xp r=true->Vm w (fun b=>M b∨w8 c b) c r->DK w c d0 j->Bk w (fun b=>M b∨w8 c b) a g ->
  Calls P f (#[j]++g) w fun e d=>∃v,e=.returned v∧eM (w8 c) w d∧ae6 w d M c r h∧ae8 w d M c v i
def S4(P:Program)(f:FuncId)(a:List D)(r:D):Prop:=uJ P f none a (.clean r) none
def fe(P:Program)(f:FuncId):Prop:=∃a,P.funcs[f]? = some a∧(a.name == "runtime.NumGoroutine")=false∧a.body.isNone=false
def Z4(w:World)(d k:Nat)(a:Option (Nat×Nat))(u:Value)(n:Nat)(b:List Value):Prop :=
 (∃g c arr,a=some g∧u=.slice (some ⟨g.1,g.2,none⟩) n c∧w.heap[g.1]? = some (.cells arr d (0,0))∧c*k+g.2=arr.size∧n<=c∧c<=maxLen∧∀(j:Nat) x,b[j]? = some x->arr[g.2+j]? = some x)∨(a=none∧n=0∧b=[]∧∃A,u=.slice A 0 0)
structure ZT(P:Program)(f:FuncId)(p:Nat×Nat×Nat):Prop where
 callable:fe P f
 pos:0<p.2.1
 calls:∀(w:World)(go go':Option (Nat×Nat))(u u':Value)(i n m:Nat)(cs cs':List Value),Z4 w p.1 p.2.1 go u n cs->Z4 w p.1 p.2.1 go' u' m cs'->(∀g g',go=some g->go'=some g'->g.1≠g'.1) ->
  cs.length=n*p.2.1->cs'.length=m*p.2.1->(∀x∈cs,x.oneCell'=true)->(∀x∈cs',x.oneCell'=true)->i<=n->0<m->(n+m)*p.2.2<=140737488355328 ->
  Calls P f #[u,.int .i64 i,u'] w fun e w'=>∃v,e=.returned v∧eM (w8 go) w w' ∧
   ∃(g:Nat×Nat)(c:Nat)(arr:Array Value),v=.slice (some ⟨g.1,g.2,none⟩) (n+m) c∧(w.heap.size<=g.1∨w8 go g.1)∧w'.heap[g.1]? = some (.cells arr p.1 (0,0))∧n+m<=c∧c<=maxLen∧c*p.2.1+g.2=arr.size ∧
    ∀(j:Nat) x,(cs.take (i*p.2.1)++(cs'++cs.drop (i*p.2.1)))[j]? = some x->arr[g.2+j]? = some x
def Oc:D->Value
 | .int k n =>.int k n
 | .bool b =>.bool b
 | .str s =>.string s
 | _=>undef
def Ei:D->Bool
 | .int _ _ | .bool _ | .str _=>true
 | _=>false
def aeX:D->Value
 | .agg xs =>.agg (xs.map Oc).toArray
 | d=>Oc d
def afk:D->Bool
 | .agg xs=>xs.all Ei
 | d=>Ei d
def KU{w:World}{M:Nat->Prop}{d:D}{u:Value}(a:Ei d=true)(h:RP w M d u):u=Oc d:=by
 cases h<;>first|rfl|cases a
def abj{w:World}{M:Nat->Prop}{d:D}(a:Ei d=true):bu d=true∧RP w M d (Oc d):=by
 cases d with
 | int k n=>exact⟨rfl,.int k n⟩
 | bool b=>exact⟨rfl,.bool b⟩
 | str s=>exact⟨rfl,.str s⟩
 | _=>cases a
def Yn{w:World}{M:Nat->Prop}{d:D}{u:Value}(b:afk d=true)(h:RP w M d u):u=aeX d:=by
 cases h with
 | agg xs us h1 h2 h3 =>
  simp only[aeX];congr 2;apply List.ext_getElem
  ·simpa using h1
  ·intro i e f;have c:i<xs.length:=by omega
   have a:Ei xs[i]=true:=aks.1 b _ (akt c);have:=KU a (h2 i _ (aku c));simp_all
 | _=>first|rfl|cases b
structure ae3(P:Program)(f:FuncId)(p:Grow):Prop where
 callable:fe P f
 pos:0<p.k
 flat:∀ds akd cs,p.sem ds akd=some cs->(∀d∈ds,Ei d=true)∧(∀d∈akd,afk d=true)∧(∀d∈cs,Ei d=true)∧cs.length=p.k
 calls:∀(w:World)(gy:Nat×Nat)(ya:Array Value)(ty:Nat)(go:Option (Nat×Nat))(u:Value)(n:Nat)(ds akd cs:List D),w.heap[gy.1]? = some (.cells ya ty (0,0))->ya[gy.2]? = some u->Z4 w p.ty p.k go u n (ds.map Oc) ->
  (∀g,go=some g->g.1≠gy.1)->ds.length=n*p.k->p.sem ds akd=some cs->(n+1)*p.bytes<=140737488355328 ->
  Calls P f (#[.pointer (some ⟨gy.1,gy.2,none⟩)]++(akd.map aeX).toArray) w fun e w'=>e=.returned (.int .i64 (n:Int))∧eM (fun b=>b=gy.1∨w8 go b) w w' ∧
   ∃(g:Nat×Nat)(c:Nat)(arr:Array Value),(w.heap.size<=g.1∨w8 go g.1)∧w'.heap[gy.1]? = some (.cells (ya.setIfInBounds gy.2 (.slice (some ⟨g.1,g.2,none⟩) (n+1) c)) ty (0,0))∧w'.heap[g.1]? = some (.cells arr p.ty (0,0)) ∧
    n+1<=c∧c<=maxLen∧c*p.k+g.2=arr.size∧∀(j:Nat) x,((ds++cs).map Oc)[j]? = some x->arr[g.2+j]? = some x
structure JH(w:World)(Q:Nat->Prop)(blk:Nat->Option (Nat×Nat))(h:Nat->Option Row):Prop where
 rows:∀x r,h x=some r->match blk x with|some g=>eJ w Q g r|none=>r.cells=[]
 inj:∀x y r s g g',h x=some r->h y=some s->blk x=some g->blk y=some g'->g.1=g'.1->x=y
 pha:∀y r g,h y=some r->r.mp=true->blk y=some g->∀j x s n:Nat,r.cells[j]? = some (D.ph x s n)->Ta y j x∧∃u,w.cell? ⟨g.1,g.2+j,none⟩=some u∧PhR w h blk x s n u
def jA(a t s b:Nat)(c:List D):Row:=⟨0,a,[.nr t s b c],false,true,true⟩
def oJ(r:Row)(x:Nat):Option Row:=if x=0 then some r else none
def y6(blk:Nat->Option (Nat×Nat))(h:Nat->Option Row)(b:Nat):Prop:=∃x r g,h x=some r∧blk x=some g∧g.1=b
def Mu(P:Program)(f:FuncId)(k t s o:Nat)(m g:List D)(d:D)(j:List D):Prop :=
 ∀(w:World)(M:Nat->Prop)(blk:Nat->Option (Nat×Nat))(h h':Nat->Option Row)(c:Nat×Nat)(l:Array Value),h=EH (oJ (jA k t s 0 m))->h'=EH (oJ (jA k t s 0 j)) ->
  (∀b,M b->b<w.heap.size)->(∀b,y6 blk h b->¬M b)->blk 0=some c->JH w (fun b=>M b∨y6 blk h b) blk h->Bk w (fun b=>M b∨y6 blk h b) g l ->
  Calls P f (#[.pointer (some ⟨c.1,c.2+o,none⟩)]++l) w fun e i=>∃v a,e=.returned v∧eM (y6 blk h) w i∧a 0=some c∧i.shape? c.1=w.shape? c.1∧(∀b,y6 a h' b->w.heap.size<=b∨y6 blk h b)∧JH i (fun b=>M b∨y6 a h' b) a h'∧RP i (fun b=>M b∨y6 a h' b) d v
def Mt(P:Program)(f:FuncId)(a:List D)(g t s S n:Nat)(i:List D):Prop :=
 ∀(w:World)(M:Nat->Prop)(h:Nat->Option Row)(d:Array Value),h=EH (oJ (jA g t s 0 i))->(∀b,M b->b<w.heap.size)->Bk w M a d ->
  Calls P f d w fun e c=>∃v blk,e=.returned v∧Below w.heap.size w c∧(∀b,y6 blk h b->w.heap.size<=b)∧JH c (fun b=>M b∨y6 blk h b) blk h∧DK c (blk 0) (.buf 0 0 S 0 n) v
structure bU(P:Program)(Γ:Env):Prop where
 calls:∀f bY args rk out,Γ.sem f bY args=some (rk,out)->uJ P f bY args rk out∧fe P f
 ins:∀f p,Γ.ins f=some p->ZT P f p
 grw:∀f p,Γ.grw f=some p->ae3 P f p
 lnd:∀f p,Γ.nx.lnd f=some p->fe P f∧∀ty t s o cs args d cs',p.2 ty t s o cs args=some (d,cs')->Mu P f ty t s o cs args d cs'
 res:∀f p,Γ.nx.res f=some p->fe P f∧∀args ty t s S n cs,p args=some (ty,t,s,S,n,cs)->Mt P f args ty t s S n cs
def eG.get{P:Program}{t:Nat}{τ:Ty}(h:eG P t τ):∃d i z,P.underlying t=some d∧conv d=τ.ds∧P.info? t=some i∧i.size=τ.size∧i.bytes=τ.bytes∧i.zero=some z∧z.cells=τ.zero.toArray:=by
 have b:=h.desc;have a:=h.info;cases c:P.underlying t with
 | none=>simp[c]at b
 | some d =>
  cases e:P.info? t with
  | none=>simp[e]at a
  | some i =>
   simp only[c,Option.map_some,akq]at b;simp only[e,Option.map_some,akq,Prod.mk.injEq]at a;cases f:i.zero with
   | none=>simp[f]at a
   | some z =>
    grind
def ff(P:Program)(o:Oper)(a:Act)(w:World)(Φ:Value->World->Prop):Prop :=
 (∃v c,(execOp a.eval o).run P w=.ok (.value v) c∧Φ v c)∨(∃c,(execOp a.eval o).run P w=.ok .skip c∧Φ undef c) ∨
 (∃f b,(execOp a.eval o).run P w=.ok (.enter f b) w∧Calls P f b w (fun e c=>∃v,e=.returned v∧Φ v c))
def ff.mono{P:Program}{o:Oper}{a:Act}{w:World}{Φ Ψ:Value->World->Prop}(h:ff P o a w Φ)(i:∀v b,Φ v b->Ψ v b):ff P o a w Ψ:=by
 rcases h with⟨v,b,c,d⟩|⟨b,c,d⟩|⟨f,g,c,d⟩
 ·exact .inl ⟨v,b,c,i _ _ d⟩
 ·exact .inr (.inl ⟨b,c,i _ _ d⟩)
 ·exact .inr (.inr ⟨f,g,c,d.mono fun e b ⟨v,j,k⟩=>⟨v,j,i _ _ k⟩⟩)
def ff.wp{P:Program}{o:Oper}{a:Act}{w:World}{Φ:Value->World->Prop}{K:Act->World->Prop}{Q:Exit->Act->World->Prop}(h:ff P o a w Φ)(g:∀v b,Φ v b->K (a.put o.dst v) b):o.wp P a w K Q:=by
 unfold Oper.wp;rcases h with⟨v,b,c,d⟩|⟨b,c,d⟩|⟨f,i,c,d⟩
 ·rw[c];exact g v b d
 ·rw[c];exact g undef b d
 ·rw[c];refine d.mono fun e b ⟨v,j,k⟩ =>?_;simp_all
section
variable {N:Nat} {M:Nat->Prop} {L:kz} {w0:World} {blk:Nat->Option (Nat×Nat)} {V:Nat->Nat->Prop} {t:Nat->D} {h:Nat->Option Row} {a:Act} {w:World}
structure rU(M:Nat->Prop)(h:Nat->Option Row)(blk:Nat->Option (Nat×Nat))(fr:List Nat)(M':Nat->Prop):Prop where
 le:∀b,M' b->Own M h blk b
 no:∀x,x∈fr->∀r g,h x=some r->blk x=some g->¬M' g.1
def rU.left{b a:List Nat}{c:Nat->Prop}(hl:rU M h blk (b++a) c):rU M h blk b c:=⟨hl.le,fun x d=>hl.no x (akv _ d)⟩
def rU.right{c a:List Nat}{b:Nat->Prop}(hl:rU M h blk (c++a) b):rU M h blk a b:=⟨hl.le,fun x d=>hl.no x (akw _ d)⟩
def Inv.gU(n:Inv N M L w0 blk V t h a w)(o:List Nat):rU M h blk o (Own M (aW h (kE h o)) blk) where
 le b c:=by
  rcases c with c|⟨x,l,g,d,e,k,rfl⟩
  ·exact .inl c
  ·rw[CL]at d;split at d
   ·cases i:h x with
    | none=>simp[i]at d
    | some r=>simp only[i,Option.map_some,akq]at d;subst d;rw[M5]at e;cases e
   ·exact .inr ⟨x,l,g,d,e,k,rfl⟩
 no x d r g i k c:=by
  rcases c with c|⟨y,l,p,f,e,m,q⟩
  ·exact n.notM i k c
  ·rw[CL]at f;split at f
   ·cases j:h y with
    | none=>simp[j]at f
    | some s=>simp only[j,Option.map_some,akq]at f;subst f;rw[M5]at e;cases e
   ·rename_i u;have:y=x:=n.inj y x l r p g f i m k q;simp_all
def Inv.K8(j:Inv N M L w0 blk V t h a w)(d:List Nat):rU M h blk d (fun b=>Own M h blk b∧∀x,x∈d->∀r g,h x=some r->blk x=some g->g.1≠b) where
 le b c:=c.1
 no x e r g f i c:=c.2 x e r g f i rfl
def tv{x v:Nat}{r:Row}(a:qY h x v=some r):h x=some r∧r.v=v:=by
 unfold qY at a;grind
def cQ{x v:Nat}{r:Row}(a:live h x v=some r):h x=some r∧r.v=v:=by
 unfold live at a;grind
def jz{x v:Nat}{r:Row}(a:live h x v=some r):r.mp=false:=by
 unfold live at a;grind
def Eo{x v:Nat}{r:Row}(a:AV h x v=some r):h x=some r∧r.v=v∧r.mp=true∧xp r=true:=by
 unfold AV at a;grind
def Hm{r:Row}(h:r.mp=false):xp r=true:=by unfold xp;rw[h]
def B4{r:Row}(h:xp r=true)(c:r.mp=true):∃a b,r.cells=[.mpc a b]:=by
 unfold xp at h;grind
def Hi{x v:Nat}{a:List ec}{b:List D}(c:mN h x v=some (a,b)):∃r,h x=some r∧r.v=v∧r.mp=true∧r.cells=[.mpc a b]∧r.ty<900000:=by
 unfold mN at c;grind
def km{α:Type}(l:List α)(o n j:Nat):((l.drop o).take n)[j]? = if j<n then l[o+j]? else none:=by
 grind
def Inv.Bq(i:Inv N M L w0 blk V t h a w){x v s o n:Nat}{r:Row}{u:Value}(k:live h x v=some r)(p:RT w (Own M h blk) h blk V (.buf x v s o n) u) :
  (∃(g:Nat×Nat)(o' c:Nat)(b:Array Value),blk x=some g∧u=.slice (some ⟨g.1,o',none⟩) n c∧n<=c∧c<=maxLen∧w.heap[g.1]? = some (.cells b r.ty (0,0))∧(0<c∨o=0->o'=g.2+o∧c*s+o'=b.size) ∧
   g.2+r.cells.length<=b.size∧∀j d,r.cells[j]? = some d->bu d=true∧RP w (Own M h blk) d (b.getD (g.2+j) undef))∨(blk x=none∧n=0∧r.cells=[]∧∃A,u=.slice A 0 0):=by
 obtain⟨f,q⟩:=cQ k;rcases p.2 r f q with⟨g,o',c,y,z,e,l,m,D,E,B⟩|⟨e,l,A,m⟩
 ·obtain⟨b,C,F,G⟩:=i.Hh f e (jz k);have:(r.ty,b.size)=(z,y):=by simpa [World.shape?,C] using B
  grind
 ·have:=(i.rows x r f).2;rw[e]at this;exact .inr ⟨e,l,this,A,m⟩
theorem bf{w:World}{g:Nat}{a:Array Value}{b:Nat}(c:w.heap[g]? = some (.cells a b (0,0))){j:Nat}(d:j<a.size):w.cell? ⟨g,j,none⟩=some (a.getD j undef):=by
 simp[World.cell?,c,d]
def Inv.eP(G:Inv N M L w0 blk V t h a w){d q:D}{H:List Nat}{u:Value}{z:Nat->Prop}(e:eP h d=some (q,H))(I:rU M h blk H z)(l:RT w (Own M h blk) h blk V d u):RP w z q u∧bu q=true:=by
 have m:∀b,b<w.heap.size->¬Own M h blk b->b<w.heap.size∧¬z b∧w.heap[b]? = w.heap[b]?:=fun b O h2=>⟨O,fun P=>h2 (I.le b P),rfl⟩;cases d with
 | int k n=>simp only[Am.eP,akq,Prod.mk.injEq]at e;obtain⟨rfl,rfl⟩:=e;exact⟨RP.keep m l,rfl⟩
 | bool b=>simp only[Am.eP,akq,Prod.mk.injEq]at e;obtain⟨rfl,rfl⟩:=e;exact⟨RP.keep m l,rfl⟩
 | str s=>simp only[Am.eP,akq,Prod.mk.injEq]at e;obtain⟨rfl,rfl⟩:=e;exact⟨RP.keep m l,rfl⟩
 | sl x y n xs=>simp only[Am.eP,akq,Prod.mk.injEq]at e;obtain⟨rfl,rfl⟩:=e;exact⟨RP.keep m l,rfl⟩
 | buf x v s o n =>
  simp only[Am.eP]at e;split at e
  ·rename_i r i;split at e
   ·rename_i Q;simp only[akq,Prod.mk.injEq]at e;obtain⟨rfl,rfl⟩:=e;rcases G.Bq i l with⟨g,R,c,cs,B,C,J,E,S,T,Y,U⟩|⟨B,C,J,A,E⟩
    ·subst C;refine⟨.sl (some ⟨g.1,R,none⟩) c false false n _ (fun j=>cs.getD (g.2+(o+j)) undef) J E (fun h=>by cases h) (fun h=>by cases h) (fun h=>by cases h) (fun W =>?_) (fun j y f =>?_) (fun y F =>?_),rfl⟩
     ·have Z:0<n:=by
       rcases akx n with K|K
       ·simp_all
       ·exact K
      have X:=(T (.inl (by omega))).1;subst X;refine⟨g.1,g.2+o,rfl,G.lt (cQ i).1 B,I.no x (by simp) r g (cQ i).1 B,fun j f =>?_⟩;simp only[aky,akz]at f;rw[akA];exact bf S (by omega)
     ·rw[km]at f;split at f
      ·exact (U _ _ f).2.keep m
      ·cases f
     ·obtain⟨j,f⟩:=akB F;grind
    ·subst C E;have p:List.take (0*s) (List.drop o r.cells)=[]:=by simp
     rw[p];exact⟨.sl A 0 false false 0 [] (fun _=>undef) (aki _) (akj _) (fun h=>by cases h) (fun _=>⟨rfl,rfl⟩) (fun h=>by cases h) (fun h=>absurd rfl h) (fun j y f=>by simp at f) (fun y F=>by simp at F),rfl⟩
   ·cases e
  ·cases e
 | _=>simp[Am.eP]at e
def zd{h:Nat->Option Row}{d:D}(b:∀a,d ≠ .agg a):Am.sY h d=Am.eP h d:=by
 cases d<;>first|rfl|simp_all
def Inv.sY(m:Inv N M L w0 blk V t h a w){d i:D}{j:List Nat}{u:Value}{e:Nat->Prop}(c:sY h d=some (i,j))(k:rU M h blk j e)(l:RT w (Own M h blk) h blk V d u):RP w e i u:=by
 by_cases f:∀g,d ≠ .agg g
 ·rw[zd f]at c;exact (m.eP c k l).1
 ·have n:∀b,b<w.heap.size->¬Own M h blk b->b<w.heap.size∧¬e b∧w.heap[b]? = w.heap[b]?:=fun b o h2=>⟨o,fun p=>h2 (k.le b p),rfl⟩;simp only[ne_eq,Classical.not_forall,Classical.not_not]at f;obtain⟨g,rfl⟩:=f;simp only[Am.sY,akq,Prod.mk.injEq]at c;obtain⟨rfl,rfl⟩:=c;exact RP.keep n (show RP w (Own M h blk) (.agg g) u from l)
def Inv.QZ(A:Inv N M L w0 blk V t h a w){x v:Nat}{f:List ec}{i:List D}{u:Value}(B:mN h x v=some (f,i))(C:RT w (Own M h blk) h blk V (.mp x v) u) :
  ∃(g:Nat×Nat)(r:Row),h x=some r∧r.v=v∧r.mp=true∧r.cells=[.mpc f i]∧blk x=some g∧u=.map (some g.1)∧i.length=f.length∧∃(b:Array MapEntry)(c:Nat),w.heap[g.1]? = some (.map b c)∧b.size=f.length∧MapKept.Stamped b c∧∃l:Nat->Value,(∀j k,f[j]? = some k->∃e:MapEntry,b[j]? = some e∧e.key=nW k∧e.val=l j)∧∀j x,i[j]? = some x->RP w (Own M h blk) x (l j):=by
 obtain⟨r,m,s,y,n,o⟩:=Hi B;obtain⟨g,z,E⟩:=C.2 r m s;have d:=A.rowIs m z;unfold eJ at d;rw[y]at d;rcases d with d|⟨d,_⟩;rotate_left
 ·rw[n]at d;have:=d _ (akC.2 rfl);cases this
 obtain⟨F,G,p,H,I,_⟩:=d;obtain⟨b,c,J,K,q,l,O,P⟩:=I o;rw[n]at p;simp only[akD,D.mpc.injEq,and_true]at p;obtain⟨rfl,rfl⟩:=p;exact⟨g,r,m,s,y,n,z,E,H,b,c,J,K,q,l,O,P⟩
def Inv.WE(l:Inv N M L w0 blk V t h a w){x v:Nat}{c:List ec}{d:List D}{u:Value}{e:Nat->Prop}(m:mN h x v=some (c,d))(n:∀r g,h x=some r->blk x=some g->¬e g.1)
  (o:∀b,b<w.heap.size->¬Own M h blk b->b<w.heap.size∧¬e b∧w.heap[b]? = w.heap[b]?) (p:RT w (Own M h blk) h blk V (.mp x v) u):RP w e (.mpc c d) u:=by
 obtain⟨g,r,A,B,C,E,F,rfl,q,k,f,G,H,_,s,I,i⟩:=l.QZ m p;refine .mpc c d (some g.1) s q (fun h=>by cases h) (fun b J =>?_) (fun j y z=>(i j y z).keep o);grind
def Inv.bR(p:Inv N M L w0 blk V t h a w){d E:D}{F:List Nat}{u:Value}{G:Nat->Prop}(c:bR h d=some (E,F))(q:rU M h blk F G)(e:RT w (Own M h blk) h blk V d u):RP w G E u:=by
 have A:∀b,b<w.heap.size->¬Own M h blk b->b<w.heap.size∧¬G b∧w.heap[b]? = w.heap[b]?:=fun b l h2=>⟨l,fun W=>h2 (q.le b W),rfl⟩;have one:∀d,Am.bR h d=(match Am.eP h d with|some (E,F)=>some (canon E,F)|none=>none)->Am.bR h d=some (E,F)->RT w (Own M h blk) h blk V d u->RP w G E u:=by
  intro d X c e;rw[X]at c;split at c
  ·rename_i d1 H l;simp only[akq,Prod.mk.injEq]at c;obtain⟨rfl,rfl⟩:=c;exact (p.eP l q e).1.canon
  ·cases c
 cases d with
 | ptr x v o =>
  simp only[Am.bR]at c;split at c
  ·rename_i r m;split at c
   ·rename_i Y;simp only[akq,Prod.mk.injEq]at c;obtain⟨rfl,rfl⟩:=c;obtain⟨i,I⟩:=cQ m;obtain⟨g,B,J⟩:=e.2 r i I;obtain⟨cs,Z,g3,g4⟩:=p.Hh i B (jz m);subst J;refine .ip _ _ (fun j=>cs.getD (g.2+(o+j)) undef) (fun aa=>⟨g.1,g.2+o,rfl,p.lt i B,q.no x (by simp) r g i B,fun j k =>?_⟩) (fun j y k =>?_) (fun y hy =>?_)
    ·simp only[akz]at k;rw[akA];exact bf Z (by omega)
    ·rw[akE]at k;exact (g4 _ _ k).2.keep A
    ·obtain⟨j,k⟩:=akB hy;grind
   ·cases c
  ·cases c
 | agg xs=>simp only[Am.bR,akq,Prod.mk.injEq]at c;obtain⟨rfl,rfl⟩:=c;exact (RP.keep A e).jT
 | ip xs=>simp only[Am.bR,akq,Prod.mk.injEq]at c;obtain⟨rfl,rfl⟩:=c;exact RP.keep A e
 | fn f=>simp only[Am.bR,akq,Prod.mk.injEq]at c;obtain⟨rfl,rfl⟩:=c;exact RP.keep A e
 | box1 x v s o n =>
  simp only[Am.bR]at c;split at c
  ·rename_i d1 H l;simp only[akq,Prod.mk.injEq]at c;obtain⟨rfl,rfl⟩:=c;obtain⟨u',rfl,_,e⟩:=e;obtain⟨Q,K⟩:=p.eP l q (show RT w (Own M h blk) h blk V (.buf x v s o n) u' from e);refine .agg _ [u'] rfl (fun j x k =>?_) (fun x i =>?_)
   ·cases j with
    | zero=>simp only[List.getElem?_cons_zero,akq]at k;subst k;exact Q.canon
    | succ j=>simp at k
   ·simp only[akC]at i;rw[i,pr];exact K
  ·cases c
 | mpc R S=>simp only[Am.bR,akq,Prod.mk.injEq]at c;obtain⟨rfl,rfl⟩:=c;exact RP.keep A e
 | mp x v =>
  simp only[Am.bR]at c;split at c
  ·rename_i R S l;simp only[akq,Prod.mk.injEq]at c;obtain⟨rfl,rfl⟩:=c;exact p.WE l (q.no x (by simp)) A e
  ·cases c
 | pm x v y =>
  simp only[Am.bR]at c;split at c
  ·rename_i r m;split at c
   ·rename_i O T P;split at c
    ·rename_i C;obtain⟨c1,c2,rfl⟩:=C;split at c
     ·rename_i R S l;simp only[akq,Prod.mk.injEq]at c;obtain⟨rfl,rfl⟩:=c;obtain⟨i,I⟩:=cQ m;obtain⟨g,B,J⟩:=e.2 r i I;obtain⟨u',Q,K⟩:=p.ali x r g i c1 c2 B 0 (.alm O T) (.mp O T) (by rw[P];rfl) rfl;have k3:=p.WE l (q.no O (by simp)) A K;subst J;refine .ip _ _ (fun _=>u') (fun _=>⟨g.1,g.2+0,rfl,p.lt i B,q.no x (by simp) r g i B,fun j k =>?_⟩) (fun j z k =>?_) (fun z U =>?_)
      ·simp_all
      ·grind
      ·simp only[akC]at U;subst U;rfl
     ·cases c
    ·cases c
   ·cases c
  ·cases c
 | _=>exact one _ rfl c e
def FD{w:World}{M:Nat->Prop}{h:Nat->Option Row}{blk:Nat->Option (Nat×Nat)}{V:Nat->Nat->Prop}{d:D}{u:Value}(a:RC w M h blk V d u):RT w M h blk V d u:=by
 cases d with
 | ptr x v o=>exact a
 | mp x v=>exact a
 | pm x v y=>exact a
 | _=>exact b6 a
def Inv.ee(k:Inv N M L w0 blk V t h a w){l:Nat->Prop}:∀{e b:List D}{f:List Nat}{us:List Value},ee h e=some (b,f)->rU M h blk f l->us.length=e.length ->
  (∀j d,e[j]? = some d->RT w (Own M h blk) h blk V d (us.getD j undef))->us.length=b.length∧∀j d,b[j]? = some d->RP w l d (us.getD j undef)
 | [],b,f,us,c,g,hlen,i=>by
  simp only[Am.ee,akq,Prod.mk.injEq]at c;simp_all
 | d::e,b,f,us,c,g,hlen,i=>by
  simp only[Am.ee]at c;split at c
  ·rename_i d1 m n;split at c
   ·rename_i o p q;simp only[akq,Prod.mk.injEq]at c;obtain⟨rfl,rfl⟩:=c;cases us with
    | nil=>simp at hlen
    | cons u us =>
     have s:=k.bR n g.left (i 0 d rfl);obtain⟨v,x⟩:=k.ee q g.right (by simpa using hlen) (fun j d r=>by simpa using i (j+1) d (by simpa using r));grind
   ·cases c
  ·cases c
def Inv.cU(c:Inv N M L w0 blk V t h a w){d e:D}{g:List Nat}{u:Value}{i:Nat->Prop}(b:cU h d=some (e,g))(k:rU M h blk g i)(l:RT w (Own M h blk) h blk V d u):RP w i e u:=by
 cases d with
 | clo f m xs =>
  simp only[Am.cU]at b;split at b
  ·rename_i n o p;simp only[akq,Prod.mk.injEq]at b;obtain⟨rfl,rfl⟩:=b;obtain⟨q,r,s,v⟩:=l;subst r;obtain⟨x,y⟩:=c.ee p k s (fun j d z=>FD (v j d z));exact .clo f m n q x y
  ·cases b
 | _=>exact c.bR (by rw[<- b];rfl) k l
def Inv.bZ(k:Inv N M L w0 blk V t h a w){l:Nat->Prop}:∀{e b:List D}{f:List Nat}{us:List Value},bZ h e=some (b,f)->rU M h blk f l->us.length=e.length ->
  (∀j d,e[j]? = some d->RT w (Own M h blk) h blk V d (us.getD j undef))->us.length=b.length∧∀j d,b[j]? = some d->RP w l d (us.getD j undef)
 | [],b,f,us,c,g,hlen,i=>by
  simp only[Am.bZ,akq,Prod.mk.injEq]at c;simp_all
 | d::e,b,f,us,c,g,hlen,i=>by
  simp only[Am.bZ]at c;split at c
  ·rename_i d1 m n;split at c
   ·rename_i o p q;simp only[akq,Prod.mk.injEq]at c;obtain⟨rfl,rfl⟩:=c;cases us with
    | nil=>simp at hlen
    | cons u us =>
     have s:=k.cU n g.left (i 0 d rfl);obtain⟨v,x⟩:=k.bZ q g.right (by simpa using hlen) (fun j d r=>by simpa using i (j+1) d (by simpa using r));grind
   ·cases c
  ·cases c
def Inv.gD(s:Inv N M L w0 blk V t h a w){d:D}{c:List D}{f:List Nat}{u:Value}{k:Nat->Prop}(n:gD h d=some (c,f))(r:rU M h blk f k)(o:RT w (Own M h blk) h blk V d u) :
  u.cells.size=c.length∧∀j x,c[j]? = some x->bu x=true∧RP w k x (u.cells.getD j undef):=by
 have v:∀b,b<w.heap.size->¬Own M h blk b->b<w.heap.size∧¬k b∧w.heap[b]? = w.heap[b]?:=fun b g h2=>⟨g,fun y=>h2 (r.le b y),rfl⟩;have one:∀d,(∀l,d ≠ .agg l)->Am.gD h d=some (c,f)->RT w (Own M h blk) h blk V d u->u.cells.size=c.length∧∀j x,c[j]? = some x->bu x=true∧RP w k x (u.cells.getD j undef):=by
  intro d z n o;have:∃i,Am.eP h d=some (i,f)∧c=[i]:=by
   have e:Am.gD h d=match Am.eP h d with|some (i,f)=>some ([i],f)|none=>none:=by
    cases d<;>first|rfl|simp_all
   grind
  obtain⟨i,g,rfl⟩:=this;obtain⟨h2,p⟩:=s.eP g r o;rw[h2.cells p];refine⟨rfl,fun j x m =>?_⟩;cases j with
  | zero=>simp_all
  | succ j=>simp at m
 cases d with
 | agg l =>
  simp only[Am.gD,akq,Prod.mk.injEq]at n;obtain⟨rfl,rfl⟩:=n;have q:RP w (Own M h blk) (.agg l) u:=o;cases q with
  | agg l us g h2 p =>
   refine⟨by simp[Value.cells,g],fun j x m=>⟨p x (akG m),?_⟩⟩;have:=(h2 j x m).keep v;simpa [Value.cells] using this
 | _=>grind
end
def sR(g o j:Nat):(⟨g,o,none⟩:Addr).add j=⟨g,o+j,none⟩:=by grind[Addr.add]
def At(w:World)(M:Nat->Prop)(g o:Nat)(a:List D):Prop:=∀j x,a[j]? = some x->bu x=true∧∃v,w.cell? ⟨g,o+j,none⟩=some v∧RP w M x v
def At.drop{w:World}{M:Nat->Prop}{g o:Nat}{a:List D}(h:At w M g o a)(k:Nat):At w M g (o+k) (a.drop k):=by
 intro j x b;rw[akE]at b;obtain⟨c,v,d,e⟩:=h _ _ b;grind
def At.take{w:World}{M:Nat->Prop}{g o:Nat}{b:List D}(h:At w M g o b)(k:Nat):At w M g o (b.take k):=by
 intro j x a;rw[akH]at a;split at a
 ·exact h _ _ a
 ·cases a
def At.DF{w:World}{M:Nat->Prop}{g o:Nat}{b:List D}(h:At w M g o b) :
  ∃d:List Value,d.length=b.length∧(∀j u,d[j]? = some u->w.cell? ⟨g,o+j,none⟩=some u)∧(∀j x,b[j]? = some x->RP w M x (d.getD j undef))∧(∀x∈b,bu x=true):=by
 refine⟨(List.range b.length).map fun j=>(w.cell? ⟨g,o+j,none⟩).getD undef,by simp,fun j u c =>?_,fun j x c =>?_,fun x e =>?_⟩
 ·obtain⟨a,f⟩:=akI.1 c;simp only[akJ,akK]at a;simp only[List.getElem_map,List.getElem_range]at f;obtain⟨_,v,i,_⟩:=h j _ (aku a);simp_all
 ·have a:j<b.length:=(akI.1 c).1;obtain⟨_,v,i,k⟩:=h j x c;simp_all
 ·obtain⟨j,c⟩:=akB e;exact (h j x c).1
section
variable {P:Program} {T:Nat->Option Ty}
def ox{a:Nat}{τ:Ty}(b:eG P a τ)(w:World):(isAgg a).run P w=.ok τ.ds.vp w:=by
 obtain⟨d,i,z,c,e,f,g,h,j,k⟩:=b.get;rw[<- e];simp only[isAgg,akL,run_underlying c,Result.andThen_ok]<;>cases d<;>rfl
def run_sizeOf{a:Nat}{τ:Ty}(b:eG P a τ)(w:World):(sizeOf a).run P w=.ok τ.size w:=by
 obtain⟨d,i,z,f,g,c,e,h,j,k⟩:=b.get;simp[Go.sizeOf,typeInfo,c,e]
def kU{a:Nat}{τ:Ty}(b:eG P a τ)(w:World):∃z,(zeroValue a).run P w=.ok z w∧z.cells=τ.zero.toArray:=by
 obtain⟨d,i,z,c,e,f,g,h,j,k⟩:=b.get;simp_all[zeroValue,typeInfo]
def mG{b:Nat}{τ:Ty}(c:eG P b τ)(w:World)(g o:Nat)(us:List Value)(e:us.length=τ.size)(d:∀j u,us[j]? = some u->w.cell? ⟨g,o+j,none⟩=some u)
  (f:τ.ds.vp=false->us.length=1):(loadVar b ⟨g,o,none⟩).run P w=.ok (if τ.ds.vp then .agg us.toArray else us.getD 0 undef) w:=by
 simp only[loadVar,akL,ox c,Result.andThen_ok];cases h:τ.ds.vp with
 | true =>
  have:=run_loadCells_list (P:=P) w ⟨g,o,none⟩ us (fun j v i=>by rw[sR];exact d j v i);rw[e]at this;simp[run_sizeOf c,this]
 | false =>
  have a:=f h
  match us,a with
  | [u],_ =>
   have:=d 0 u rfl;simp_all
variable {N:Nat} {M:Nat->Prop} {L:kz} {w0:World} {blk:Nat->Option (Nat×Nat)} {V:Nat->Nat->Prop} {t:Nat->D} {h:Nat->Option Row} {a:Act} {w:World} {e:Nat} {o:Oper} {Γ:Env}
def bs(N:Nat)(M:Nat->Prop)(L:kz)(w0:World)(V:Nat->Nat->Prop)(t:Nat->D)(h:Nat->Option Row)(a:Act)(e:Nat)(c:Option Nat)(E:cv)(v:Value)(d:World):Prop :=
 ∃b,Inv N M L w0 b (fun x n=>V x n∨(c=some x∧n=e)) t (aW h E.hw) a d ∧
  RT d (Own M (aW h E.hw) b) (aW h E.hw) b (fun x n=>V x n∨(c=some x∧n=e)) E.val v
def bs.eL(g:Inv N M L w0 blk V t h a w){d:D}{v:Value}{b:Option Nat}(i:RT w (Own M h blk) h blk V d v):bs N M L w0 V t h a e b ⟨d,[]⟩ v w :=
 ⟨blk,g.weaken fun _ _ h =>.inl h,i.mono ⟨fun _ c f=>⟨c,f,rfl⟩,fun _ _ h =>.inl h,fun _ _ _ j c f=>⟨⟨j,c,f⟩,rfl,fun _ _=>rfl⟩⟩⟩
def bs.M4(f:Inv N M L w0 blk V t h a w){d:D}{v:Value}{b:Option Nat}(c:List Nat)(g:RP w (Own M (aW h (kE h c)) blk) d v):bs N M L w0 V t h a e b ⟨d,kE h c⟩ v w :=
 ⟨blk,(f.freeze c).weaken fun _ _ h =>.inl h,b6 g⟩
def aP{v:Value}{w':World}{Φ:Value->World->Prop}(b:(execOp a.eval o).run P w=.ok (.value v) w')(c:Φ v w'):ff P o a w Φ:=.inl ⟨v,w',b,c⟩
def Kv(c:Inv N M L w0 blk V t h a w){x:Operand}(b:o.op=.move x∨o.op=.assign x):ff P o a w (bs N M L w0 V t h a e o.dst ⟨ev t x,[]⟩):=by
 refine aP (v:=a.eval x) (w':=w) ?_ (bs.eL c (c.ev x));rcases b with b|b<;>simp[execOp,b]
theorem D6(k:Inv N M L w0 blk V t h a w){p:Nat}{x:Operand}{E:cv}(D:o.op=.assign x)(F:∀d,o.dst=some d->ky N V d e)(b:dH T p e o.dst h (ev t x)=some E):ff P o a w (bs N M L w0 V t h a e o.dst E):=by
 have G:=k.ev x;have i:E=⟨ev t x,[]⟩->ff P o a w (bs N M L w0 V t h a e o.dst E):=fun h=>by subst h;exact Kv k (.inr D)
 generalize ev t x=q at *;have f:(execOp a.eval o).run P w=.ok (.value (a.eval x)) w:=by simp[execOp,D]
 cases q with
 | buf y v s c n =>
  simp only[dH]at b;split at b
  ·rename_i d r l z;split at b
   ·simp_all
   ·rename_i H;simp only[Bool.not_eq_true]at H;simp only[akq]at b;subst b;obtain⟨I,O⟩:=cQ z;have j:=k.aaa (w':=w) (h1:=forget h (some y)) (old:=some y) (d:=d) (e:=e) (ty:=r.ty) (lst:=r.lst) (fz:=r.fz) (hfz:=H) (go:=blk y) (cs:=r.cells) rfl rfl rfl (aki _) (fun _ _ _=>rfl)
     (fun Q m=>by simp_all) rfl (F d l) (by
      have:=(k.rows y r I).2;cases K:blk y with
      | none=>rw[K]at this;exact this
      | some g =>
       rw[K]at this;have B:=this.2;unfold eJ at B;rw[jz z]at B;obtain⟨J,Z,k2,k3⟩:=B;grind)
    have R:({ r with v:=e }:Row)=⟨e,r.ty,r.cells,r.fz,r.lst,false⟩:=by rw[<- jz z]
    rw[R];refine aP f ⟨ca blk d (blk y),?_,?_⟩
    ·show Inv _ _ _ _ _ _ _ (ca (ca h y none) d (some _)) _ _;refine j.weaken fun x v S =>?_;grind
    ·refine⟨.inr ⟨l,rfl⟩,fun U _ _ =>?_⟩;rw[aB];exact G.2 r I O
  ·split at b
   ·simp_all
   ·simp only[akq]at b;subst b;exact aP f ⟨blk,k.weaken fun _ _ h =>.inl h,trivial⟩
 | sl nl tight n xs =>
  unfold dH at b;split at b
  ·simp_all
  ·rename_i W;cases W;split at b
   ·rename_i d τ l hτ;split at b
    ·rename_i el X;split at b
     ·rename_i φ hφ;simp only[akq]at b;subst b;have Y:a.eval x=.slice none 0 0:=by
       have C:RP w (Own M h blk) (.sl true true 0 []) (a.eval x):=G;generalize a.eval x=u at *;cases C with
       | sl A c nl tight n xs us h1 h2 h3 h4 h5 h6 h7 h8=>simp_all
      have j:=k.aaa (w':=w) (h1:=forget h none) (old:=none) (d:=d) (e:=e) (ty:=el) (lst:=true) (fz:=false) (go:=none) (cs:=[]) rfl rfl rfl (aki _) (fun _ _ _=>rfl)
       (fun Q m=>by cases m) rfl (F d l) rfl
      refine aP f ⟨ca blk d none,?_,?_⟩
      ·refine j.weaken fun x v S =>?_;grind
      ·refine⟨.inr ⟨l,rfl⟩,fun U _ _ =>.inr ⟨aB _ _ _,rfl,none,Y⟩⟩
     ·cases b
    ·cases b
   ·cases b
  simp_all
 | _=>exact i (by simp only[dH,akq]at b;exact b.symm)
def aaR(c:Inv N M L w0 blk V t h a w){g:Nat}{q:Nat->Bool}{x:Operand}{E:cv}(i:o.op=.assign x)(l:∀d,o.dst=some d->ky N V d e)(b:uM T q g e o.dst h (ev t x)=some E):ff P o a w (bs N M L w0 V t h a e o.dst E):=by
 have j:=c.ev x;unfold uM at b;split at b
 ·rename_i d m;split at b
  ·grind[D6]
  ·unfold oV at b;split at b
   ·rename_i n f k;simp only[akq]at b;subst b;exact aP (v:=a.eval x) (w':=w) (by simp[execOp,i]) (bs.M4 c f (c.sY k (c.gU f) j).jT)
   ·cases b
 grind[D6]
def y7{b:Bool}{u:Value}{h:Nat->Option Row}(a:RT w M h blk V (.bool b) u):u=.bool b:=by
 have c:RP w M (.bool b) u:=a;cases c;rfl
def oP{k:IntKind}{n:Int}{u:Value}{h:Nat->Option Row}(a:RT w M h blk V (.int k n) u):u=.int k n:=by
 have b:RP w M (.int k n) u:=a;cases b;rfl
def FF{s:ByteArray}{u:Value}{h:Nat->Option Row}(a:RT w M h blk V (.str s) u):u=.string s:=by
 have b:RP w M (.str s) u:=a;cases b;rfl
def Kw(d:Inv N M L w0 blk V t h a w){c x y:Operand}{b:Bool}(g:o.op=.pick c x y)(i:ev t c=.bool b):ff P o a w (bs N M L w0 V t h a e o.dst ⟨ev t (if b then x else y),[]⟩):=by
 refine aP (v:=a.eval (if b then x else y)) (w':=w) ?_ (bs.eL d (d.ev _));have f:=d.ev c;rw[i]at f;have j:=y7 f;cases b<;>simp[execOp,g,j,asBool]
def tP(a:List Value)(g:(a.map qL).all bu=true){w:World}{M:Nat->Prop}(j:Nat)(x:D)(b:(a.map qL)[j]? = some x):bu x=true∧RP w M x (a.toArray.getD j undef):=by
 have f:bu x=true:=by
  grind
 refine⟨f,?_⟩;rw[akf]at b;cases c:a[j]? with
 | none=>simp[c]at b
 | some v =>
  simp only[c,Option.map_some,akq]at b;subst b;have e:a.toArray.getD j undef=v:=by simp[c]
  rw[e];have:=Z2 w M (fun _=>none) (fun _=>none) (fun _ _=>True) v;generalize qL v=d at *;cases d<;>first|exact this|simp[bu]at f
def FE{d e:Nat}{g:Nat×Nat}{o:Nat}{b:Nat->Nat->Prop}{c:Nat->Option Row}{a:Nat->Option (Nat×Nat)}(f:b d e)(h:a d=some g):RT w M c a b (.ptr d e o) (.pointer (some ⟨g.1,g.2+o,none⟩)) :=
 ⟨f,fun _ _ _=>⟨g,h,rfl⟩⟩
def Tt{hint:Nat->Option Nat}(l:jL P T)(m:Inv N M L w0 blk V t h a w){b d:Nat}{τ:Ty}(n:o.op=.alloc b)(k:o.dst=some d)(p:T b=some τ)(q:ky N V d e)(r:(τ.zero.map qL).all bu=true) :
  ff P o a w (bs N M L w0 V t h a e o.dst ⟨match hint d with|some y =>.pm d e y|none =>.ptr d e 0,[(d,some ⟨e,b,τ.zero.map qL,false,false,false⟩)]⟩):=by
 obtain⟨z,c,f⟩:=kU (l b τ p) w;have i:=m.alloc (d:=d) (e:=e) (ty:=b) (lst:=false) (cs:=τ.zero.map qL) (vs:=τ.zero.toArray) q (by simp) (fun j x s=>tP τ.zero r j x s);refine aP (v:=.pointer (some ⟨w.heap.size,0,none⟩)) (w':=w.alloc (.cells τ.zero.toArray b)) ?_ ⟨ca blk d (some (w.heap.size,0)),?_,?_⟩
 ·simp[execOp,n,Instr.alloc,c,newVar,newRow,f]
 ·refine i.weaken fun x v u =>?_;grind
 ·cases hint d with
  | none=>exact FE (g:=(w.heap.size,0)) (o:=0) (.inr ⟨k,rfl⟩) (aB _ _ _)
  | some y=>exact⟨.inr ⟨k,rfl⟩,fun _ _ _=>⟨(w.heap.size,0),aB _ _ _,rfl⟩⟩
def CM{a:List Nat}{x:Nat}(b:a.contains x=false):aW h (kE h a) x=h x:=by
 simp_all[CL,if_neg]
def aaT(i:Inv N M L w0 blk V t h a w){b d:Nat}{x:Operand}{c:List D}{f:List Nat}(j:o.op=.box b x)(k:o.dst=some d)(l:ky N V d e)(m:gD h (ev t x)=some (c,f)) :
  ff P o a w (bs N M L w0 V t h a e o.dst ⟨.ptr d e 0,kE h f++[(d,some ⟨e,b,c,false,false,false⟩)]⟩):=by
 obtain⟨q,n⟩:=i.gD m (i.gU f) (i.ev x);have p:=(i.freeze f).alloc (d:=d) (e:=e) (ty:=b) (lst:=false) (cs:=c) (vs:=(a.eval x).cells) l (by omega) n;refine aP (v:=.pointer (some ⟨w.heap.size,0,none⟩)) (w':=w.alloc (.cells (a.eval x).cells b)) ?_ ⟨ca blk d (some (w.heap.size,0)),?_,?_⟩
 ·simp[execOp,j,Instr.box,newVar,newRow]
 ·show Inv _ _ _ _ _ _ _ (aW h (kE h f++[(d,some ⟨e,b,c,false,false,false⟩)])) _ _;rw[iM];grind
 ·exact FE (g:=(w.heap.size,0)) (o:=0) (.inr ⟨k,rfl⟩) (aB _ _ _)
def Inv.rowAt(c:Inv N M L w0 blk V t h a w){x:Nat}{r:Row}{g:Nat×Nat}(e:h x=some r)(f:blk x=some g)(b:r.mp=false):At w (Own M h blk) g.1 g.2 r.cells:=by
 obtain⟨i,k,l,m⟩:=c.Hh e f b;intro j d n;grind[undef,List.getElem?_eq_some_iff,bf]
def RP.ahG{M':Nat->Prop}{a:List D}{u:Value}(f:RP w M' (.ip a) u):∃c,u=.pointer (some c)∧(a≠[]->∃b o,c=⟨b,o,none⟩∧At w M' b o a):=by
 cases f with
 | ip a c us h6 h7 h8 =>
  refine⟨c,rfl,fun d =>?_⟩;obtain⟨b,o,rfl,_,_,g⟩:=h6 d;exact⟨b,o,rfl,fun j x e=>⟨h8 x (akG e),us j,g j (akI.1 e).1,h7 j x e⟩⟩
theorem ug(q:jL P T)(r:Inv N M L w0 blk V t h a w){i:Nat}{p:Operand}{τ:Ty}{g c:Nat}{xs:List D}{d:D}(s:o.op=.load i p)(u:T i=some τ)(x:a.eval p=.pointer (some ⟨g,c,none⟩))
  (j:At w (Own M h blk) g c xs) (y:xs.length=τ.size) (k:lL τ xs=some d):ff P o a w (bs N M L w0 V t h a e o.dst ⟨d,[]⟩):=by
 obtain⟨f,l,z,A,B⟩:=j.DF;have m:τ.ds.vp=false->xs.length=1∧xs=[d]:=by
  intro n;simp only[lL,n,akN,if_false]at k;grind
 have b:=mG (q i τ u) w g c f (by rw[l,y]) z (fun n=>by simp_all);refine aP (v:=if τ.ds.vp then .agg f.toArray else f.getD 0 undef) (w':=w) ?_ (bs.eL r ?_)
 ·simp[execOp,s,Instr.loadAt,Instr.sureAddr,x,b]
 ·apply b6;cases C:τ.ds.vp with
  | true =>
   simp only[lL,C,if_true,akq]at k;subst k;exact .agg xs f l A B
  | false =>
   grind
def MO(F:jL P T)(k:Inv N M L w0 blk V t h a w){l:Nat}{p:Operand}{τ:Ty}{x c:Nat}{r:Row}{g:Nat×Nat}{d:D}(G:o.op=.load l p)(H:T l=some τ)(I:a.eval p=.pointer (some ⟨g.1,g.2+c,none⟩))
  (B:h x=some r) (m:r.mp=false) (J:r.fz=true) (K:r.lst=false) (C:blk x=some g) (O:c+τ.size<=r.cells.length) (b:afW τ.ds.vp ((r.cells.drop c).take τ.size)=some d):ff P o a w (bs N M L w0 V t h a e o.dst ⟨d,[]⟩):=by
 have f:((r.cells.drop c).take τ.size).length=τ.size:=by simp;omega
 generalize q:(r.cells.drop c).take τ.size=cs at b f;unfold afW at b;split at b
 ·rename_i y v s z n;simp only[akq]at b;have Q:τ.size=1:=by simp_all
  have A:r.cells[c]? = some (.ali y v s z n):=by
   have:((r.cells.drop c).take τ.size)[0]? = some (.ali y v s z n):=by rw[q];rfl
   grind
  obtain⟨u,R,S⟩:=k.ali x r g B J K C c _ (.buf y v s z n) A rfl;have i:=mG (F l τ H) w g.1 (g.2+c) [u] (by omega) (fun j v A=>by
   grind) (fun _=>rfl)
  refine aP (v:=if τ.ds.vp then .agg [u].toArray else [u].getD 0 undef) (w':=w) ?_ (bs.eL k ?_)
  ·simp[execOp,G,Instr.loadAt,Instr.sureAddr,I,i]
  ·cases U:τ.ds.vp with
   | false =>
    simp_all
   | true =>
    rw[U]at b;simp only[if_true]at b;subst b;obtain⟨_,Y,E,W⟩:=k.rowAt B C m c _ A;rw[R]at E;cases E;exact⟨u,rfl,W.sn rfl,S⟩
 ·cases b
def Ya(u:jL P T)(l:Inv N M L w0 blk V t h a w){m:Nat}{p:Operand}{τ:Ty}{E:cv}(A:o.op=.load m p)(y:T m=some τ)(f:fO τ h (ev t p)=some E):ff P o a w (bs N M L w0 V t h a e o.dst E):=by
 have B:=l.ev p;generalize ev t p=q at *;cases q with
 | ptr x v c =>
  simp only[fO]at f;split at f
  ·rename_i r C;split at f
   ·rename_i i;split at f
    ·rename_i d n;simp only[akq]at f;subst f;obtain⟨s,G⟩:=cQ C;obtain⟨g,H,I⟩:=B.2 r s G;have:=((l.rowAt s H (jz C)).drop c).take τ.size;grind[ug]
    ·cases f
   ·cases f
  ·cases f
 | ip xs =>
  simp only[fO]at f;split at f
  ·rename_i i;split at f
   ·rename_i d n;simp only[akq]at f;subst f;obtain⟨R,D,J⟩:=RP.ahG (M':=Own M h blk) B
    by_cases k:xs=[]
    ·subst k;have K:τ.size=0:=by simpa using i
     have F:τ.ds.vp=true:=by
      grind[lL]
     have z:=run_sizeOf (u m τ y) w;refine aP (v:=.agg #[]) (w':=w) ?_ (bs.eL l ?_)
     ·simp[execOp,A,Instr.loadAt,Instr.sureAddr,D,loadVar,ox (u m τ y),F,z,K,loadCells,loadCellsFrom]
     ·simp only[lL,F,if_true,List.take_nil,akq]at n;subst n;exact b6 (.agg [] [] rfl (fun j x O=>by simp at O) (fun x s=>by simp at s))
    ·obtain⟨b,c,rfl,Q⟩:=J k;exact ug u l A y D (At.take Q _) (by simp;omega) n
   ·cases f
  ·cases f
 | _=>simp[fO]at f
def AW{h:Nat->Option Row}{x v:Nat}{r:Row}{y s n:Nat}(a:vr h x v=some (r,y,s,n)):h x=some r∧r.v=v∧r.mp=true∧r.cells=[.ph y s n]:=by
 unfold vr at a;grind
def aaW(X:jL P T)(z:Inv N M L w0 blk V t h a w){I:Nat}{p:Operand}{τ:Ty}{x v y:Nat}{E:cv}(Y:o.op=.load I p)(Z:T I=some τ)(hp:RT w (Own M h blk) h blk V (.pm x v y) (a.eval p))(i:Az τ h x v y (vr h x v)=some E):ff P o a w (bs N M L w0 V t h a e o.dst E):=by
 cases J:vr h x v with
 | none=>rw[J]at i;cases i
 | some q =>
  obtain⟨R,B,s,n⟩:=q;rw[J]at i;simp only[Az]at i;obtain⟨S,hv,K,O⟩:=AW J;split at i
  ·rename_i r F;split at i
   ·rename_i m;obtain⟨rfl,c2,c3,c4,c5,c6⟩:=m;simp only[akq]at i;subst i;obtain⟨g,hg,G⟩:=hp.2 R S hv;obtain⟨_,u,U,h2⟩:=z.pha x R g S K hg 0 _ _ _ (by rw[O];rfl);have k:=mG (X I τ Z) w g.1 (g.2+0) [u] (by simpa using c6.symm) (fun j v l=>by
     grind) (fun _=>rfl)
    have f:=z.gU [B];have hk:∀b,b<w.heap.size->¬Own M h blk b->b<w.heap.size∧¬Own M (aW h (kE h [B])) blk b∧w.heap[b]? = w.heap[b]?:=fun b U h2=>⟨U,fun hb=>h2 (f.le b hb),rfl⟩;have Q:RP w (Own M (aW h (kE h [B])) blk) (.sl false false n r.cells) u:=by
     rcases h2 r F with⟨C,c,N',aa,H,rfl,g2,g3,g4,g5⟩|⟨H,rfl,A,rfl⟩
     ·obtain⟨arr,k1,k2,W⟩:=z.Hh F H c3;refine .sl (some ⟨C.1,C.2,none⟩) c false false n _ (fun j=>arr.getD (C.2+j) undef) g3 g4 (fun h=>by cases h) (fun h=>by cases h) (fun h=>by cases h) (fun _=>⟨C.1,C.2,rfl,z.lt F H,f.no B (by simp) r C F H,fun j l=>bf k1 (by omega)⟩) (fun j d l=>(W j d l).2.keep hk) (fun d D =>?_);obtain⟨j,l⟩:=akB D;exact (W j d l).1
     ·have:=(z.rows B r F).2;rw[H]at this;have hc:r.cells=[]:=this;rw[hc];exact .sl A 0 false false 0 [] (fun _=>undef) (aki _) (akj _) (fun h=>by cases h) (fun _=>⟨rfl,rfl⟩) (fun h=>by cases h) (fun h=>absurd rfl h) (fun j d l=>by simp at l) (fun d D=>by simp at D)
    simp only[Nat.add_zero]at k G;refine aP (v:=if τ.ds.vp then .agg [u].toArray else [u].getD 0 undef) (w':=w) ?_ (bs.M4 z [B] ?_)
    ·simp[execOp,Y,Instr.loadAt,Instr.sureAddr,G,k]
    ·cases hA:τ.ds.vp with
     | false=>exact Q
     | true =>
      refine .agg [_] [u] rfl (fun j d l =>?_) (fun d D =>?_)
      ·grind
      ·simp only[akC]at D;subst D;rfl
   ·cases i
  ·cases i
def adT(A:jL P T)(n:Inv N M L w0 blk V t h a w){D:Nat}{p:Operand}{τ:Ty}{E:cv}(B:o.op=.load D p)(C:T D=some τ)(b:s7 τ h (ev t p)=some E):ff P o a w (bs N M L w0 V t h a e o.dst E):=by
 have F:=n.ev p;have f:=Ya (P:=P) (o:=o) (e:=e) (E:=E) A n B C;generalize ev t p=q at *;cases q with
 | ptr x v c =>
  simp only[s7]at b;cases s:live h x v with
  | none=>rw[s]at b;cases b
  | some r =>
   rw[s]at b;simp only[uN]at b;split at b
   ·rename_i l;simp only[akP,Bool.not_eq_true']at l;split at b
    ·rename_i G;split at b
     ·rename_i d H;simp only[akq]at b;subst b;obtain⟨z,I⟩:=cQ s;obtain⟨g,J,k⟩:=F.2 r z I;exact MO A n B C k z (jz s) l.1 l.2 J G H
     ·exact f b
    ·cases b
   ·exact f b
 | pm x v y =>
  simp only[s7]at b;split at b
  ·rename_i r s;split at b
   ·rename_i O Q K;split at b
    ·rename_i m;obtain⟨R,S,U,W⟩:=m;simp only[akq]at b;subst b;obtain⟨z,I⟩:=cQ s;obtain⟨g,J,k⟩:=F.2 r z I;obtain⟨u,Y,X⟩:=n.ali x r g z R S J 0 (.alm O Q) (.mp O Q) (by rw[K];rfl) rfl;have i:=mG (A D τ C) w g.1 (g.2+0) [u] (by simpa using U.symm) (fun j v Z=>by
      grind) (fun _=>rfl)
     refine aP (v:=u) (w':=w) ?_ (bs.eL n X);rw[W]at i;simp only[Nat.add_zero]at i k;simp[execOp,B,Instr.loadAt,Instr.sureAddr,k,i]
    ·cases b
   ·cases b
  ·exact aaW A n B C F b
 | _=>exact f b
def uH(a:Array Value)(b:List Value)(c j:Nat)(e:c+b.length<=a.size) :
  (a.toList.take c++b++a.toList.drop (c+b.length)).toArray.getD j undef=if j<c then a.getD j undef else if j<c+b.length then b.getD (j-c) undef else a.getD j undef:=by
 have d:min c a.size=c:=by omega
 simp only[akm,List.getElem?_toArray,akQ];grind
def ow{cells a:List D}{c j:Nat}(d:c+a.length<=cells.length):(putCells cells c a)[j]? = if j<c then cells[j]? else if j<c+a.length then a[j-c]? else cells[j]?:=by
 have b:min c cells.length=c:=by omega
 unfold putCells;grind
def kI{cells a:List D}{c:Nat}(b:c+a.length<=cells.length):(putCells cells c a).length=cells.length:=by
 simp[putCells];omega
def spliced{w:World}{M:Nat->Prop}{cells a:List D}{cur:Array Value}{e:List Value}{b c:Nat}(f:c+a.length<=cells.length)(g:e.length=a.length)(h:b+cells.length<=cur.size)
  (k:∀j d,cells[j]? = some d->bu d=true∧RP w M d (cur.getD (b+j) undef)) (l:∀j d,a[j]? = some d->bu d=true∧RP w M d (e.getD j undef)) (j:Nat) (d:D) (i:(putCells cells c a)[j]? = some d) :
  bu d=true∧RP w M d ((cur.toList.take (b+c)++e++cur.toList.drop (b+c+e.length)).toArray.getD (b+j) undef):=by
 rw[ow f]at i;rw[uH _ _ _ _ (by omega),g];grind
def Hg(b:Bool)(a:List D):(uC b a).length=a.length:=by cases b<;>simp[uC]
def Un{w:World}{M:Nat->Prop}{c:List D}{e:List Value}{b:Bool}(f:∀j d,c[j]? = some d->bu d=true∧RP w M d (e.getD j undef))(j:Nat)(d:D)(a:(uC b c)[j]? = some d):bu d=true∧RP w M d (e.getD j undef):=by
 cases b with
 | false=>exact f j d a
 | true =>
  simp only[uC,if_true,akf,akg]at a;obtain⟨x,g,rfl⟩:=a;obtain⟨h,i⟩:=f j x g;exact⟨by rw[pr];exact h,i.canon⟩
def TB(U:jL P T)(m:Inv N M L w0 blk V t h a w){B:Nat}{p x:Operand}{τ:Ty}{E:cv}(W:o.op=.store B p x)(X:T B=some τ)(f:ig τ h (ev t p) (ev t x)=some E):ff P o a w (bs N M L w0 V t h a e o.dst E):=by
 have Y:=m.ev p;have Z:=m.ev x;generalize ev t p=q at *;generalize ev t x=z at *;cases q with
 | ptr y v c =>
  simp only[ig]at f;split at f
  ·rename_i r C;split at f
   ·rename_i A D hc;split at f
    ·rename_i l;obtain⟨c1,c2,c3,c4⟩:=l;simp only[akq]at f;subst f;obtain⟨J,F⟩:=cQ C;obtain⟨g,K,G⟩:=Y.2 r J F;have n:aW h (kE h D) y=some r:=by rw[CM c4];exact J
     have s:=m.freeze D;obtain⟨u1,O⟩:=m.gD hc (m.gU D) Z;obtain⟨b,Q,R,h5⟩:=s.Hh n K (jz C);have i:=run_storeCells_at P g.1 (g.2+c) r.ty (a.eval x).cells.toList 0 b w Q (by grind) (fun v F=>by
      obtain⟨j,u⟩:=akB F;have H:=(akI.1 u).1;simp only[Array.length_toList]at H;obtain⟨q1,S⟩:=O j _ (aku (by omega));have:(a.eval x).cells.getD j undef=v:=by simp_all
      rw[this]at S;exact S.sn q1)
     rw[akO]at i;have aa:(a.eval x).cells.toList.length=A.length:=by omega
     have k:(b.toList.take (g.2+c)++(a.eval x).cells.toList++b.toList.drop (g.2+c+(a.eval x).cells.toList.length)).toArray.size=b.size:=by
      simp;omega
     have ab:=Hg r.lst A;have hw:=s.write n c3 K (jz C) (cs:=putCells r.cells c (uC r.lst A)) Q k (by rw[k,kI (by omega)];exact R)
      (fun j d u=>spliced (by omega) (by omega) R h5 (Un (fun j d u=>by simpa [List.getD] using O j d u)) j d u)
     refine .inr (.inl ⟨w.setRow g.1 (b.toList.take (g.2+c)++(a.eval x).cells.toList++b.toList.drop (g.2+c+(a.eval x).cells.toList.length)).toArray,?_,blk,?_,trivial⟩)
     ·have I:(a.eval x).cells.size=τ.size:=by omega
      simp[execOp,W,Instr.storeAt,Instr.sureAddr,G,storeVar,run_sizeOf (U B τ X),I,i]
     ·rw[iM];exact hw.weaken fun _ _ h =>.inl h
    ·cases f
   ·cases f
  ·cases f
 | _=>simp[ig]at f
def Kx(O:jL P T)(G:Inv N M L w0 blk V t h a w){A:Nat}{p x:Operand}{τ:Ty}{y:Nat}{r:Row}{g:Nat×Nat}{c d:D}{i:Value}(Q:o.op=.store A p x)(R:T A=some τ)(S:τ.size=1)(c3:r.cells.length=1)(U:r.fz=false)(B:r.mp=false)
  (H:h y=some r) (u:blk y=some g) (C:a.eval p=.pointer (some ⟨g.1,g.2+0,none⟩)) (W:(a.eval x).cells = #[i]) (I:i.oneCell'=true) (X:alD c=some d) (Y:bu c=true) (Z:∀J M',RP J M' c i) (E:RT w (Own M h blk) h blk V d i) :
  ff P o a w (bs N M L w0 V t h a e o.dst ⟨.und,[(y,some ⟨r.v,r.ty,[c],true,false,false⟩)]⟩):=by
 obtain⟨f,F,h4,h5⟩:=G.Hh H u B;have k:=run_storeCells_at P g.1 (g.2+0) r.ty [i] 0 f w F (by simp;omega) (fun v hv=>by
  simp_all)
 rw[akO]at k;have l:f.size=(f.toList.take (g.2+0)++[i]++f.toList.drop (g.2+0+[i].length)).toArray.size:=by simp;omega
 have n:(f.toList.take (g.2+0)++[i]++f.toList.drop (g.2+0+[i].length)).toArray.getD g.2 undef=i:=by
  simp only[akm];grind
 generalize aa:(f.toList.take (g.2+0)++[i]++f.toList.drop (g.2+0+[i].length)).toArray=nv at k l n;have m:(w.setRow g.1 nv).heap[g.1]? = some (.cells nv r.ty (0,0)):=setRow_heap w g.1 f nv r.ty (0,0) F;have ab:(w.setRow g.1 nv).heap.size=w.heap.size:=by simp[World.setRow]
 have hheap:∀b,b≠g.1->(w.setRow g.1 nv).heap[b]? = w.heap[b]?:=by
  intro b K;simp only[World.setRow,akr];grind
 have hw:=G.rewrite (fz:=true) (lst:=false) (cs:=[c]) (w':=w.setRow g.1 nv) H U rfl rfl rfl (by omega) (fun b _ K=>hheap b (K g u)) (by
  rw[u];refine⟨by simp[World.shape?,m,F,l],nv,m,by simp;omega,fun j d z =>?_⟩;grind) (fun _ _ g' q j c' d' z s=>by
  rw[u]at q;cases q;cases j with
  | zero =>
   simp only[List.getElem?_cons_zero,akq]at z;subst z;rw[X]at s;cases s;refine⟨i,?_,E⟩;rw[akO,bf m (by omega),n]
  | succ j=>simp at z)
 refine .inr (.inl ⟨w.setRow g.1 nv,?_,blk,?_,trivial⟩)
 ·simp[execOp,Q,Instr.storeAt,Instr.sureAddr,C,storeVar,run_sizeOf (O A τ R),S,W,k]
 ·exact hw.weaken fun _ _ h =>.inl h
def Yd(hT:jL P T)(J:Inv N M L w0 blk V t h a w)(hP:∀x v,V x v->x<N∨2*PK<=x){Y:Nat}{p x:Operand}{τ:Ty}{y i Z K:Nat}{r q:Row}{g:Nat×Nat}{k:Value}(ho:o.op=.store Y p x)(hτ:T Y=some τ)(c1:τ.size=1)(c3:r.cells.length=1)(c4:r.fz=false)(aa:r.mp=false)
  (hx:h y=some r) (ab:y<N) (hg:blk y=some g) (ad:a.eval p=.pointer (some ⟨g.1,g.2+0,none⟩)) (hu:(a.eval x).cells = #[k]) (ar:k.oneCell'=true) (G:h i=some q) (ae:q.fz=false) (av:q.lst=true) (ag:q.mp=false) (O:y≠i)
  (l:(∃m o' c N' t,blk i=some m∧k=.slice (some ⟨m.1,o',none⟩) K c∧(0<c∨0=0->o'=m.2+0∧c*Z+o'=N')∧K<=c∧c<=maxLen∧w.shape? m.1=some (t,N'))∨(blk i=none∧K=0∧∃A,k=.slice A 0 0)) :
  ff P o a w (bs N M L w0 V t h a e o.dst ⟨.und,[(i,none),(PK+y,some ⟨0,q.ty,q.cells,false,true,false⟩),(y,some ⟨r.v,r.ty,[.ph (PK+y) Z K],false,false,true⟩)]⟩):=by
 obtain⟨f,h3,h4,h5⟩:=J.Hh hx hg aa;have u:=run_storeCells_at P g.1 (g.2+0) r.ty [k] 0 f w h3 (by simp;omega) (fun v hv=>by
  simp_all)
 rw[akO]at u;have B:f.size=(f.toList.take (g.2+0)++[k]++f.toList.drop (g.2+0+[k].length)).toArray.size:=by simp;omega
 have Q:(f.toList.take (g.2+0)++[k]++f.toList.drop (g.2+0+[k].length)).toArray.getD g.2 undef=k:=by
  simp only[akm];grind
 generalize aw:(f.toList.take (g.2+0)++[k]++f.toList.drop (g.2+0+[k].length)).toArray=nv at u B Q;have C:(w.setRow g.1 nv).heap[g.1]? = some (.cells nv r.ty (0,0)):=setRow_heap w g.1 f nv r.ty (0,0) h3;have ax:(w.setRow g.1 nv).heap.size=w.heap.size:=by simp[World.setRow]
 have hheap:∀b,b≠g.1->(w.setRow g.1 nv).heap[b]? = w.heap[b]?:=by
  intro b E;simp only[World.setRow,akr];grind
 have au:=J.big;have ay:PK=1000000:=rfl;have R:y≠PK+y:=by omega
 have ah:∀v,¬V (PK+y) v:=fun v hv=>by grind
 have F:=(J.rows i q G).2;have ai:∀b,Own M (forget h (some i)) blk b->Own M h blk b:=fun b E=>by
  rcases E with E|⟨z,r',m,S,aj,al,an⟩
  ·exact .inl E
  ·simp only[forget]at S
   by_cases U:z=i
   ·subst U;rw[aB]at S;cases S
   ·rw[aC _ _ U]at S;exact .inr ⟨z,r',m,S,aj,al,an⟩
 have hA:=J.aac (w':=w) (h1:=forget h (some i)) (old:=some i) (d:=PK+y) (r0:=⟨0,q.ty,q.cells,false,true,false⟩) (go:=blk i) (y0:=y) rfl rfl rfl (aki _) (fun _ _ _=>rfl) (fun y' az=>by simp_all) rfl rfl ab ah
  (fun r' W=>by
   simp only[forget]at W;rw[aC _ _ O,hx]at W;simp_all) (by
  cases E:blk i with
  | none=>rw[E]at F;exact F
  | some m =>
   obtain⟨ao,k1,k2,k3⟩:=J.Hh G E ag;refine⟨.inr ⟨i,m,rfl,E,rfl⟩,ao,k1,k2,fun j d I=>⟨(k3 j d I).1,(k3 j d I).2.keep fun b q1 q2=>⟨q1,?_,rfl⟩⟩⟩;rintro (hn|rfl)
   ·simp_all
   ·exact q2 (.inr ⟨i,q,m,G,ae,E,rfl⟩)) rfl
 have aq:ca (forget h (some i)) (PK+y) (some (⟨0,q.ty,q.cells,false,true,false⟩:Row)) y=some r:=by
  rw[aC _ _ R];simp only[forget];rw[aC _ _ O,hx]
 have H:ca blk (PK+y) (blk i) y=some g:=by rw[aC _ _ R,hg]
 have hB:=hA.lU (r0:=⟨r.v,r.ty,[.ph (PK+y) Z K],false,false,true⟩) (w':=w.setRow g.1 nv) aq c4 rfl rfl rfl rfl (by omega) (fun b _ E=>hheap b (E g H)) (by
  rw[H];refine⟨by simp[World.shape?,C,h3,B],.inr ⟨fun d hd=>by simp only[akC]at hd;subst hd;rfl,nv,C,by simp;omega,fun j d I =>?_⟩⟩;cases j with
  | zero=>simp only[List.getElem?_cons_zero,akq]at I;subst I;trivial
  | succ j=>simp at I) (fun h=>by cases h) (fun _ m X j x' s n hc=>by
  rw[H]at X;cases X;cases j with
  | succ j=>simp at hc
  | zero =>
  simp only[List.getElem?_cons_zero,akq,D.ph.injEq]at hc;obtain⟨rfl,rfl,rfl⟩:=hc;refine⟨⟨by omega,.inl rfl⟩,k,by rw[akO,bf C (by omega),Q],fun r' _ =>?_⟩;rw[aB];rcases l with⟨m,o',c,N',t,k0,k1,k2,k3,k4,k5⟩|l
  ·grind
  ·exact .inr l)
 refine .inr (.inl ⟨w.setRow g.1 nv,?_,ca blk (PK+y) (blk i),?_,trivial⟩)
 ·simp[execOp,ho,Instr.storeAt,Instr.sureAddr,ad,storeVar,run_sizeOf (hT Y τ hτ),c1,hu,u]
 ·exact hB.weaken fun _ _ h =>.inl h
def aa2(I:jL P T)(m:Inv N M L w0 blk V t h a w)(U:∀x v,V x v->x<N∨2*PK<=x){W:Nat}{p x:Operand}{τ:Ty}{E:cv}(J:o.op=.store W p x)(K:T W=some τ)(b:im τ h (ev t p) (ev t x)=some E):ff P o a w (bs N M L w0 V t h a e o.dst E):=by
 have O:=m.ev p;have Q:=m.ev x;have s:=TB (P:=P) (o:=o) (e:=e) (E:=E) I m J K;generalize ev t p=q at *;generalize ev t x=z at *;cases z with
 | box1 Z v1 s1 o1 n1 =>
  cases q with
  | ptr y v c =>
   simp only[im]at b;split at b
   ·rename_i r j;split at b
    ·rename_i d;obtain⟨u,rfl,A,B,X⟩:=d;simp only[akq]at b;subst b;obtain⟨l,C⟩:=cQ j;obtain⟨g,D,i⟩:=O.2 r l C;obtain⟨Y,F,f,n⟩:=Q;exact Kx I m J K u A B (jz j) l D i (by rw[F];rfl) f rfl rfl (fun _ _ =>.ali _ _ _ _ _ _ f) (show RT w (Own M h blk) h blk V (.buf Z v1 s1 o1 n1) Y from n)
    ·cases b
   ·cases b
  | pm y v k =>
   simp only[im]at b;split at b
   ·rename_i r q j G;split at b
    ·rename_i d;obtain⟨u,rfl,A,B,X,R,c7,c8,c9,rfl,aa⟩:=d;simp only[akq]at b;subst b;obtain⟨l,C⟩:=cQ j;obtain⟨H,S⟩:=cQ G;obtain⟨g,D,i⟩:=O.2 r l C;obtain⟨Y,F,f,n⟩:=Q;exact Yd I m U J K u A B (jz j) l (by have:=U _ _ O.1;omega) D i (by rw[F];rfl) f H R c7 (jz G) c9 (n.2 q H S)
    ·cases b
   ·cases b
  | _=>simp[im]at b
 | mp y1 v1 =>
  cases q with
  | pm y v c =>
   simp only[im]at b;split at b
   ·rename_i r j;split at b
    ·rename_i d;obtain⟨u,c2,A,B,X,R⟩:=d;subst c2;simp only[akq]at b;subst b;obtain⟨l,C⟩:=cQ j;obtain⟨g,D,i⟩:=O.2 r l C;obtain⟨⟨ks,vs⟩,hm⟩:=Option.isSome_iff_exists.1 R;obtain⟨g2,_,_,_,_,_,_,F,_⟩:=m.QZ hm Q;exact Kx I m J K u A B (jz j) l D i (by rw[F];rfl) rfl rfl rfl (fun _ _ =>.alm _ _ _ rfl) (by simp_all)
    ·cases b
   ·cases b
  | _=>simp[im]at b
 | _=>exact s b
end
section
variable {P:Program} {T:Nat->Option Ty} {N:Nat} {M:Nat->Prop} {L:kz} {w0:World} {blk:Nat->Option (Nat×Nat)} {V:Nat->Nat->Prop} {t:Nat->D} {h:Nat->Option Row} {a:Act} {w:World} {e:Nat} {o:Oper} {Γ:Env}
def ju{d:TypeDesc}{a:List (Nat×Nat)}(h:conv d=.struct a):∃F,d=.struct F∧(F.toList.map fun f=>(f.type,f.offset))=a:=by
 cases d<;>simp[conv]at h;simp_all
def ib{d:TypeDesc}{e:Nat}(h:conv d=.slice e):d=.slice e:=by
 cases d<;>simp[conv]at h;rw[h]
def Bv{d:TypeDesc}{n e:Nat}(h:conv d=.arr n e):d=.array n e:=by
 cases d<;>simp[conv]at h;rw[h.1,h.2]
def vf{d:TypeDesc}(h:conv d=.str):d=.string:=by
 cases d<;>simp[conv]at h;rfl
def zg{d:TypeDesc}(h:conv d=.bool):d=.bool:=by
 cases d<;>simp[conv]at h;rfl
def Bw{d:TypeDesc}{k:IntKind}(h:conv d=.int k):d=.int k:=by
 cases d<;>simp[conv]at h;rw[h]
def under(b:jL P T){a:Nat}{τ:Ty}(c:T a=some τ):∃d,P.underlying a=some d∧conv d=τ.ds:=by
 obtain⟨d,i,z,e,f,_⟩:=(b a τ c).get;simp_all
def PY{F:Array Field}{b:List (Nat×Nat)}(d:(F.toList.map fun f=>(f.type,f.offset))=b){i c a:Nat}(e:b[i]? = some (c,a)):∃f,F[i]? = some f∧f.type=c∧f.offset=a:=by
 grind
def RP.Wk{d:Nat->Prop}{a:List D}{e:Addr}{us:Nat->Value}(k:Nat)(f:a≠[]->∃b o,e=⟨b,o,none⟩∧b<w.heap.size∧¬d b∧∀j,j<a.length->w.cell? ⟨b,o+j,none⟩=some (us j))
  (n:∀j x,a[j]? = some x->RP w d x (us j)) (h8:∀x∈a,bu x=true):RP w d (.ip (a.drop k)) (.pointer (some (e.add k))):=by
 refine .ip _ _ (fun j=>us (k+j)) (fun g =>?_) (fun j x h =>?_) (fun x i=>h8 x (akS i))
 ·have c:a≠[]:=by grind
  obtain⟨b,o,rfl,l,m,p⟩:=f c;refine⟨b,o+k,sR _ _ _,l,m,fun j h =>?_⟩;grind
 simp_all
def aaZ(d:Inv N M L w0 blk V t h a w){x:Operand}{E:cv}(j:o.op=.nilCheck x)(b:p8 h (ev t x)=some E):ff P o a w (bs N M L w0 V t h a e o.dst E):=by
 have f:=d.ev x;generalize u:ev t x=q at *;cases q with
 | ptr y v c =>
  simp only[p8]at b;split at b
  ·rename_i r k;simp only[akq]at b;subst b;obtain⟨l,m⟩:=tv k;obtain⟨g,z,i⟩:=f.2 r l m;refine aP (v:=.pointer (some ⟨g.1,g.2+c,none⟩)) (w':=w) ?_ (bs.eL d ?_)
   ·simp[execOp,j,i]
   simp_all
  ·cases b
 | ip xs =>
  simp only[p8,akq]at b;subst b;have n:=f;obtain⟨p,s,_⟩:=RP.ahG (M':=Own M h blk) f;refine aP (v:=.pointer (some p)) (w':=w) ?_ (bs.eL d ?_)
  ·simp[execOp,j,s]
  simp_all
 | _=>simp[p8]at b
def Gd(R:jL P T)(H:Inv N M L w0 blk V t h a w){x:Operand}{S i:Nat}{τ:Ty}{E:cv}(W:o.op=.fieldAddr S x i)(X:T S=some τ)(b:gR T τ h i (ev t x)=some E) :
  ff P o a w (bs N M L w0 V t h a e o.dst E):=by
 have D:=H.ev x;have z:∀(I:Addr)(fs:List (Nat×Nat))(p j:Nat)(φ:Ty),τ.ds=.struct fs->fs[i]? = some (p,j)->T p=some φ->φ.size≠0->a.eval x=.pointer (some I) ->
   (execOp a.eval o).run P w=.ok (.value (.pointer (some (I.add j)))) w:=by
  intro I fs p j φ l A B C G;obtain⟨d,Y,U⟩:=under R X;rw[l]at U;obtain⟨F,rfl,Z⟩:=ju U;obtain⟨f,hf,rfl,rfl⟩:=PY Z A;have J:=run_sizeOf (P:=P) (R _ _ B) w;simp[execOp,W,Instr.fieldAt,run_underlying Y,hf,G,Instr.sureAddr,fieldPlace,J,C]
 generalize hq:ev t x=q at *;cases q with
 | ptr y v c =>
  simp only[gR]at b;split at b
  ·rename_i r fs K l;split at b
   ·rename_i p j A;split at b
    ·rename_i φ B;split at b
     ·cases b
     ·rename_i C;simp only[akq]at b;subst b;obtain⟨O,G⟩:=tv K;obtain⟨g,Q,m⟩:=D.2 r O G;refine aP (z _ fs p j φ l A B C m) (bs.eL H ⟨D.1,fun r' h1 h2=>⟨g,Q,by rw[sR,akA]⟩⟩)
    ·cases b
   ·cases b
  ·cases b
 | pm y v k =>
  simp only[gR]at b;split at b
  ·rename_i q fs K l;split at b
   ·rename_i p A;split at b
    ·rename_i φ B;split at b
     ·cases b
     ·rename_i C;simp only[akq]at b;subst b;obtain⟨ry,y',s,n⟩:=q;obtain⟨O,G,_,_⟩:=AW K;obtain⟨g,Q,m⟩:=D.2 ry O G;refine aP (z _ fs p 0 φ l A B C m) (bs.eL H ⟨D.1,fun r' h1 h2=>⟨g,Q,by rw[sR,akO]⟩⟩)
    ·cases b
   ·cases b
  ·cases b
 | ip xs =>
  simp only[gR]at b;split at b
  ·rename_i fs l;split at b
   ·rename_i p j A;split at b
    ·rename_i φ B;split at b
     ·cases b
     ·rename_i C;simp only[akq]at b;subst b;have m:RP w (Own M h blk) (.ip xs) (a.eval x):=D;generalize hu:a.eval x=u at *;cases m with
      | ip xs I us h6 h7 h8=>exact aP (z _ fs p j φ l A B C rfl) (bs.eL H (b6 (RP.Wk j h6 h7 h8)))
    ·cases b
   ·cases b
  ·cases b
 | _=>simp[gR]at b
def xg(f:jL P T){x g:Operand}{h el n c:Nat}{τ φ:Ty}{k:IntKind}{i:Int}{j:Addr}(m:o.op=.indexAddr h x g)(p:T h=some τ)(b:τ.ds=.slice el)(q:T el=some φ)
  (u:0<=i∧i<n) (r:a.eval x=.slice (some j) n c) (e:a.eval g=.int k i):(execOp a.eval o).run P w=.ok (.value (.pointer (some (j.add (i.toNat*φ.size))))) w:=by
 obtain⟨d,s,l⟩:=under f p;rw[b]at l;have:=ib l;subst this;have t:=run_sizeOf (P:=P) (f _ _ q) w;simp only[execOp,m,Instr.indexAt,r,e,asIntOf,akL,Sem.run_pure,Result.andThen_ok,run_underlying s];simp_all
def Fb(e:jL P T){x f:Operand}{g el n:Nat}{τ φ:Ty}{k:IntKind}{i:Int}{h:Addr}(l:o.op=.indexAddr g x f)(m:T g=some τ)(b:τ.ds=.arr n el)(p:T el=some φ)
  (t:0<=i∧i<n) (q:a.eval x=.pointer (some h)) (c:a.eval f=.int k i):(execOp a.eval o).run P w=.ok (.value (.pointer (some (h.add (i.toNat*φ.size))))) w:=by
 obtain⟨d,r,j⟩:=under e m;rw[b]at j;have:=Bv j;subst this;have s:=run_sizeOf (P:=P) (e _ _ p) w;simp only[execOp,l,Instr.indexAt,q,c,asIntOf,akL,Sem.run_pure,Result.andThen_ok,run_underlying r,Instr.sureAddr];simp_all
def Ge(D:jL P T)(m:Inv N M L w0 blk V t h a w){x C:Operand}{Q:Nat}{τ:Ty}{E:cv}(F:o.op=.indexAddr Q x C)(G:T Q=some τ)(b:cX T τ h (ev t x) (ev t C)=some E) :
  ff P o a w (bs N M L w0 V t h a e o.dst E):=by
 have p:=m.ev x;have H:=m.ev C;generalize ev t x=q at *;generalize ev t C=z at *;cases z with
 | int k i =>
  have f:=oP H;cases q with
  | sl nl tight n xs =>
   simp only[cX]at b;split at b
   ·rename_i el d;split at b
    ·rename_i φ B;split at b
     ·rename_i j;simp only[akq]at b;subst b;have l:RP w (Own M h blk) (.sl nl tight n xs) (a.eval x):=p;generalize U:a.eval x=u at *;cases l with
      | sl A c nl tight n xs us R S h3 h4 h5 h6 h7 h8 =>
       cases A with
       | none=>grind
       | some ad=>exact aP (xg D F G d B j U f) (bs.eL m (b6 (RP.Wk _ (fun W=>by
         simp_all) h7 h8)))
     ·cases b
    ·cases b
   ·cases b
  | buf y v s c n =>
   simp only[cX]at b;split at b
   ·rename_i r el I d;split at b
    ·rename_i φ B;split at b
     ·rename_i j;obtain⟨X,j⟩:=j;simp only[akq]at b;subst b;obtain⟨J,K⟩:=tv I;rcases p.2 r J K with⟨g,o',c',N',t',Y,Z,g2,g3,_⟩|⟨_,h0,_⟩
      ·have O:=(g2 (.inl (by omega))).1;subst O;exact aP (xg D F G d B j Z f) (bs.eL m ⟨p.1,fun r' R S=>⟨g,Y,by rw[sR,X,akA]⟩⟩)
      ·omega
     ·cases b
    ·cases b
   ·cases b
  | ptr y v c =>
   simp only[cX]at b;split at b
   ·rename_i r n el I d;split at b
    ·rename_i φ B;split at b
     ·rename_i j;simp only[akq]at b;subst b;obtain⟨J,K⟩:=cQ I;obtain⟨g,hg,l⟩:=p.2 r J K;exact aP (Fb D F G d B j l f) (bs.eL m ⟨p.1,fun r' R S=>⟨g,hg,by rw[sR,akA]⟩⟩)
     ·cases b
    ·cases b
   ·cases b
  | _=>simp[cX]at b
 | _=>cases q<;>simp[cX]at b
end
section
variable {P:Program} {T:Nat->Option Ty} {N:Nat} {M:Nat->Prop} {L:kz} {w0:World} {blk:Nat->Option (Nat×Nat)} {V:Nat->Nat->Prop} {t:Nat->D} {h:Nat->Option Row} {a:Act} {w:World} {e:Nat} {o:Oper} {Γ:Env}
def Sh(f:jL P T){k a:Nat}{φ:Ty}(g:T k=some φ){e:List D}{b:List Value}{d:D}{l:Nat->Prop}(m:b.length=e.length)(n:∀j x,e[j]? = some x->RP w l x (b.getD j undef))(h3:∀x∈e,bu x=true)
  (c:WS φ e a=some d):∃v,(part k b.toArray a).run P w=.ok v w∧RP w l d v:=by
 unfold WS at c;split at c
 ·rename_i h;split at c
  ·rename_i o;simp only[akq]at c;subst c;refine⟨.agg (b.toArray.extract a (a+φ.size)),by simp[part,ox (f _ _ g),h,run_sizeOf (f _ _ g)],?_⟩;have p:b.toArray.extract a (a+φ.size)=((b.drop a).take φ.size).toArray:=by
    simp_all
   rw[p];refine .agg _ _ (by simp[m]) (fun j x t =>?_) (fun x q=>h3 x (akS (akU q)));grind
  ·cases c
 ·rename_i h;have i:φ.ds.vp=false:=by simpa using h
  have r:=(akI.1 c).1;have s:=n a d c;refine⟨b.getD a undef,?_,s⟩;have:b.toArray[a]? = some (b.getD a undef):=by
   simp_all
  simp[part,ox (f _ _ g),i,this]
def Tw(m:jL P T)(n:Inv N M L w0 blk V t h a w){x:Operand}{p i:Nat}{τ:Ty}{E:cv}(s:o.op=.field p x i)(y:T p=some τ)(b:BM T τ i (ev t x)=some E):ff P o a w (bs N M L w0 V t h a e o.dst E):=by
 have z:=n.ev x;generalize ev t x=q at *;cases q with
 | agg xs =>
  simp only[BM]at b;split at b
  ·rename_i J c;split at b
   ·rename_i K A B;split at b
    ·rename_i φ C;split at b
     ·rename_i d D;simp only[akq]at b;subst b;have g:RP w (Own M h blk) (.agg xs) (a.eval x):=z;generalize G:a.eval x=u at *;cases g with
      | agg xs us h1 h2 h3 =>
       obtain⟨v,j,k⟩:=Sh m C h1 h2 h3 D;obtain⟨O,l,r⟩:=under m y;rw[c]at r;obtain⟨F,rfl,H⟩:=ju r;obtain⟨f,I,rfl,rfl⟩:=PY H B;refine aP (v:=v) (w':=w) ?_ (bs.eL n (b6 k));simp[execOp,s,Instr.field,run_underlying l,I,G,asAgg,j]
     ·cases b
    ·cases b
   ·cases b
  ·cases b
 | _=>simp[BM]at b
def Tx(r:jL P T)(l:Inv N M L w0 blk V t h a w){x m:Operand}{D:Nat}{τ:Ty}{E:cv}(F:o.op=.index D x m)(I:T D=some τ)(c:nh T τ (ev t x) (ev t m)=some E) :
  ff P o a w (bs N M L w0 V t h a e o.dst E):=by
 have G:=l.ev x;have y:=l.ev m;generalize ev t x=q at *;generalize ev t m=z at *;obtain⟨R,g,p⟩:=under r I;cases z with
 | int k i =>
  have j:=oP y;cases q with
  | str s =>
   have J:=FF G;simp only[nh]at c;split at c
   ·rename_i f;rw[f]at p;have:=vf p;subst this;split at c
    ·rename_i S;split at c
     ·rename_i b U;simp only[akq]at c;subst c;refine aP (v:=.int .u8 b.toNat) (w':=w) ?_ (bs.eL l (b6 (.int _ _)));simp only[execOp,F,Instr.index,j,J,asIntOf,akL,Sem.run_pure,Result.andThen_ok,run_underlying g];simp_all
     ·cases c
    ·cases c
   ·cases c
  | agg xs =>
   simp only[nh]at c;split at c
   ·rename_i n el f;rw[f]at p;have:=Bv p;subst this;split at c
    ·rename_i φ H;split at c
     ·rename_i K;split at c
      ·rename_i d O;simp only[akq]at c;subst c;have A:RP w (Own M h blk) (.agg xs) (a.eval x):=G;generalize Q:a.eval x=u at *;cases A with
       | agg xs us h1 h2 h3 =>
        obtain⟨v,B,C⟩:=Sh r H h1 h2 h3 O;refine aP (v:=v) (w':=w) ?_ (bs.eL l (b6 C));simp only[execOp,F,Instr.index,j,Q,asIntOf,akL,Sem.run_pure,Result.andThen_ok,run_underlying g];rw[if_pos K];simp[run_sizeOf (r _ _ H),B]
      ·cases c
     ·cases c
    ·cases c
   ·cases c
  | _=>simp[nh]at c
 | _=>cases q<;>simp[nh]at c
def ql{d:D}{n:Nat}(h:tw d=some n):∃k,d=.int k n:=by
 cases d with
 | int k i =>
  simp only[tw]at h;split at h
  ·simp only[akq]at h;exact⟨k,by grind⟩
  ·cases h
 | _=>simp[tw]at h
def run_sliceBound(k:IntKind)(n y:Nat)(c:BoundsCode)(a:n<=y):(Instr.sliceBound (.int k n) y c).run P w=.ok n w:=by
 have b:(n:Int)<=(y:Int):=by omega
 simp[Instr.sliceBound,asIntOf,b]
def wP(b:Bool){n cap l k:Nat}{e f:Option D}{vlo vhi:Option Value}(y:n<=cap)(c:As n e f=some (l,k))
  (s:∀d,e=some d->∃v,vlo=some v∧∀k n,d=.int k n->v=.int k n) (m:e=none->vlo=none)
  (t:∀d,f=some d->∃v,vhi=some v∧∀k n,d=.int k n->v=.int k n) (o:f=none->vhi=none) :
  (Instr.sliceBounds b n cap vlo vhi none).run P w=.ok (l,k,cap) w∧l<=k∧k<=n:=by
 unfold As at c;split at c
 ·rename_i g h u x;split at c
  ·rename_i a;simp only[akq,Prod.mk.injEq]at c;obtain⟨rfl,rfl⟩:=c;refine⟨?_,a.1,a.2⟩;have i:(f=none∧vhi=none∧g=n)∨∃q,vhi=some (.int q (g:Nat)):=by
    cases f with
    | none=>simp_all
    | some d =>
     obtain⟨q,rfl⟩:=ql u;simp_all
   have j:(e=none∧vlo=none∧h=0)∨∃q,vlo=some (.int q (h:Nat)):=by
    cases e with
    | none=>simp_all
    | some d =>
     obtain⟨q,rfl⟩:=ql x;simp_all
   rcases i with⟨_,rfl,rfl⟩|⟨p,rfl⟩<;>rcases j with⟨_,rfl,rfl⟩|⟨r,rfl⟩
   ·simp[Instr.sliceBounds]
   ·simp[Instr.sliceBounds,run_sliceBound r h _ _ a.1]
   ·simp[Instr.sliceBounds,run_sliceBound p g cap _ (by omega)]
   ·simp[Instr.sliceBounds,run_sliceBound p g cap _ (by omega),run_sliceBound r h _ _ a.1]
  ·cases c
 ·cases c
def Sc(b:Bool){n cap l k m:Nat}{e:Option D}{p:D}{vlo:Option Value}{vhi r:Value}{q:IntKind}(a:As n e (some p)=some (l,k))(x:r=.int q m)(f:m<=cap)(g:k<=m)
  (y:∀d,e=some d->∃v,vlo=some v∧∀k n,d=.int k n->v=.int k n) (s:e=none->vlo=none)
  (h:∀k n,p=.int k n->vhi=.int k n):(Instr.sliceBounds b n cap vlo (some vhi) (some r)).run P w=.ok (l,k,m) w∧l<=k∧k<=n:=by
 unfold As at a;split at a
 ·rename_i t i z A;split at a
  ·rename_i c;simp only[akq,Prod.mk.injEq]at a;obtain⟨rfl,rfl⟩:=a;refine⟨?_,c.1,c.2⟩;obtain⟨u,rfl⟩:=ql z;have j:=h _ _ rfl;subst j x;have o:(e=none∧vlo=none∧i=0)∨∃q,vlo=some (.int q (i:Nat)):=by
    cases e with
    | none=>simp_all
    | some d =>
     obtain⟨q,rfl⟩:=ql A;simp_all
   rcases o with⟨_,rfl,rfl⟩|⟨B,rfl⟩
   ·simp[Instr.sliceBounds,run_sliceBound q m cap _ f,run_sliceBound u t m _ g]
   ·simp[Instr.sliceBounds,run_sliceBound q m cap _ f,run_sliceBound u t m _ g,run_sliceBound B i _ _ c.1]
  ·cases a
 ·cases a
def Inv.evo(c:Inv N M L w0 blk V t h a w)(x:Option Operand):(∀d,x.map (Am.ev t)=some d->∃v,x.map a.eval=some v∧∀k n,d=.int k n->v=.int k n)∧(x.map (Am.ev t)=none->x.map a.eval=none):=by
 cases x with
 | none=>simp_all
 | some x =>
  refine⟨fun d b=>⟨a.eval x,rfl,fun k n e =>?_⟩,fun b=>by simp at b⟩;simp only[Option.map_some,akq]at b;have:=c.ev x;rw[b,e]at this;exact oP this
def RP.cut{h:Nat->Prop}{A:Option Addr}{c n l k m s:Nat}{nl tight d a:Bool}{e:List D}(i:RP w h (.sl nl tight n e) (.slice A n c))(o:l<=k)(p:k<=n)(q:k<=m)(r:m<=c)(t:a=true->m=k)(u:d=true->nl=true∧tight=true∧a=true) :
  RP w h (.sl d a (k-l) ((e.drop (l*s)).take ((k-l)*s))) (.slice (if m=l then A else A.map (·.add (l*s))) (k-l) (m-l)):=by
 cases i with
 | sl A c nl tight n e us h1 h2 h3 h4 h5 h6 h7 h8 =>
  refine .sl _ _ d a _ _ (fun j=>us (l*s+j)) (by omega) (by omega) (fun v =>?_) (fun v =>?_) (fun f=>by rw[t f]) (fun y =>?_) (fun j x z =>?_) (fun x B=>h8 x (akS (akU B)))
  ·simp_all
  ·have H:A=none:=by
    cases A with
    | none=>rfl
    | some ad=>grind
   simp_all
  ·have g:e≠[]:=by grind
   have C:l<k:=by
    rcases akV l k with h'|h'
    ·exact h'
    simp_all
   obtain⟨b,E,rfl,F,G,I⟩:=h6 g;rw[if_neg (by omega)];refine⟨b,E+l*s,by simp[sR],F,G,fun j z =>?_⟩;grind
  grind
def TA(R:jL P T)(I:Inv N M L w0 blk V t h a w){x:Operand}{S hi mx:Option Operand}{ty:Nat}{τ:Ty}{E:cv}(U:o.op=.slice ty x S hi mx)(hτ:T ty=some τ)
  (b:iP T τ h (ev t x) (S.map (ev t)) (hi.map (ev t)) (mx.map (ev t))=some E):ff P o a w (bs N M L w0 V t h a e o.dst E):=by
 have W:=I.ev x;obtain⟨j,p⟩:=I.evo S;obtain⟨z,J⟩:=I.evo hi;obtain⟨ah,O⟩:=I.evo mx;generalize ev t x=q at *;obtain⟨dd,B,Q⟩:=under R hτ;have ar:S.map a.eval=S.map a.eval:=rfl;cases q with
 | str s =>
  have X:=FF W;simp only[iP]at b;split at b
  ·rename_i l k C f K;rw[C]at Q;have:=vf Q;subst this;simp only[akq]at b;subst b;obtain⟨d,_,_⟩:=wP (P:=P) (w:=w) false (aki _) K j p z J;have i:=O f;refine aP (v:=.string (s.extract l k)) (w':=w) ?_ (bs.eL I (b6 (.str _)));simp only[execOp,U,Instr.sliceAt,akL,run_underlying B,Result.andThen_ok,Instr.slice,X,i];simp[d]
  ·cases b
 | sl nl tight n xs =>
  have D:RP w (Own M h blk) (.sl nl tight n xs) (a.eval x):=W;have ai:∃A c,a.eval x=.slice A n c∧n<=c∧(tight=true->c=n):=by
   generalize a.eval x=u at *;cases D with
   | sl A c nl tight n xs us h1 h2 h3 h4 h5 h6 h7 h8=>grind
  obtain⟨A,c,hu,aj,ag⟩:=ai;rw[hu]at D;simp only[iP]at b;split at b
  ·rename_i el C;rw[C]at Q;have:=ib Q;subst this;split at b
   ·rename_i φ l k Y K;split at b
    ·rename_i f;simp only[akq]at b;subst b;obtain⟨d,F,G⟩:=wP (P:=P) (w:=w) true aj K j p z J;have i:=O f;refine aP (v:=.slice (if c=l then A else A.map (·.add (l*φ.size))) (k-l) (c-l)) (w':=w) ?_ (bs.eL I (b6 (D.cut F G (by omega) (aki _) (fun ht =>?_) (fun Z =>?_))))
     ·simp only[execOp,U,Instr.sliceAt,akL,run_underlying B,Result.andThen_ok,Instr.slice,hu,i];simp[d,run_sizeOf (R _ _ Y)]
     ·simp_all
     ·simp only[akP]at Z;refine⟨Z.1,Z.2,?_⟩;have au:c=0∧n=0:=by
       cases D with
       | sl A c nl tight n xs us h1 h2 h3 h4 h5 h6 h7 h8=>simp_all
      simp_all
    ·rename_i md f;split at b
     ·rename_i m hd hm aa;split at b
      ·rename_i H;simp only[akq]at b;subst b;obtain⟨q,rfl⟩:=ql hm;obtain⟨vm,al,ab⟩:=ah _ f;obtain⟨vh,an,ad⟩:=z _ aa;rw[aa]at K;obtain⟨d,F,G⟩:=Sc (P:=P) (w:=w) true (cap:=c) K (ab _ _ rfl) (by omega) H.1 j p ad;refine aP (v:=.slice (if m=l then A else A.map (·.add (l*φ.size))) (k-l) (m-l)) (w':=w) ?_ (bs.eL I (b6 (D.cut F G H.1 (by omega) (fun ht=>by simpa using ht) (fun Z=>by cases Z))));simp only[execOp,U,Instr.sliceAt,akL,run_underlying B,Result.andThen_ok,Instr.slice,hu,al,an];simp[d,run_sizeOf (R _ _ Y)]
      ·cases b
     ·cases b
   ·cases b
  ·cases b
 | buf y v s c0 n =>
  simp only[iP]at b;split at b
  ·rename_i r el hl C f;rw[C]at Q;have:=ib Q;subst this;split at b
   ·rename_i φ l k Y K;split at b
    ·rename_i X;obtain⟨X,av⟩:=X;simp only[akq]at b;subst b;obtain⟨hx,hv⟩:=cQ hl;have i:=O f;rcases W.2 r hx hv with⟨g,o',c,N',t',g0,g1,g2,g3,g4,g5⟩|⟨g0,g1,A,g2⟩
     ·obtain⟨d,F,G⟩:=wP (P:=P) (w:=w) true g3 K j p z J;refine aP (v:=.slice (if c=l then (some ⟨g.1,o',none⟩) else (some ⟨g.1,o'+l*φ.size,none⟩)) (k-l) (c-l)) (w':=w) ?_ (bs.eL I ⟨W.1,fun r' h1 h2 =>.inl ?_⟩)
      ·simp only[execOp,U,Instr.sliceAt,akL,run_underlying B,Result.andThen_ok,Instr.slice,g1,i];simp[d,run_sizeOf (R _ _ Y),sR]
      ·by_cases ae:c=l
       ·rw[if_pos ae];refine⟨g,o',c-l,N',t',g0,rfl,fun hh =>?_,by omega,by omega,g5⟩;simp_all
       ·rw[if_neg ae];refine⟨g,o'+l*φ.size,c-l,N',t',g0,rfl,fun hh =>?_,by omega,by omega,g5⟩;obtain⟨q1,q2⟩:=g2 (.inl (by omega));have aw:l*s<=c*s:=akW _ (by omega);rw[X,Nat.sub_mul];omega
     ·subst g1;obtain⟨d,F,G⟩:=wP (P:=P) (w:=w) (cap:=0) true (aki _) K j p z J;have ao:k=0:=by omega
      have aq:l=0:=by omega
      subst ao aq;refine aP (v:=.slice A 0 0) (w':=w) ?_ (bs.eL I ⟨W.1,fun r' h1 h2 =>.inr ⟨g0,rfl,A,rfl⟩⟩);simp only[execOp,U,Instr.sliceAt,akL,run_underlying B,Result.andThen_ok,Instr.slice,g2,i];simp[d,run_sizeOf (R _ _ Y)]
    ·cases b
   ·cases b
  ·cases b
 | _=>simp[iP]at b
end
section
variable {P:Program} {T:Nat->Option Ty} {N:Nat} {M:Nat->Prop} {L:kz} {w0:World} {blk:Nat->Option (Nat×Nat)} {V:Nat->Nat->Prop} {t:Nat->D} {h:Nat->Option Row} {a:Act} {w:World} {e:Nat} {o:Oper} {Γ:Env}
def Sv(b us:Array Value)(a:Nat)(d:a+us.size<=b.size) :
  us.zipIdx.foldl (fun cs (p:Value×Nat)=>cs.setIfInBounds (a+p.2) p.1) b=(b.toList.take a++us.toList++b.toList.drop (a+us.toList.length)).toArray:=by
 have key:∀(l:List Value)(k:Nat)(c:Array Value),a+k+l.length<=c.size ->
   (l.zipIdx k).foldl (fun cs (p:Value×Nat)=>cs.setIfInBounds (a+p.2) p.1) c=(c.toList.take (a+k)++l++c.toList.drop (a+k+l.length)).toArray:=by
  intro l
  induction l with
  | nil=>intro k c _;simp
  | cons v l e =>
   intro k c f;simp only[List.zipIdx_cons,List.foldl_cons];simp only[List.length_cons]at f;rw[e (k+1) _ (by simp;omega)];have:=list_seg_step c.toList (a+k) v l (by simp;omega);simp only[Array.toList_setIfInBounds];congr 1
 have:=key us.toList 0 b (by simp;omega);rw[akO]at this;rw[<- this,<- Array.foldl_toList,Array.toList_zipIdx]
def acN{w:World}{M:Nat->Prop}{cells e:List D}{a:Array Value}{f:List Value}{c:Nat}(g:c+e.length<=cells.length)(h:f.length=e.length)(i:cells.length<=a.size)
  (m:∀j d,cells[j]? = some d->bu d=true∧RP w M d (a.getD j undef)) (l:∀j d,e[j]? = some d->bu d=true∧RP w M d (f.getD j undef)) (j:Nat) (d:D) (k:(putCells cells c e)[j]? = some d) :
  bu d=true∧RP w M d ((a.toList.take c++f++a.toList.drop (c+f.length)).toArray.getD j undef):=by
 have:=spliced (cur:=a) (b:=0) g h (by omega) (fun j d k=>by grind) l j d k;simp_all
def OY{w:World}{M:Nat->Prop}{a:List D}{f:Nat->Value}(c:∀(j:Nat) d,a[j]? = some d->bu d=true∧RP w M d (f j))(j:Nat)(d:D)(b:(a.map canon)[j]? = some d):bu d=true∧RP w M d (f j):=by
 rw[akf,akg]at b;obtain⟨x,e,rfl⟩:=b;obtain⟨g,h⟩:=c j x e;exact⟨by rw[pr];exact g,h.canon⟩
def Inv.kf(q:Inv N M L w0 blk V t h a w){f:Nat->Option (Nat×Nat)}{r:Nat->Prop}:∀{parts:List (Nat×Operand)}{cells c:List D}{o:List Nat}{cur:Array Value},
  kf h f cells (parts.map fun p=>(p.1,Am.ev t p.2))=some (c,o)->rU M h blk o r->cells.length=cur.size->(∀j d,cells[j]? = some d->bu d=true∧RP w r d (cur.getD j undef)) ->
  ∃b,Instr.fill f cur (parts.map fun p=>(p.1,a.eval p.2))=some b∧c.length=b.size∧c.length=cells.length∧∀j d,c[j]? = some d->bu d=true∧RP w r d (b.getD j undef)
 | [],cells,c,o,cur,e,s,m,u=>by
  simp only[akZ,Am.kf,akq,Prod.mk.injEq]at e;obtain⟨rfl,rfl⟩:=e;exact⟨cur,rfl,m,rfl,u⟩
 | (i,x)::parts,cells,c,o,cur,e,s,m,u=>by
  simp only[akn,Am.kf]at e;split at e
  ·rename_i g n z B C E;split at e
   ·rename_i F;split at e
    ·rename_i A G H;simp only[akq,Prod.mk.injEq]at e;obtain⟨rfl,rfl⟩:=e;obtain⟨Q,I⟩:=q.gD E s.left (q.ev x);have v:(a.eval x).cells.toList.length=z.length:=by omega
     have k:g+z.length<=cells.length:=by omega
     obtain⟨b,J,K,O,P⟩:=q.kf (cur:=(cur.toList.take g++(a.eval x).cells.toList++cur.toList.drop (g+(a.eval x).cells.toList.length)).toArray) H s.right
      (by rw[kI k];simp;omega)
      (fun j d y=>acN k v (by omega) u (fun j d y=>by simpa [List.getD] using I j d y) j d y)
     refine⟨b,?_,K,by rw[O,kI k],P⟩;rw[<- J];simp only[akn,Instr.fill,C];have l:(decide ((a.eval x).cells.size≠n)||decide (g+(a.eval x).cells.size>cur.size))=false:=by simp;omega
     rw[if_neg (by simpa using l)];congr 1;exact Sv cur (a.eval x).cells g (by omega)
    ·cases e
   ·cases e
  ·cases e
def pC(b:jL P T):∀(F:List Field),(∀f∈F,(T f.type).isSome=true)->(F.mapM fun f=>(do pure (f.offset,<- Go.sizeOf f.type):Sem (Nat×Nat))).run P w=.ok (F.map fun f=>(f.offset,((T f.type).map (·.size)).getD 0)) w
 | [],_=>by simp
 | f::F,hF=>by
  have c:=hF f (by simp);cases a:T f.type with
  | none=>simp[a]at c
  | some φ =>
   have d:=pC b F (fun g e=>hF g (by simp[e]));simp only[List.mapM_cons,akL,run_sizeOf (b _ _ a),Result.andThen_ok,Sem.run_pure,akn,a,Option.map_some,Option.getD_some];rw[d];rfl
def Ax(n:jL P T)(q:Inv N M L w0 blk V t h a w){r:Nat}{parts:Array (Nat×Operand)}{τ:Ty}{E:cv}(J:o.op=.build r parts)(G:T r=some τ)(g:iO T τ h (parts.toList.map fun p=>(p.1,ev t p.2))=some E) :
  ff P o a w (bs N M L w0 V t h a e o.dst E):=by
 obtain⟨X,s,H⟩:=under n G;unfold iO at g;split at g
 ·rename_i K u;rw[u]at H;obtain⟨F,rfl,O⟩:=ju H;split at g
  ·rename_i b;simp only[akP]at b;split at g
   ·rename_i x m Q;simp only[akq]at g;subst g;obtain⟨z,y,A⟩:=kU (n r τ G) w;obtain⟨c,R,Y,Z,I⟩:=q.kf Q (q.gU m) (cur:=τ.zero.toArray) (by simp) (fun j d l=>tP τ.zero b.2 j d l);have k:∀f∈F.toList,(T f.type).isSome=true:=by
     intro f S;have:=b.1;rw[aks]at this;exact this (f.type,f.offset) (by grind)
    have B:(fun i=>(F.map fun f=>(f.offset,((T f.type).map (·.size)).getD 0))[i]?)=fieldAt T K:=by
     funext i;simp only[fieldAt,<- O,akf,Array.getElem?_map];grind
    refine aP (v:=.agg c) (w':=w) ?_ ?_
    ·have U:=pC (P:=P) (w:=w) n F.toList k;have C:(F.mapM fun f=>(do pure (f.offset,<- Go.sizeOf f.type):Sem (Nat×Nat))).run P w=.ok (F.map fun f=>(f.offset,((T f.type).map (·.size)).getD 0)) w:=by
      rw[ak1,Sem.run_map,U];simp only[Result.andThen_ok];congr 1;grind
     rw[<- B]at R;simp only[execOp,J,Instr.build,akL,y,Result.andThen_ok,run_underlying s,C,A,ak2];simp_all
    ·have:(⟨.agg x,kE h m⟩:cv)=⟨.agg x,kE h m⟩:=rfl;have D:c=c.toList.toArray:=by simp
     rw[D];refine bs.M4 q m (.agg x _ (by simp;omega) (fun j d l =>?_) (fun d W =>?_))
     ·have:=(I j d l).2;simpa [List.getD] using this
     ·obtain⟨j,l⟩:=akB W;exact (I j d l).1
   ·cases g
  ·cases g
 ·cases g
def aaS(u:jL P T)(B:Inv N M L w0 blk V t h a w){q:Nat->Bool}{ty:Nat}{parts:Array (Nat×Operand)}{τ:Ty}{E:cv}(W:o.op=.build ty parts)(C:T ty=some τ)(b:s5 q T τ h o.dst (parts.toList.map fun p=>(p.1,ev t p.2))=some E) :
  ff P o a w (bs N M L w0 V t h a e o.dst E):=by
 unfold s5 at b;split at b
 ·split at b
  ·exact Ax u B W C b
  ·split at b
   ·rename_i X x v s o' n G ad;split at b
    ·rename_i j;obtain⟨k1,Y,k3,k4⟩:=j;simp only[akq]at b;subst b;obtain⟨dd,H,Z⟩:=under u C;rw[G]at Z;obtain⟨F,rfl,hF⟩:=ju Z;obtain⟨m,I,k⟩:∃m,parts.toList=[m]∧(m.1,ev t m.2)=(0,D.buf x v s o' n):=by
      simp_all
     simp only[Prod.mk.injEq]at k;have U:=B.ev m.2;rw[k.2]at U;have J:∃r,qY h x v=some r:=by
      simp only[alive]at k1;exact Option.isSome_iff_exists.1 k1
     obtain⟨r,J⟩:=J;obtain⟨hx,hv⟩:=tv J;obtain⟨A,c,hu⟩:∃A c,a.eval m.2=.slice A n c:=by
      rcases U.2 r hx hv with⟨g,ai,c,N',t',g0,g1,_⟩|⟨_,g1,A,g2⟩
      ·simp_all
      simp_all
     obtain⟨z,K,O⟩:=kU (u ty τ C) w;have l:∀f∈F.toList,(T f.type).isSome=true:=by
      intro f ae;rw[aks]at Y;exact Y (f.type,f.offset) (by grind)
     have Q:(fun i=>(F.map fun f=>(f.offset,((T f.type).map (·.size)).getD 0))[i]?)=fieldAt T X:=by
      funext i;simp only[fieldAt,<- hF,akf,Array.getElem?_map];grind
     have i1:Instr.fill (fieldAt T X) τ.zero.toArray (parts.toList.map fun p=>(p.1,a.eval p.2))=some #[a.eval m.2]:=by
      rw[I];simp only[akn,akZ,Instr.fill,k.1,k3,hu];obtain⟨y,R⟩:∃y,τ.zero=[y]:=by
       match ag:τ.zero,k4 with
       | [y],_=>exact⟨y,rfl⟩
      rw[R];rfl
     refine aP (v:=.agg #[a.eval m.2]) (w':=w) ?_ (bs.eL B ⟨_,rfl,by rw[hu];rfl,U⟩);have hm:=pC (P:=P) (w:=w) u F.toList l;have S:(F.mapM fun f=>(do pure (f.offset,<- Go.sizeOf f.type):Sem (Nat×Nat))).run P w=.ok (F.map fun f=>(f.offset,((T f.type).map (·.size)).getD 0)) w:=by
      rw[ak1,Sem.run_map,hm];simp only[Result.andThen_ok];congr 1;grind
     rw[<- Q]at i1;simp only[execOp,W,Instr.build,akL,K,Result.andThen_ok,run_underlying H,S,O,ak2];simp_all
    ·cases b
   ·rename_i X x v s o' n G ad;split at b
    ·rename_i j;obtain⟨k1,Y,k3,k4⟩:=j;simp only[akq]at b;subst b;obtain⟨dd,H,Z⟩:=under u C;rw[G]at Z;obtain⟨F,rfl,hF⟩:=ju Z;obtain⟨m,I,k⟩:∃m,parts.toList=[m]∧(m.1,ev t m.2)=(0,D.box1 x v s o' n):=by
      simp_all
     simp only[Prod.mk.injEq]at k;have U:=B.ev m.2;rw[k.2]at U;obtain⟨u',hu,aa,ah⟩:=U;obtain⟨z,K,O⟩:=kU (u ty τ C) w;have l:∀f∈F.toList,(T f.type).isSome=true:=by
      intro f ae;rw[aks]at Y;exact Y (f.type,f.offset) (by grind)
     have Q:(fun i=>(F.map fun f=>(f.offset,((T f.type).map (·.size)).getD 0))[i]?)=fieldAt T X:=by
      funext i;simp only[fieldAt,<- hF,akf,Array.getElem?_map];grind
     have i1:Instr.fill (fieldAt T X) τ.zero.toArray (parts.toList.map fun p=>(p.1,a.eval p.2))=some #[u']:=by
      rw[I];simp only[akn,akZ,Instr.fill,k.1,k3,hu];obtain⟨y,R⟩:∃y,τ.zero=[y]:=by
       match ag:τ.zero,k4 with
       | [y],_=>exact⟨y,rfl⟩
      rw[R];rfl
     refine aP (v:=.agg #[u']) (w':=w) ?_ (bs.eL B ⟨u',rfl,aa,ah⟩);have hm:=pC (P:=P) (w:=w) u F.toList l;have S:(F.mapM fun f=>(do pure (f.offset,<- Go.sizeOf f.type):Sem (Nat×Nat))).run P w=.ok (F.map fun f=>(f.offset,((T f.type).map (·.size)).getD 0)) w:=by
      rw[ak1,Sem.run_map,hm];simp only[Result.andThen_ok];congr 1;grind
     rw[<- Q]at i1;simp only[execOp,W,Instr.build,akL,K,Result.andThen_ok,run_underlying H,S,O,ak2];simp_all
    ·cases b
   ·unfold cE at b;split at b
    ·rename_i cs hw hb;simp only[akq]at b;subst b;refine (Ax (e:=e) u B W C hb).mono fun v w' hA =>?_;obtain⟨ab,h1,h2⟩:=hA;exact⟨ab,h1,b6 (RP.jT (d:=.agg cs) h2)⟩
    ·cases b
 ·exact Ax u B W C b
def yW(zs:List Value)(n:Nat)(j:Nat)(b:j<n*zs.length):(((Array.range (n*zs.length)).map fun i=>zs.toArray[i % zs.toArray.size]!).getD j undef)=zs.getD (j % zs.length) undef:=by
 have a:0<zs.length:=by
  grind
 have c:j % zs.length<zs.length:=ak3 _ a;simp_all
def Fm(a:List D):∀(n j:Nat)(d:D),(qv n a)[j]? = some d->j<n*a.length∧a[j % a.length]? = some d
 | 0,j,d,h=>by simp[qv]at h
 | n+1,j,d,h=>by
  have e:qv (n+1) a=a++qv n a:=by simp[qv,List.replicate_succ]
  rw[e]at h
  by_cases b:j<a.length
  ·rw[ak5 b]at h;refine⟨?_,by rw[ak6 b];exact h⟩;grind
  ·rw[ak7 (by omega)]at h;obtain⟨f,c⟩:=Fm a n (j-a.length) d h;refine⟨by grind,?_⟩;rw[Nat.mod_eq_sub_mod (by omega)];exact c
def uo(n:Nat)(a:List D):(qv n a).length=n*a.length:=by
 simp[qv]
def vW{d e s n c:Nat}{g:Nat×Nat}{f:Nat}{b:Array Value}{h:Nat->Nat->Prop}{i:Nat->Option Row}{a:Nat->Option (Nat×Nat)}(j:h d e)(k:a d=some g)(l:w.heap[g.1]? = some (.cells b f (0,0)))(m:n<=c)(o:c<=maxLen)(p:c*s+g.2=b.size) :
  RT w M i a h (.buf d e s 0 n) (.slice (some ⟨g.1,g.2,none⟩) n c) :=
 ⟨j,fun _ _ _ =>.inl ⟨g,g.2,c,b.size,f,k,rfl,fun _=>⟨rfl,p⟩,m,o,by simp[World.shape?,l]⟩⟩
def Ut(n:Nat)(a:List D):qv n (a.map canon)=(qv n a).map canon:=by simp[qv,List.map_flatten]
def ET(s:jL P T)(u:Inv N M L w0 blk V t h a w){y len d:Nat}{parts:Array (Nat×Operand)}{τ:Ty}{E:cv}(S:o.op=.buildSlice y len parts)(U:o.dst=some d)(W:ky N V d e)(X:T y=some τ)
  (b:fi T τ h e d len (parts.toList.map fun p=>(p.1,ev t p.2))=some E):ff P o a w (bs N M L w0 V t h a e o.dst E):=by
 obtain⟨dd,A,K⟩:=under s X;unfold fi at b;split at b
 ·rename_i el B;rw[B]at K;have:=ib K;subst this;split at b
  ·rename_i φ O;split at b
   ·rename_i c;obtain⟨c1,Y,Z,C⟩:=c;split at b
    ·rename_i D r hf;split at b
     ·rename_i aa;simp only[akq]at b;subst b;obtain⟨z,F,G⟩:=kU (s el φ O) w;have m:(len*φ.size=0->((Array.range (len*φ.size)).map fun i=>φ.zero.toArray[i % φ.zero.toArray.size]!) = #[]):=by intro l;simp[l]
      obtain⟨cur',H,i2,i3,i4⟩:=u.kf hf (u.gU r) (cur:=(Array.range (len*φ.size)).map fun i=>φ.zero.toArray[i % φ.zero.toArray.size]!)
       (by rw[uo];simp[C]) (fun j x I=>by
        obtain⟨Q,R⟩:=Fm _ _ _ _ I;simp only[akJ]at Q R;rw[<- C,yW φ.zero len j Q];have:=tP (w:=w) (M:=Own M (aW h (kE h r)) blk) φ.zero Z _ x R;simp_all)
      have ab:=(u.freeze r).alloc (d:=d) (e:=e) (ty:=el) (lst:=true) (cs:=D.map canon) (vs:=cur') W (by simp_all) (fun j x I=>OY (f:=fun j=>cur'.getD j undef) i4 j x I);refine aP (v:=.slice (some ⟨w.heap.size,0,none⟩) len len) (w':=w.alloc (.cells cur' el)) ?_ ⟨ca blk d (some (w.heap.size,0)),?_,?_⟩
      ·have n:¬len*φ.size>2 ^ 24:=by omega
       simp only[execOp,S,Instr.buildSlice,akL,run_underlying A,Result.andThen_ok,run_sizeOf (s _ _ O),if_neg n]
       by_cases l:len*φ.size=0
       ·have k:=m l;rw[k]at H;have J:((Array.range (len*φ.size)).map fun i=>(#[]:Array Value)[i % (#[]:Array Value).size]!) = #[]:=by simp[l]
        simp only[if_pos l,akL,Sem.run_pure,Result.andThen_ok,ak2];rw[J,H];simp[newRow]
       ·simp only[if_neg l,akL,F,Result.andThen_ok,Sem.run_pure,G,ak2];rw[H];simp[newRow]
      ·show Inv _ _ _ _ _ _ _ (aW h (kE h r++[(d,some ⟨e,el,D.map canon,false,true,false⟩)])) _ _;rw[iM];grind
      ·have q:cur'.size=len*φ.size:=by
        rw[<- i2,i3,uo];simp[C]
       refine vW (g:=(w.heap.size,0)) (.inr ⟨U,rfl⟩) (aB _ _ _) (heap_alloc_new w _) (aki _) ?_ (by rw[q];simp);have:len<=len*φ.size:=Nat.le_mul_of_pos_right _ Y;simp only[maxLen];omega
     ·cases b
    ·cases b
   ·cases b
  ·cases b
 ·cases b
def zn{a:Nat->Prop}{d:D}{n:Nat}{u:Value}(b:tw d=some n)(c:RT w a h blk V d u):∃k,u=.int k n:=by
 obtain⟨k,rfl⟩:=ql b;exact⟨k,oP c⟩
def Yb(K:jL P T)(y:Inv N M L w0 blk V t h a w){u d:Nat}{l c:Operand}{τ:Ty}{E:cv}(X:o.op=.makeSlice u l c)(Y:o.dst=some d)(Z:ky N V d e)(hτ:T u=some τ)
  (b:ui T τ e d (ev t l) (ev t c)=some E):ff P o a w (bs N M L w0 V t h a e o.dst E):=by
 have A:=y.ev l;have B:=y.ev c;obtain⟨dd,C,O⟩:=under K hτ;unfold ui at b;split at b
 ·rename_i el D;rw[D]at O;have:=ib O;subst this;split at b
  ·rename_i φ n k hφ hn hk;split at b
   ·rename_i q;obtain⟨F,Q,c3,c4,c5,R⟩:=q;simp only[akq]at b;subst b;obtain⟨q1,hl⟩:=zn hn A;obtain⟨q2,G⟩:=zn hk B;obtain⟨d',i,z,g1,g2,g3,S,g5,g6,g7⟩:=(K el φ hφ).get;have hb:(i.bytes:Int)*(k:Int)<=281474976710656:=by
     grind
    have r:(k:Int)<=9223372036854775807:=by
     simp only[maxLen]at Q;omega
    have p:=run_make (P:=P) w u el i z C g3 g6 q1 q2 n k (by omega) (by omega) hb r;simp only[Int.toNat_natCast]at p;have m:∀j x,(qv n (φ.zero.map qL))[j]? = some x->bu x=true∧RP w (Own M h blk) x ((madeCells z.cells (k*i.size)).getD j undef):=by
     intro j x H;obtain⟨U,W⟩:=Fm _ _ _ _ H;simp only[akJ]at U W;have I:j<k*φ.zero.length:=akl U (akW _ F);have:=tP (w:=w) (M:=Own M h blk) φ.zero c5 _ x W;refine⟨this.1,?_⟩;have he:(madeCells z.cells (k*i.size)).getD j undef=φ.zero.toArray.getD (j % φ.zero.length) undef:=by
      rw[g7,S,<- R];have:=yW φ.zero k j I;simpa [madeCells,List.getD] using this
     simp_all
    have s:(madeCells z.cells (k*i.size)).size=k*φ.size:=by simp[madeCells,S]
    have J:=y.alloc (d:=d) (e:=e) (ty:=el) (lst:=true) (cs:=qv n ((φ.zero.map qL).map canon)) (vs:=madeCells z.cells (k*i.size)) Z (by rw[uo,s];simp only[akJ,R];exact akW _ F) (fun j x H=>OY (f:=fun j=>(madeCells z.cells (k*i.size)).getD j undef) m j x (by rw[<- Ut];exact H));refine aP (v:=.slice (some ⟨w.heap.size,0,none⟩) n k) (w':=w.alloc (.cells (madeCells z.cells (k*i.size)) el)) ?_ ⟨ca blk d (some (w.heap.size,0)),?_,?_⟩
    ·simp[execOp,X,hl,G,p]
    ·refine J.weaken fun x v hx =>?_;grind
    ·exact vW (g:=(w.heap.size,0)) (.inr ⟨Y,rfl⟩) (aB _ _ _) (heap_alloc_new w _) F Q (by rw[s];simp)
   ·cases b
  ·cases b
 ·cases b
def acx{a:BinOp}{ty:Nat}{k:IntKind}{x y:Int}{d:D}(c:nM a=false)(h:jG a k x y=some d):∃v,(binOp a ty (.int k x) (.int k y)).run P w=.ok v w∧RP w M d v:=by
 cases a with
 | shl=>simp[nM]at c
 | shr=>simp[nM]at c
 | quo =>
  simp only[jG]at h;split at h
  ·cases h
  ·rename_i b;simp only[akq]at h;subst h;exact⟨_,by simp[binOp,Op.intDiv,b],.int _ _⟩
 | rem =>
  simp only[jG]at h;split at h
  ·cases h
  ·rename_i b;simp only[akq]at h;subst h;exact⟨_,by simp[binOp,Op.intDiv,b],.int _ _⟩
 | add=>simp only[jG,akq]at h;subst h;exact⟨_,by simp[binOp,Op.intArith],.int _ _⟩
 | sub=>simp only[jG,akq]at h;subst h;exact⟨_,by simp[binOp,Op.intArith],.int _ _⟩
 | mul=>simp only[jG,akq]at h;subst h;exact⟨_,by simp[binOp,Op.intArith],.int _ _⟩
 | and=>simp only[jG,akq]at h;subst h;exact⟨_,by simp[binOp,Op.intBits,FQ],.int _ _⟩
 | or=>simp only[jG,akq]at h;subst h;exact⟨_,by simp[binOp,Op.intBits,FQ],.int _ _⟩
 | xor=>simp only[jG,akq]at h;subst h;exact⟨_,by simp[binOp,Op.intBits,FQ],.int _ _⟩
 | andNot=>simp only[jG,akq]at h;subst h;exact⟨_,by simp[binOp,Op.intBits,FQ],.int _ _⟩
 | eql=>simp only[jG,akq]at h;subst h;exact⟨_,by simp[binOp,Op.intCmp],.bool _⟩
 | neq=>simp only[jG,akq]at h;subst h;exact⟨_,by simp[binOp,Op.intCmp],.bool _⟩
 | lss=>simp only[jG,akq]at h;subst h;exact⟨_,by simp[binOp,Op.intCmp],.bool _⟩
 | leq=>simp only[jG,akq]at h;subst h;exact⟨_,by simp[binOp,Op.intCmp],.bool _⟩
 | gtr=>simp only[jG,akq]at h;subst h;exact⟨_,by simp[binOp,Op.intCmp],.bool _⟩
 | geq=>simp only[jG,akq]at h;subst h;exact⟨_,by simp[binOp,Op.intCmp],.bool _⟩
def Uv{a:BinOp}{ty:Nat}{k k':IntKind}{x y:Int}{d:D}(b:nM a=true)(h:A9 a k x y=some d):∃v,(binOp a ty (.int k x) (.int k' y)).run P w=.ok v w∧RP w M d v:=by
 unfold A9 at h;split at h
 ·cases h
 ·rename_i c;cases a<;>simp only[nM,akN]at b<;>simp only[akq]at h<;>subst h<;>exact⟨_,by simp[binOp,Op.shift,c],.int _ _⟩
def acz{a:BinOp}{ty:Nat}{x y:ByteArray}{d:D}(h:JB a x y=some d):∃v,(binOp a ty (.string x) (.string y)).run P w=.ok v w∧RP w M d v:=by
 cases a with
 | add =>
  simp only[JB]at h;split at h
  ·cases h
  ·rename_i b;simp only[akq]at h;subst h;refine⟨_,?_,.str _⟩;simp only[binOp,Op.stringOp];simp_all
 | eql=>simp only[JB,akq]at h;subst h;exact⟨_,by simp[binOp,Op.stringOp],.bool _⟩
 | neq=>simp only[JB,akq]at h;subst h;exact⟨_,by simp[binOp,Op.stringOp],.bool _⟩
 | lss=>simp only[JB,akq]at h;subst h;exact⟨_,by simp[binOp,Op.stringOp],.bool _⟩
 | leq=>simp only[JB,akq]at h;subst h;exact⟨_,by simp[binOp,Op.stringOp],.bool _⟩
 | gtr=>simp only[JB,akq]at h;subst h;exact⟨_,by simp[binOp,Op.stringOp],.bool _⟩
 | geq=>simp only[JB,akq]at h;subst h;exact⟨_,by simp[binOp,Op.stringOp],.bool _⟩
 | _=>simp[JB]at h
end
section
variable {P:Program} {T:Nat->Option Ty} {N:Nat} {M:Nat->Prop} {L:kz} {w0:World} {blk:Nat->Option (Nat×Nat)} {V:Nat->Nat->Prop} {t:Nat->D} {h:Nat->Option Row} {a:Act} {w:World} {e:Nat} {o:Oper} {Γ:Env}
def aeC(p:jL P T){g:Nat}{φ:Ty}(q:T g=some φ)(r:Sk φ.ds=true){x y:D}{u v:Value}{b:Bool}{o:Nat->Prop}(h:RP w o x u)(l:RP w o y v)(a:eqC x y=some b)(n:Nat) :
  (∃d,P.underlying g=some d)∧((∃k,φ.ds=.int k∧∃m i j,x=.int m i∧y=.int m j)∨(φ.ds=.bool∧∃i j,x=.bool i∧y=.bool j)∨(φ.ds=.str∧∃i j,x=.str i∧y=.str j)->(Op.equalIn (n+1) g u v).run P w=.ok b w):=by
 obtain⟨d,f,c⟩:=under p q;refine⟨⟨d,f⟩,?_⟩;rintro (⟨k,e,m,i,j,rfl,rfl⟩|⟨e,i,j,rfl,rfl⟩|⟨e,i,j,rfl,rfl⟩)
 ·rw[e]at c;have:=Bw c;subst this;cases h;cases l;simp only[eqC,if_true,akq]at a;subst a;simp[Op.equalIn,run_underlying f]
 ·rw[e]at c;have:=zg c;subst this;cases h;cases l;simp only[eqC,akq]at a;subst a;simp[Op.equalIn,run_underlying f]
 ·rw[e]at c;have:=vf c;subst this;cases h;cases l;simp only[eqC,akq]at a;subst a;simp[Op.equalIn,run_underlying f]
def Yk{x y:D}{b:Bool}{s:Ds}(a:eqC x y=some b)(c:kindOk s x=true) :
  (∃k,s=.int k∧∃d i j,x=.int d i∧y=.int d j)∨(s=.bool∧∃i j,x=.bool i∧y=.bool j)∨(s=.str∧∃i j,x=.str i∧y=.str j):=by
 cases x<;>cases y<;>simp only[eqC]at a<;>try (cases a;done)
 ·rename_i k i d j;split at a
  ·rename_i e;subst e;cases s<;>simp[kindOk]at c;simp_all
  ·cases a
 ·cases s<;>simp[kindOk]at c;simp_all
 ·cases s<;>simp[kindOk]at c;simp_all
def MN(j:Inv N M L w0 blk V t h a w){x:Operand}{i:Nat}{c:List D}{d:D}(m:o.op=.extract x i)(n:ev t x=.tup c)(k:c[i]? = some d):ff P o a w (bs N M L w0 V t h a e o.dst ⟨d,[]⟩):=by
 have l:=j.ev x;rw[n]at l;have g:RP w (Own M h blk) (.tup c) (a.eval x):=l;generalize p:a.eval x=u at *;cases g with
 | tup c f h1 h2 =>
  have q:=(akI.1 k).1;refine aP (v:=f.getD i undef) (w':=w) ?_ (bs.eL j (b6 (h2 i d k)));have b:f[i]? = some (f.getD i undef):=by simp_all
  generalize f.getD i undef=v at *;simp[execOp,m,Instr.extract,p,b]
def MM(i:jL P T)(j:Inv N M L w0 blk V t h a w){x:Operand}{src f:Nat}{τ σ:Ty}{k b:IntKind}{n:Int}(p:o.op=.convert src f x)(q:T f=some τ)(r:T src=some σ)(g:τ.ds=.int b)(s:ev t x=.int k n) :
  ff P o a w (bs N M L w0 V t h a e o.dst ⟨.int b (b.wrap n),[]⟩):=by
 have l:=j.ev x;rw[s]at l;have u:=oP l;obtain⟨d,y,m⟩:=under i q;obtain⟨d2,c,_⟩:=under i r;rw[g]at m;have:=Bw m;subst this;refine aP (v:=.int b (b.wrap n)) (w':=w) ?_ (bs.eL j (b6 (.int _ _)));have:=run_convert_int (P:=P) (w:=w) src f k n (by simp[c]);simp[execOp,p,u,convert,run_underlying y,run_underlying c,Conv.intToInt]
def Ye(g:Inv N M L w0 blk V t h a w){x:Operand}{f:UnOp}{l:Nat}{d:D}(m:o.op=.unOp f l x)(c:Zz f (ev t x)=some d):ff P o a w (bs N M L w0 V t h a e o.dst ⟨d,[]⟩):=by
 have i:=g.ev x;generalize ev t x=q at *;cases q with
 | int k n =>
  have j:=oP i;cases f<;>simp only[Zz,akq]at c<;>try (cases c;done)
  all_goals
   subst c;refine aP (w':=w) ?_ (bs.eL g (b6 (.int _ _)));simp_all[execOp,Op.unary,Op.intArith,Op.intBits,FQ]
 | bool b =>
  have j:=y7 i;cases f<;>simp only[Zz,akq]at c<;>try (cases c;done)
  all_goals
   subst c;refine aP (w':=w) ?_ (bs.eL g (b6 (.bool _)));simp[execOp,m,j,Op.unary]
 | _=>simp[Zz]at c
def zk:∀{b:List D},tj b=true->∀x∈b,jW x=true
 | [],_,x,a=>by simp at a
 | y::c,h,x,a=>by
  simp only[tj,akP]at h;rcases ako.1 a with rfl|a
  ·exact h.1
  ·exact zk h.2 x a
def RP.flat{g h:Nat->Prop}{d:D}{u:Value}(i:RP w g d u)(a:jW d=true):RP w h d u:=by
 induction i with
 | int k n=>exact .int k n
 | bool b=>exact .bool b
 | str s=>exact .str s
 | sl A c nl tight n xs us h1 h2 h3 h4 h5 h6 h7 h8 ih=>simp[jW]at a
 | agg xs us h1 h2 h3 ih =>
  simp only[jW]at a;exact .agg xs us h1 (fun j x e=>ih j x e (zk a x (akG e))) h3
 | tup xs us h1 h2 ih =>
  simp only[jW]at a;exact .tup xs us h1 (fun j x e=>ih j x e (zk a x (akG e)))
 | ip xs ad us h6 h7 h8 ih=>simp[jW]at a
 | fn f=>exact .fn f
 | ali x v s o n u h1=>simp[jW]at a
 | mpc ks vs mb us h1 h2 h3 h4 ih=>simp[jW]at a
 | alm x v u h1=>simp[jW]at a
 | clo f l xs us h1 h2 ih=>simp[jW]at a
def A4{h:Nat->Option Row}{blk:Nat->Option (Nat×Nat)}{a:Option Nat}{b:Nat}(c:Own M (forget h a) blk b):Own M h blk b:=by
 rcases c with c|⟨x,r,g,d,e,f,i⟩
 ·exact .inl c
 ·refine .inr ⟨x,r,g,?_,e,f,i⟩;cases a with
  | none=>exact d
  | some y =>
   simp_all[forget,ca,aC]
def Inv.fresh(z:Inv N M L w0 blk V t h a w){w':World}{v:Value}{d ty s n:Nat}{cells:List D}{old dst:Option Nat}(B:dst=some d)(C:ky N V d e)
  (hb:eM (fun b=>∃y g,old=some y∧blk y=some g∧b=g.1) w w') (i:∀y,old=some y->∃r,h y=some r∧r.fz=false)
  (G:(∃(g:Nat×Nat)(c:Nat)(l:Array Value),v=.slice (some ⟨g.1,g.2,none⟩) n c∧(w.heap.size<=g.1∨∃y m,old=some y∧blk y=some m∧g.1=m.1)∧w'.heap[g.1]? = some (.cells l ty (0,0))∧n<=c∧c<=maxLen∧c*s+g.2=l.size∧g.2+cells.length<=l.size ∧
   ∀(j:Nat) d,cells[j]? = some d->bu d=true∧RP w' (fun b=>Own M (forget h old) blk b∨b=g.1) d (l.getD (g.2+j) undef))∨(n=0∧cells=[]∧∃A,v=.slice A 0 0)) :
  ∃f,Inv N M L w0 f (fun x k=>V x k∨(dst=some x∧k=e)) t (ca (forget h old) d (some ⟨e,ty,cells,false,true,false⟩)) a w' ∧
   RT w' (Own M (ca (forget h old) d (some ⟨e,ty,cells,false,true,false⟩)) f) (ca (forget h old) d (some ⟨e,ty,cells,false,true,false⟩)) f (fun x k=>V x k∨(dst=some x∧k=e)) (.buf d e s 0 n) v:=by
 have E:∀{f:Nat->Option (Nat×Nat)},Inv N M L w0 f (fun x k=>V x k∨(x=d∧k=e)) t (ca (forget h old) d (some ⟨e,ty,cells,false,true,false⟩)) a w'->Inv N M L w0 f (fun x k=>V x k∨(dst=some x∧k=e)) t (ca (forget h old) d (some ⟨e,ty,cells,false,true,false⟩)) a w':=fun hJ=>hJ.weaken fun x k Q=>by
  grind
 rcases G with⟨g,c,l,rfl,H,F,I,J,K,O,P⟩|⟨rfl,rfl,A,rfl⟩
 ·refine⟨ca blk d (some g),E (z.Tf (old:=old) hb.os hb.tape hb.output hb.size (fun k o hn=>hb.block k o (fun⟨y,m,p,q,u⟩=>hn y m p q u)) i rfl C ⟨H,l,F,O,P⟩),?_⟩;exact vW (.inr ⟨B,rfl⟩) (aB _ _ _) F I J K
 ·refine⟨ca blk d none,E (z.Tf (go:=none) (old:=old) hb.os hb.tape hb.output hb.size (fun k o hn=>hb.block k o (fun⟨y,m,p,q,u⟩=>hn y m p q u)) i rfl C rfl),?_⟩;exact⟨.inr ⟨B,rfl⟩,fun _ _ _ =>.inr ⟨aB _ _ _,rfl,A,rfl⟩⟩
def RP.less{M1 a:Nat->Prop}{d:D}{u:Value}(c:RP w M1 d u)(e:∀b,a b->M1 b):RP w a d u:=c.keep fun _ f h2=>⟨f,fun g=>h2 (e _ g),rfl⟩
def Inv.FL(k:Inv N M L w0 blk V t h a w){f c:List D}{l:List Nat}{e:Array Value}{m:Nat->Prop}(g:Am.bZ h f=some (c,l))(n:rU M h blk l m)(i:e.size=f.length)
  (r:∀(j:Nat) d,f[j]? = some d->RT w (Own M h blk) h blk V d (e.getD j undef)):Bk w m c e:=by
 obtain⟨o,s⟩:=k.bZ (us:=e.toList) g n (by simpa using i) (fun j d p=>by simp_all);refine⟨by simpa using o,fun j d p =>?_,fun b q=>(k.tab b q).less n.le⟩;simp_all
def OS(hΓ:bU P Γ)(hI:Inv N M L w0 blk V t h a w){g:Nat}{o:Option Nat}{E:cv}{K:List D}{u:Array Value}(l:xE Γ h e o g K=some E)(hV:∀d,o=some d->ky N V d e)(p:u.size=K.length)
  (I:∀(j:Nat) d,K[j]? = some d->RT w (Own M h blk) h blk V d (u.getD j undef)):fe P g∧Calls P g u w fun F G=>∃v,F=.returned v∧bs N M L w0 V t h a e o E v G:=by
 unfold xE at l;split at l
 ·rename_i H C q;split at l
  ·rename_i r O Q;simp only[akq]at l;subst l;obtain⟨i,z⟩:=hΓ.calls g none H _ _ Q;refine⟨z,?_⟩
   by_cases f:jW r=true
   ·refine (i w _ u (fun b k=>hI.A5 k.1) (hI.FL q (hI.K8 C) p I)).mono fun F G A =>?_;obtain⟨v,B,k,m⟩:=A;refine⟨v,B,?_⟩;rw[if_pos f];exact bs.eL (hI.later k) (b6 (RP.flat m f))
   ·have hIf:=hI.freeze C;refine (i w _ u (fun b k=>hIf.A5 k) (hI.FL q (hI.gU C) p I)).mono fun F G A =>?_;obtain⟨v,B,k,m⟩:=A;refine⟨v,B,?_⟩;rw[if_neg f];exact⟨blk,(hIf.later k).weaken fun _ _ h =>.inl h,b6 m⟩
  ·rename_i ty s n cells O Q;split at l
   ·rename_i d;split at l
    ·rename_i aa;simp only[akq]at l;subst l;obtain⟨i,z⟩:=hΓ.calls g none H _ _ Q;refine⟨z,?_⟩
     by_cases f:tj cells=true
     ·refine (i w _ u (fun b k=>hI.A5 k.1) (hI.FL q (hI.K8 C) p I)).mono fun F G A =>?_;obtain⟨v,B,k,m⟩:=A;refine⟨v,B,?_⟩;rw[if_pos f];exact hI.fresh (old:=none) rfl (hV d rfl) (eM.vw k) (fun y R=>by cases R) (by
       rcases m with⟨g,c,S,T,U,W,X,Y,Z,h7,J⟩|m
       ·exact .inl ⟨g,c,S,T,.inl (U.resolve_right id),W,X,Y,Z,h7,fun j x hj=>⟨(J j x hj).1,(J j x hj).2.flat (zk f x (akG hj))⟩⟩
       ·exact .inr m)
     ·have hIf:=hI.freeze C;refine (i w _ u (fun b k=>hIf.A5 k) (hI.FL q (hI.gU C) p I)).mono fun F G A =>?_;obtain⟨v,B,k,m⟩:=A;refine⟨v,B,?_⟩;rw[if_neg f];have:=hIf.fresh (e:=e) (ty:=ty) (s:=s) (cells:=cells) (n:=n) (v:=v) (old:=none) (dst:=some d) rfl (hV d rfl) (eM.vw k) (fun y R=>by cases R) (by
       rcases m with⟨g,c,S,T,U,W,X,Y,Z,h7,J⟩|m
       ·exact .inl ⟨g,c,S,T,.inl (U.resolve_right id),W,X,Y,Z,h7,J⟩
       ·exact .inr m)
      unfold bs;rw[iM];exact this
    ·cases l
   ·cases l
  ·cases l
 ·cases l
def Inv.afy(f:Inv N M L w0 blk V t h a w){x v:Nat}{r:Row}(d:live h x v=some r){u:Value}:(∀s o n,RT w (Own M h blk) h blk V (.buf x v s o n) u->DK w (blk x) (.buf 0 0 s o n) u)∧(∀o,RT w (Own M h blk) h blk V (.ptr x v o) u->DK w (blk x) (.ptr 0 0 o) u):=by
 obtain⟨b,c⟩:=cQ d;exact⟨fun s o n hr=>⟨trivial,fun e _ _=>hr.2 r b c⟩,fun o hr=>⟨trivial,fun e _ _=>hr.2 r b c⟩⟩
def Inv.abU(e:Inv N M L w0 blk V t h a w){x v:Nat}{r:Row}(b:AV h x v=some r){u:Value}(hr:RT w (Own M h blk) h blk V (.mp x v) u):DK w (blk x) (.mp 0 0) u:=by
 obtain⟨c,d,_⟩:=Eo b;exact⟨trivial,fun f _ _=>hr.2 r c d⟩
def T8{d0:D}{x v:Nat}{r:Row}(a:BZ d0 h x v=some r):(h x=some r∧r.v=v)∧xp r=true:=by
 unfold BZ at a;split at a
 ·obtain⟨b,c,_,d⟩:=Eo a;simp_all
 ·exact⟨cQ a,Hm (jz a)⟩
def FY(hΓ:bU P Γ)(hI:Inv N M L w0 blk V t h a w){g x v:Nat}{d0:D}{K:Option Nat}{E:cv}{ds:List D}{u0:Value}{Y:Array Value}(i:sX Γ h e K g x v d0 ds = some E)(hV:∀ d, K = some d -> ky N V d e)(ai:V x v)
    (h0:∀ r, BZ d0 h x v = some r -> DK w (blk x) d0 u0) (aj:Y.size = ds.length) (hr:∀(j:Nat) d, ds[j]? = some d -> RT w (Own M h blk) h blk V d (Y.getD j undef)) :
    fe P g ∧ Calls P g (#[u0] ++ Y) w fun R B => ∃ v, R = .returned v ∧ bs N M L w0 V t h a e K E v B:=by
  unfold sX at i;split at i
  · rename_i r hl
    obtain ⟨⟨hx, hv⟩, al⟩:=T8 hl;split at i
    · rename_i hz
      split at i
      · rename_i S A an
        split at i
        · rename_i ao
          have hIf:=hI.freeze A;have I:aW h (kE h A) x = some r:=by rw [CM ao]; exact hx
          have aq:∀ b, w8 (blk x) b -> Own M (aW h (kE h A)) blk b:=fun b ⟨p, l, q⟩ => .inr ⟨x, r, p, I, hz, l, q.symm⟩;have O:∀ b, ((Own M (aW h (kE h A)) blk b ∧ ¬ w8 (blk x) b) ∨ w8 (blk x) b) -> Own M (aW h (kE h A)) blk b:=fun b hb => hb.elim (·.1) (aq b);have C:=hI.FL an (hI.gU A) aj hr;have Q:Bk w (fun b => (Own M (aW h (kE h A)) blk b ∧ ¬ w8 (blk x) b) ∨ w8 (blk x) b) S Y:=⟨C.1, fun j d hj => (C.2 j d hj).less O, fun b hb => (C.tab b hb).less O⟩;have aa:Vm w (fun b => (Own M (aW h (kE h A)) blk b ∧ ¬ w8 (blk x) b) ∨ w8 (blk x) b) (blk x) { r with v:=0 }:=by
            have:=(hIf.rows x r I).2;cases G:blk x with
            | none => rw [G] at this; exact this
            | some p =>
              rw [G] at this O;exact eJ.keep (r':={ r with v:=0 }) this.2 rfl rfl rfl rfl (fun b h1 h2 => ⟨h1, fun hb => h2 (O b hb), rfl⟩)
          have ab:∀(r2:Option Row) b, Own M (ca (aW h (kE h A)) x r2) blk b -> (Own M (aW h (kE h A)) blk b ∧ ¬ w8 (blk x) b) ∨ w8 (blk x) b:=by
            intro r2 b hb
            by_cases hi:w8 (blk x) b
            · exact .inr hi
            · refine .inl ⟨?_, hi⟩
              rcases hb with hb | ⟨y, s, p, hy, ar, l, q⟩
              · exact .inl hb
              · by_cases ad:y = x
                · subst ad; exact absurd ⟨p, l, q.symm⟩ hi
                · rw [aC _ _ ad] at hy
                  exact .inr ⟨y, s, p, hy, ar, l, q⟩
          have key:∀{rk:RK}{T:Option Row}, Γ.sem g (some (d0, { r with v:=0 })) S = some (rk, T) -> fe P g ∧ Calls P g (#[u0] ++ Y) w fun R B => ∃ u, R = .returned u ∧ eM (w8 (blk x)) w B ∧
              (∀ J, T = some J -> Inv N M L w0 blk V t (ca (aW h (kE h A)) x (some { J with v:=v })) a B ∧ J.ty = r.ty) ∧
              (match rk with
               | .same s o n => DK B (blk x) (.buf 0 0 s o n) u
               | .clean d => RP B (fun b => (Own M (aW h (kE h A)) blk b ∧ ¬ w8 (blk x) b) ∨ w8 (blk x) b) d u
               | .fresh Z s n cells => xy w B (fun b => Own M (aW h (kE h A)) blk b ∧ ¬ w8 (blk x) b) (w8 (blk x)) u (.fresh Z s n cells)):=by
            intro rk T U;obtain ⟨f, F⟩:=hΓ.calls g _ S _ _ U;refine ⟨F, ?_⟩;refine (f w (fun b => Own M (aW h (kE h A)) blk b ∧ ¬ w8 (blk x) b) (blk x) u0 Y (fun b hb => hIf.A5 hb.1) (fun b hb hb' => hb'.2 hb) hz (by simpa [xp] using al) aa (h0 r hl) Q).mono fun R B G => ?_;obtain ⟨u, q, hb, ho, hk⟩:=G;refine ⟨u, q, hb, fun J au => ?_, hk⟩;subst au;obtain ⟨o1, o2, ⟨ax, av⟩, o3, o4⟩:=ho;refine ⟨?_, o1⟩;have:=hIf.lU (r0:={ J with v:=v }) (w':=B) I hz hv.symm hb.os hb.tape hb.output hb.size (fun b aw hb2 => hb.block b aw (fun ⟨p, l, q⟩ => hb2 p l q)) (by
              cases G:blk x with
              | none => rw [G] at o4; exact o4
              | some p =>
                rw [G] at o3 o4;refine ⟨o3 p rfl, eJ.keep (r':={ J with v:=v }) o4 rfl rfl rfl rfl (fun b h1 h2 => ⟨h1, fun hb => h2 ?_, rfl⟩)⟩;simp_all) (fun h => by simp_all) (fun hm p _ j x' s n hj => by
                  obtain ⟨ks, ay, hc⟩:=B4 av hm;grind)
            exact this
          split at i
          · rename_i c J U
            simp only [akq] at i;subst i;obtain ⟨F, f⟩:=key U;refine ⟨F, f.mono fun R B G => ?_⟩;obtain ⟨u, q, hb, ho, hk⟩:=G;refine ⟨u, q, blk, ?_, ?_⟩
            · rw [iM]; exact (ho J rfl).1.weaken fun _ _ h => .inl h
            · rw [iM]; exact b6 (RP.less hk (ab _))
          · rename_i s o' n J U
            simp only [akq] at i;subst i;obtain ⟨F, f⟩:=key U;refine ⟨F, f.mono fun R B G => ?_⟩;obtain ⟨u, q, hb, ho, hk⟩:=G;refine ⟨u, q, blk, ?_, ?_⟩
            · rw [iM]; exact (ho J rfl).1.weaken fun _ _ h => .inl h
            · rw [iM]
              exact ⟨.inl ai, fun r' _ _ => hk.2 ⟨0, 0, [], false, false, false⟩ rfl rfl⟩
          · rename_i Z s n cells U
            split at i
            · rename_i d
              split at i
              · rename_i hd
                simp only [akq] at i;subst i;obtain ⟨F, f⟩:=key U;refine ⟨F, f.mono fun R B G => ?_⟩;obtain ⟨u, q, hb, _, hk⟩:=G;refine ⟨u, q, ?_⟩;have:=hIf.fresh (e:=e) (ty:=Z) (s:=s) (cells:=cells) (n:=n) (v:=u) (old:=some x) (dst:=some d) rfl (hV d rfl) (w':=B) ⟨hb.os, hb.tape, hb.output, hb.size, fun k hk hn => hb.block k hk (fun ⟨p, l, q⟩ => hn ⟨x, p, rfl, l, q⟩)⟩ (fun y hy => by simp_all) (by
                  rcases hk with ⟨g, c, cs, h1, h2, h3, h4, h5, h6, h7, h8⟩ | hv
                  · refine .inl ⟨g, c, cs, h1, h2.imp id (fun ⟨p, l, q⟩ => ⟨x, p, rfl, l, q⟩), h3, h4, h5, h6, h7, fun j y hj => ⟨(h8 j y hj).1, ?_⟩⟩
                    refine (h8 j y hj).2.less fun b hb => ?_;rcases hb with hb | hb
                    · refine .inl ⟨?_, ?_⟩
                      · rcases hb with hb | ⟨z, s', p, m, ae, W, X⟩
                        · exact .inl hb
                        · simp only [forget] at m
                          by_cases H:z = x
                          · subst H; simp [ca] at m
                          · rw [aC _ _ H] at m
                            exact .inr ⟨z, s', p, m, ae, W, X⟩
                      · rintro ⟨g1, ag, ah⟩
                        rcases hb with hb | ⟨z, s', p, m, ae, W, X⟩
                        · rw [ah] at hb
                          exact hIf.notM I ag hb
                        · simp only [forget] at m
                          by_cases H:z = x
                          · subst H; simp [ca] at m
                          · rw [aC _ _ H] at m
                            exact H (hIf.inj z x s' r p g1 m I W ag (X.trans ah))
                    · exact .inr hb
                  · exact .inr hv)
                unfold bs;have e1:kE h A ++ [(x, none), (d, some ⟨e, Z, cells, false, true, false⟩)] = (kE h A ++ [(x, none)]) ++ [(d, some ⟨e, Z, cells, false, true, false⟩)]:=by simp
                rw [e1, iM, iM];exact this
              · cases i
            · cases i
          · cases i
        · cases i
      · cases i
    · cases i
  · cases i
inductive pY(Q:D->Value->Prop):List D->List Value->Prop
 | nil:pY Q [] []
 | cons {d:D} {u:Value} {ds:List D} {us:List Value} (h:Q d u) (hs:pY Q ds us):pY Q (d::ds) (u::us)
def pY.length{Q:D->Value->Prop}{a:List D}{b:List Value}(h:pY Q a b):b.length=a.length:=by
 induction h with
 | nil=>rfl
 | cons h hs c=>simp[c]
def pY.of{Q:D->Value->Prop}:∀{a:List D}{b:List Value},b.length=a.length->(∀(j:Nat) d,a[j]? = some d->Q d (b.getD j undef))->pY Q a b
 | [],[],_,_ =>.nil
 | [],_::_,h,_=>by simp at h
 | _::_,[],h,_=>by simp at h
 | d::a,u::b,h,c =>.cons (by simpa using c 0 d rfl) (pY.of (by simpa using h) fun j x e=>by simpa using c (j+1) x (by simpa using e))
def pY.at_{Q:D->Value->Prop}{a:List D}{b:List Value}(h:pY Q a b):∀(j:Nat) d,a[j]? = some d->∃u,b[j]? = some u∧Q d u:=by
 induction h with
 | nil=>simp_all
 | cons h hs c =>
  grind
def pY.append{Q:D->Value->Prop}{c a:List D}{d b:List Value}(h:pY Q c d)(e:pY Q a b):pY Q (c++a) (d++b):=by
 induction h with
 | nil=>exact e
 | cons h hs f=>exact .cons h f
def pY.take{Q:D->Value->Prop}{a:List D}{b:List Value}(h:pY Q a b):∀n:Nat,pY Q (a.take n) (b.take n):=by
 induction h with
 | nil=>intro n;simp;exact .nil
 | cons h hs c =>
  intro n;cases n with
  | zero=>exact .nil
  | succ n=>exact .cons h (c n)
def pY.drop{Q:D->Value->Prop}{a:List D}{b:List Value}(h:pY Q a b):∀n:Nat,pY Q (a.drop n) (b.drop n):=by
 induction h with
 | nil=>intro n;simp;exact .nil
 | cons h hs c =>
  intro n;cases n with
  | zero=>exact .cons h hs
  | succ n=>exact c n
def pY.mono{Q Q':D->Value->Prop}{a:List D}{b:List Value}(h:pY Q a b)(c:∀d u,Q d u->Q' d u):pY Q' a b:=by
 induction h with
 | nil=>exact .nil
 | cons h hs e=>exact .cons (c _ _ h) e
def Inv.aiv(m:Inv N M L w0 blk V t h a w){x v s n:Nat}{r:Row}{u:Value}(o:live h x v=some r)(C:RT w (Own M h blk) h blk V (.buf x v s 0 n) u) :
  ∃p,Z4 w r.ty s (blk x) u n p∧pY (fun d u=>bu d=true∧RP w (Own M h blk) d u) r.cells p:=by
 obtain⟨f,D⟩:=cQ o;rcases C.2 r f D with⟨g,J,c,E,K,b,rfl,F,G,H,q⟩|⟨b,rfl,A,rfl⟩
 ·obtain⟨arr,z,O,P⟩:=m.Hh f b (jz o);obtain⟨B,Q⟩:=F (.inr rfl);have R:E=arr.size:=by
   simp only[World.shape?,z,akq,Prod.mk.injEq]at q;exact q.2.symm
  rw[akO]at B;subst B;refine⟨(List.range r.cells.length).map fun j=>arr.getD (g.2+j) undef,.inl ⟨g,c,arr,b,rfl,z,by omega,G,H,fun j y k =>?_⟩,pY.of (by simp) fun j d k =>?_⟩
  ·rw[akf,akg]at k;obtain⟨i,l,rfl⟩:=k;have e:=(akI.1 l).1;rw[List.getElem?_range (by simpa using e)]at l;cases l;simp only[akK]at e;rw[akm,alo (show g.2+j<arr.size by omega)];rfl
  grind
 ·have:=(m.rows x r f).2;rw[b]at this;have I:r.cells=[]:=this;exact⟨[],.inr ⟨b,rfl,rfl,A,rfl⟩,by rw[I];exact .nil⟩
def aav{g:Nat}{p:Nat×Nat×Nat}(f:ZT P g p)(hI:Inv N M L w0 blk V t h a w){A:Option Nat}{E:cv}{Q:List D}{H:Array Value}(B:w9 h e A p Q=some E)(hV:∀d,A=some d->ky N V d e)(R:H.size=Q.length)
  (hr:∀(j:Nat) d,Q[j]? = some d->RT w (Own M h blk) h blk V d (H.getD j undef)):fe P g∧Calls P g H w fun e' w'=>∃v,e'=.returned v∧bs N M L w0 V t h a e A E v w':=by
 refine⟨f.callable,?_⟩;unfold w9 at B;split at B<;>try (cases B;done)
 rename_i x v s o n i y v' s' o' m;split at B<;>try (cases B;done)
 rename_i r S d hl T;split at B<;>try (cases B;done)
 rename_i hc;obtain⟨hz,aA,ax,ab,hxy,rfl,rfl,ad,U,rfl,rfl,W,I,aB,aD,ae,X⟩:=hc;simp only[akq]at B;subst B;obtain⟨hx,hv⟩:=cQ hl;obtain⟨hy,aE⟩:=cQ T;have ag:H = #[H.getD 0 undef,H.getD 1 undef,H.getD 2 undef]:=by
  simp only[List.length_cons,List.length_nil]at R;apply alp
  ·simp[R]
  ·intro j h1 h2;have:j=0∨j=1∨j=2:=by omega
   rcases this with rfl|rfl|rfl<;>simp[alo h1]
 have h0:=hr 0 _ rfl;have h1:=oP (hr 1 _ rfl);have h2:=hr 2 _ rfl;obtain⟨Y,a1,a2⟩:=hI.aiv hl h0;obtain⟨J,b1,b2⟩:=hI.aiv T h2;rw[ad]at a1;rw[U]at b1;have F:∀{Q:List D}{us:List Value},pY (fun d u=>bu d=true∧RP w (Own M h blk) d u) Q us->∀u∈us,u.oneCell'=true:=by
  intro Q us hR
  induction hR with
  | nil=>grind
  | cons h hs ih =>
   intro u hu;rcases ako.1 hu with rfl|hu
   ·exact h.2.sn h.1
   ·exact ih u hu
 rw[ag,h1,show i=((i.toNat:Nat):Int) by omega];refine (f.calls w (blk x) (blk y) _ _ i.toNat n m Y J a1 b1 (fun g g' hg ah K=>hxy (hI.inj x y r S g g' hx hy hg ah K)) (by rw[a2.length,W]) (by rw[b2.length,I]) (F a2) (F b2) (by omega) ae X).mono fun e' w' hg =>?_;obtain⟨u,K,hb,g,c,ai,rfl,g1,g2,g3,g4,g5,g6⟩:=hg;refine⟨_,K,?_⟩;have aj:=hI.drop y;have aF:ca h y none x=some r:=by rw[aC _ _ hxy];exact hx
 have G:pY (fun d u=>bu d=true∧RP w (Own M h blk) d u) (r.cells.take (i.toNat*p.2.1)++(S.cells++r.cells.drop (i.toNat*p.2.1))) (Y.take (i.toNat*p.2.1)++(J++Y.drop (i.toNat*p.2.1))):=(a2.take _).append (b2.append (a2.drop _));have ay:∀b,Own M (forget (ca h y none) (some x)) blk b->Own M h blk b:=by
  intro b hb;rcases A4 hb with hb|⟨z,q,O,C,al,an,ao⟩
  ·exact .inl hb
  ·by_cases Z:z=y
   ·subst Z;simp[ca]at C
   ·rw[aC _ _ Z]at C;exact .inr ⟨z,q,O,C,al,an,ao⟩
 have aq:∀b,w8 (blk x) b->Own M h blk b:=fun b ⟨O,l,ar⟩ =>.inr ⟨x,r,O,hx,hz,l,ar.symm⟩;have aa:=aj.fresh (e:=e) (ty:=p.1) (s:=p.2.1) (cells:=r.cells.take (i.toNat*p.2.1)++(S.cells++r.cells.drop (i.toNat*p.2.1))) (n:=n+m) (v:=.slice (some ⟨g.1,g.2,none⟩) (n+m) c) (old:=some x) (dst:=some d) rfl (hV d rfl) (w':=w')
  ⟨hb.os,hb.tape,hb.output,hb.size,fun k hk hn=>hb.block k hk (fun⟨O,l,K⟩=>hn ⟨x,O,rfl,l,K⟩)⟩ (fun z C=>by grind)
  (.inl ⟨g,c,ai,rfl,g1.imp id (fun⟨O,l,K⟩=>⟨x,O,rfl,l,K⟩),g2,g3,g4,g5,?_,fun j d' hj =>?_⟩)
 ·unfold bs;exact aa
 ·have az:=f.pos;have e1:(Y.take (i.toNat*p.2.1)++(J++Y.drop (i.toNat*p.2.1))).length=(r.cells.take (i.toNat*p.2.1)++(S.cells++r.cells.drop (i.toNat*p.2.1))).length:=G.length;have e2:(r.cells.take (i.toNat*p.2.1)++(S.cells++r.cells.drop (i.toNat*p.2.1))).length=(n+m)*p.2.1:=by
   grind
  rw[e2];have:=akW p.2.1 g3;omega
 ·obtain⟨u,hu,au,av⟩:=G.at_ j d' hj;have aw:=g6 j u hu;refine⟨au,?_⟩;rw[akm,aw];refine av.keep fun b q1 q2=>⟨akl q1 hb.size,?_,hb.block b q1 (fun hn=>q2 (aq b hn))⟩;grind
def aat{g:Nat}{p:Grow}(Q:ae3 P g p)(R:Inv N M L w0 blk V t h a w)(hP:∀x v,V x v->x<N∨2*PK<=x){au:Option Nat}{E:cv}{ds:List D}{vs:Array Value}(B:zT h p ds=some E)(av:vs.size=ds.length)
  (hr:∀(j:Nat) d,ds[j]? = some d->RT w (Own M h blk) h blk V d (vs.getD j undef)):fe P g∧Calls P g vs w fun e' S=>∃v,e'=.returned v∧bs N M L w0 V t h a e au E v S:=by
 refine⟨Q.callable,?_⟩;unfold zT at B;split at B<;>try (cases B;done)
 rename_i y v k m;split at B<;>try (cases B;done)
 rename_i i l s n r aw hk;split at B<;>try (cases B;done)
 rename_i T;obtain⟨rfl,aa,ab,ad,ax,aQ,aR,rfl,ay,I,ae⟩:=T;split at B<;>try (cases B;done)
 rename_i cs J;simp only[akq]at B;subst B;obtain⟨hy,hv,ag,az⟩:=AW aw;obtain⟨f1,f2,f3,f4⟩:=Q.flat _ _ _ J;have h0:=hr 0 _ rfl;obtain⟨f,q,aS⟩:=h0.2 i hy hv;have U:=R.rowIs hy q;unfold eJ at U;rw[ag]at U;rcases U with⟨_,_,aT,_⟩|⟨_,G,y1,y2,_⟩
 ·simp_all
 replace y2:f.2<G.size:=by grind
 obtain⟨_,u,C,aA⟩:=R.pha y i f hy ag q 0 _ _ _ (by rw[az];rfl);rw[akO]at C;have aD:y<N:=by have:=hP _ _ h0.1;omega
 have aE:G[f.2]? = some u:=by
  rw[bf y1 y2]at C;simp_all
 have aP:=R.big;have aV:PK=1000000:=rfl;have hyk:y≠l:=by omega
 have aF:Z4 w p.ty p.k (blk l) u n (r.cells.map Oc):=by
  rcases aA r hk with⟨g',c,N',aX,K,rfl,g2,g3,g4,g5⟩|⟨K,rfl,A,rfl⟩
  ·obtain⟨F,k1,k2,k3⟩:=R.Hh hk K ax;rw[ay]at k1;refine .inl ⟨g',c,F,K,rfl,k1,?_,g3,g4,fun j x o =>?_⟩
   ·simp only[World.shape?,k1,akq,Prod.mk.injEq]at g5;omega
   ·rw[akf,akg]at o;obtain⟨d,o,rfl⟩:=o;have aG:=(akI.1 o).1;have:=KU (f1 d (akG o)) (k3 j d o).2;rw[alo (by omega),<- this,akm,alo (by omega)];rfl
  ·have:=(R.rows l r hk).2;rw[K]at this;have hc:r.cells=[]:=this;exact .inr ⟨K,rfl,by rw[hc];rfl,A,rfl⟩
 have ah:∀g,blk l=some g->g.1≠f.1:=fun g hg he=>hyk (R.inj y l i r f g hy hk q hg he.symm);have aH:vs = #[.pointer (some ⟨f.1,f.2,none⟩)]++(m.map aeX).toArray:=by
  apply alp
  ·simp_all
  ·intro j h1 h2;cases j with
   | zero =>
    simp_all
   | succ j =>
    have o:j<m.length:=by simp at av;omega
    have Z:=hr (j+1) _ (by rw[ale];exact aku o);have H:=f2 _ (akt o);have aI:RP w (Own M h blk) m[j] (vs.getD (j+1) undef):=by
     revert Z H;generalize m[j]=d;intro Z H;cases d<;>first|exact Z|cases H
    have:=Yn H aI;simp_all
 rw[aH];refine (Q.calls w f G i.ty (blk l) u n r.cells m cs y1 aE aF ah I J ae).mono fun e' S W =>?_;obtain⟨he,O,g,c,F,q1,q2,q3,q4,q5,q6,q7⟩:=W;refine⟨_,he,ca blk l (some g),?_,RP.int _ _⟩;have aJ:∀v,¬V l v:=fun v hv=>by grind
 generalize aK:Value.slice (some ⟨g.1,g.2,none⟩) (n+1) c=X at q2;have ai:(w.setRow f.1 (G.setIfInBounds f.2 X)).heap[f.1]? = some (.cells (G.setIfInBounds f.2 X) i.ty (0,0)):=setRow_heap w f.1 G _ i.ty (0,0) y1;have aj:(w.setRow f.1 (G.setIfInBounds f.2 X)).heap.size=w.heap.size:=by simp[World.setRow]
 have hheap:∀b,b≠f.1->(w.setRow f.1 (G.setIfInBounds f.2 X)).heap[b]? = w.heap[b]?:=by
  intro b O;simp only[World.setRow,akr];grind
 have aL:=R.lU (r0:=⟨i.v,i.ty,[],false,false,false⟩) (w':=w.setRow f.1 (G.setIfInBounds f.2 X)) hy ad rfl rfl rfl rfl (by omega) (fun b _ O=>hheap b (O f q)) (by
  rw[q];exact⟨by simp[World.shape?,ai,y1],_,ai,by simp;omega,fun j d o=>by simp at o⟩) (fun h=>by cases h)
 have aY:ca h y (some (⟨i.v,i.ty,[],false,false,false⟩:Row)) l=some r:=by rw[aC _ _ (Ne.symm hyk)];exact hk
 have hA:=aL.aac (w':=S) (h1:=forget (ca h y (some ⟨i.v,i.ty,[],false,false,false⟩)) (some l)) (old:=some l) (d:=l) (r0:=⟨r.v,p.ty,r.cells++cs,false,true,false⟩) (go:=some g) (y0:=y) O.os O.tape O.output (by rw[aj];exact O.size)
  (fun b aG hn=>by
   by_cases al:b=f.1
   ·simp_all
   ·rw[hheap b al];refine O.block b (by omega) ?_;rintro (hh|⟨K,an,hh⟩)
    ·exact al hh
    grind) (fun y' aZ=>by simp_all) rfl aa aD aJ
  (fun r' Y=>by
   simp only[forget]at Y;rw[aC _ _ hyk,aB]at Y;cases Y;rfl) (by
  refine⟨q1.imp (fun hh=>by rw[aj];exact hh) (fun⟨K,an,hh⟩=>⟨l,K,rfl,an,hh⟩),F,q3,?_,fun j d o =>?_⟩
  ·simp only[alh,f4,I];have:=akW p.k q4;grind
  ·have aM:Ei d=true:=by
    grind
   have hx:=q7 j (Oc d) (by grind);have:F.getD (g.2+j) undef=Oc d:=by simp_all
   rw[this];exact abj aM) rfl
 have aN:ca (forget (ca h y (some (⟨i.v,i.ty,[],false,false,false⟩:Row))) (some l)) l (some (⟨r.v,p.ty,r.cells++cs,false,true,false⟩:Row)) y=some ⟨i.v,i.ty,[],false,false,false⟩:=by
  rw[aC _ _ hyk];simp only[forget];rw[aC _ _ hyk,aB]
 have ao:ca blk l (some g) y=some f:=by rw[aC _ _ hyk,q]
 have aq:f.2<(G.setIfInBounds f.2 X).size:=by simpa using y2
 have hB:=hA.lU (r0:=⟨i.v,i.ty,[.ph l p.k (n+1)],false,false,true⟩) (w':=S) aN rfl rfl rfl rfl rfl (aki _) (fun b _ _=>rfl) (by
  rw[ao];refine⟨rfl,.inr ⟨fun d Z=>by simp only[akC]at Z;subst Z;rfl,_,q2,by grind,fun j d o =>?_⟩⟩;cases j with
  | zero=>simp only[List.getElem?_cons_zero,akq]at o;subst o;trivial
  | succ j=>simp at o) (fun h=>by cases h) (fun _ g' ar j x' s' n' hc=>by
  rw[ao]at ar;cases ar;cases j with
  | succ j=>simp at hc
  | zero =>
  simp only[List.getElem?_cons_zero,akq,D.ph.injEq]at hc;obtain⟨rfl,rfl,rfl⟩:=hc;rw[akO];refine⟨⟨ab,.inl aa⟩,X,?_,fun r' _ =>.inl ⟨g,c,F.size,p.ty,aB _ _ _,aK.symm,q6,q4,q5,by simp[World.shape?,q3]⟩⟩;rw[bf q2 aq];simp_all)
 have aO:aW h [(l,some (⟨r.v,p.ty,r.cells++cs,false,true,false⟩:Row)),(y,some ⟨i.v,i.ty,[.ph l p.k (n+1)],false,false,true⟩)]=ca (ca (forget (ca h y (some (⟨i.v,i.ty,[],false,false,false⟩:Row))) (some l)) l (some (⟨r.v,p.ty,r.cells++cs,false,true,false⟩:Row))) y (some ⟨i.v,i.ty,[.ph l p.k (n+1)],false,false,true⟩):=by
  funext z;simp only[aW,forget,ca];simp_all
 show Inv _ _ _ _ _ _ _ (aW h _) _ _;rw[aO];exact hB.weaken fun _ _ h =>.inl h
def X9(J:bU P Γ)(hI:Inv N M L w0 blk V t h a w){c:Call}{f:Operand}{E:cv}(ho:o.op=.call c)(hc:c.callee=.value f)(Q:∀d,o.dst=some d->ky N V d e)(hP:∀x v,V x v->x<N∨2*PK<=x)(D:jP Γ h e o.dst (ev t f) (c.args.toList.map (ev t))=some E):ff P o a w (bs N M L w0 V t h a e o.dst E):=by
 have hf:=hI.ev f;have b:∀(j:Nat) d,(c.args.toList.map (ev t))[j]? = some d->RT w (Own M h blk) h blk V d ((c.args.map a.eval).getD j undef):=by
  intro j d A;rw[akf]at A;cases hx:c.args.toList[j]? with
  | none=>simp[hx]at A
  | some x =>
   simp only[hx,Option.map_some,akq]at A;subst A;have:(c.args.map a.eval).getD j undef=a.eval x:=by
    simp_all
   rw[this];exact hI.ev x
 have B:(c.args.map a.eval).size=(c.args.toList.map (ev t)).length:=by simp
 have S:∀{g:Nat}{R l:Array Value},a.eval f=.func (.func g) R l->fe P g->(execOp a.eval o).run P w=.ok (.enter g (R++c.args.map a.eval++l)) w:=by
  intro g R l z ⟨fn,aa,K,ab⟩;have hn:¬fn.name = "runtime.NumGoroutine":=by simpa using K
  have hb:¬fn.body=none:=by
   grind
  simp[execOp,ho,resolve,hc,z,Deferred.ofValue,invoke,callFunc,program,Sem.run,aa,hn,hb]
 generalize c.args.toList.map (ev t)=ds at *;generalize c.args.map a.eval=k at *;generalize ev t f=q at *;have m:∀{g:Nat}{R l:Array Value}{args:Array Value},a.eval f=.func (.func g) R l->args=R++k++l->(fe P g∧Calls P g args w fun e' w'=>∃v,e'=.returned v∧bs N M L w0 V t h a e o.dst E v w')->ff P o a w (bs N M L w0 V t h a e o.dst E) :=
  fun z b ⟨Y,Z⟩ =>.inr (.inr ⟨_,_,b ▸ S z Y,Z⟩)
 cases q with
 | fn g =>
  have z:a.eval f=.func (.func g) #[] #[]:=by
   have ad:RP w (Own M h blk) (.fn g) (a.eval f):=hf;generalize a.eval f=u at *;cases ad;rfl
  simp only[jP]at D;split at D
  ·rename_i p hp;exact m z (by simp) (aav (J.ins g p hp) hI D Q B b)
  split at D
  ·rename_i p hp;exact m z (by simp) (aat (J.grw g p hp) hI hP D B b)
  split at D
  ·split at D
   ·rename_i x v s c0 n C;have y:(k.extract 1 k.size).size=C.length:=by simp_all
    have T:k = #[k.getD 0 undef]++k.extract 1 k.size:=by
     have:0<k.size:=by simp at B;omega
     apply alp
     ·simp;omega
     ·intro i Y Z;cases i with
      | zero=>simp_all
      | succ i=>simp[Array.getElem_append];congr 1;omega
    have I:=b 0 _ rfl;refine m z (by grind) (FY J hI D Q I.1 (fun r U=>(hI.afy U).1 _ _ _ I) y (fun j d A =>?_));have:=b (j+1) d (by simpa using A);have W:(k.extract 1 k.size).getD j undef=k.getD (j+1) undef:=by
     simp only[akm];grind
    rw[W];exact this
   ·rename_i x v c0 C;have y:(k.extract 1 k.size).size=C.length:=by simp_all
    have T:k = #[k.getD 0 undef]++k.extract 1 k.size:=by
     have:0<k.size:=by simp at B;omega
     apply alp
     ·simp;omega
     ·intro i Y Z;cases i with
      | zero=>simp_all
      | succ i=>simp[Array.getElem_append];congr 1;omega
    have I:=b 0 _ rfl;refine m z (by grind) (FY J hI D Q I.1 (fun r U=>(hI.afy U).2 _ I) y (fun j d A =>?_));have:=b (j+1) d (by simpa using A);have W:(k.extract 1 k.size).getD j undef=k.getD (j+1) undef:=by
     simp only[akm];grind
    rw[W];exact this
   ·rename_i x v C;have y:(k.extract 1 k.size).size=C.length:=by simp_all
    have T:k = #[k.getD 0 undef]++k.extract 1 k.size:=by
     have:0<k.size:=by simp at B;omega
     apply alp
     ·simp;omega
     ·intro i Y Z;cases i with
      | zero=>simp_all
      | succ i=>simp[Array.getElem_append];congr 1;omega
    have I:=b 0 _ rfl;refine m z (by grind) (FY J hI D Q I.1 (fun r U=>hI.abU U I) y (fun j d A =>?_));have:=b (j+1) d (by simpa using A);have W:(k.extract 1 k.size).getD j undef=k.getD (j+1) undef:=by
     simp only[akm];grind
    rw[W];exact this
   ·cases D
  ·exact m z (by simp) (OS J hI D Q B b)
 | clo g F l =>
  obtain⟨H,k1,k2,k3⟩:=hf;simp only[jP]at D
  by_cases ae:l.all uv=true
  rotate_left
  ·simp_all
  rw[if_pos ae]at D;have ag:((H.take F).toArray++k++(H.drop F).toArray).toList=H.take F++(k.toList++H.drop F):=by simp
  have ah:(H.take F).length=(l.take F).length:=by simp_all
  have y:k.toList.length=ds.length:=by simpa using B
  refine m k1 rfl (OS J hI D Q (by simp[B,k2]) (fun j d A =>?_));have X:((H.take F).toArray++k++(H.drop F).toArray).getD j undef=(H.take F++(k.toList++H.drop F)).getD j undef:=by
   rw[<- ag,akm,akQ,alk]
  rw[X,akQ];rw[List.getElem?_append]at A ⊢;rw[ah];split at A
  ·rename_i O;rw[if_pos O];have ai:j<F:=by grind
   rw[akH,if_pos ai]at A ⊢;have:=FD (k3 _ d A);simp_all
  ·rename_i O;rw[if_neg O];rw[List.getElem?_append]at A ⊢;rw[y];split at A
   ·rename_i G;rw[if_pos G];have:=b _ d A;simp_all
   ·rename_i G;rw[if_neg G];rw[akE]at A ⊢;have:=FD (k3 _ d A);simp_all
 | _=>simp[jP]at D
def RT.ajA{d:D}{n:Nat}{u:Value}(z:Inv N M L w0 blk V t h a w)(b:E1 d=some n)(j:alive h d=true)(i:RT w (Own M h blk) h blk V d u) :
  (∀s,d=.str s->u=.string s∧s.size=n)∧((∀s,d ≠ .str s)->∃A c,u=.slice A n c):=by
 cases d with
 | str s =>
  simp only[E1,akq]at b;refine⟨fun k f =>?_,fun l=>absurd rfl (l s)⟩;cases f;exact⟨FF i,b⟩
 | sl nl tight m xs =>
  simp only[E1,akq]at b;subst b;refine⟨fun k f=>(by cases f),fun _ =>?_⟩;have e:RP w (Own M h blk) (.sl nl tight m xs) u:=i;cases e with
  | sl A c nl tight n xs us h1 h2 h3 h4 h5 h6 h7 h8=>simp_all
 | buf x v s o m =>
  simp only[E1,akq]at b;subst b;refine⟨fun k f=>(by cases f),fun _ =>?_⟩;simp only[alive,Option.isSome_iff_exists]at j;obtain⟨r,e⟩:=j;obtain⟨p,q⟩:=tv e;rcases i.2 r p q with⟨g,B,c,C,E,_,y,_⟩|⟨_,rfl,A,y⟩
  ·simp_all
  simp_all
 | _=>simp[E1]at b
def Sf(k:IntKind):∀(b:List D)(us:List Value)(x z:Int),AX (fun x y=>if y>x then y else x) k x b=some z->us.length=b.length->(∀j d,b[j]? = some d->RT w (Own M h blk) h blk V d (us.getD j undef)) ->
  (us.foldlM Builtin.max2 (.int k x)).run P w=.ok (.int k z) w
 | [],us,x,z,a,e,_=>by
  simp_all[AX,alq,akq]
 | d::b,us,x,z,a,e,f=>by
  cases us with
  | nil=>simp at e
  | cons u us =>
   have g:=f 0 d rfl;cases d with
   | int k' y =>
    simp only[AX]at a;split at a
    ·have c:=oP g;simp only[alc]at c;subst c;have l:=Sf k b us _ z a (by simpa using e) (fun j d i=>by simpa using f (j+1) d (by simpa using i));grind[Builtin.max2,Sem.run_bind,Sem.run_pure,Result.andThen_ok]
    ·cases a
   | _=>simp[AX]at a
def Sg(k:IntKind):∀(b:List D)(us:List Value)(x z:Int),AX (fun x y=>if y<x then y else x) k x b=some z->us.length=b.length->(∀j d,b[j]? = some d->RT w (Own M h blk) h blk V d (us.getD j undef)) ->
  (us.foldlM Builtin.min2 (.int k x)).run P w=.ok (.int k z) w
 | [],us,x,z,a,e,_=>by
  simp_all[AX,alq,akq]
 | d::b,us,x,z,a,e,f=>by
  cases us with
  | nil=>simp at e
  | cons u us =>
   have g:=f 0 d rfl;cases d with
   | int k' y =>
    simp only[AX]at a;split at a
    ·have c:=oP g;simp only[alc]at c;subst c;have l:=Sg k b us _ z a (by simpa using e) (fun j d i=>by simpa using f (j+1) d (by simpa using i));grind[Builtin.min2,Sem.run_bind,Sem.run_pure,Result.andThen_ok]
    ·cases a
   | _=>simp[AX]at a
end
end Go.Proofs.YtobnihfgnbnncaaGreat.Am
