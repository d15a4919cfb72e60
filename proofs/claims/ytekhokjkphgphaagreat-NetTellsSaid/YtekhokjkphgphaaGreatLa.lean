import Derived.WalkKit
import Derived.Orders
import Derived.Maps.AppendAt
import Derived.Laws.OwnMore
import Derived.Laws.CopyRow
import Derived.Laws.Concat
import Derived.Laws.Cover3
import Derived.WalkSmall
import Derived.MapKept
import Derived.ArgAppend
import Derived.Deep.LoopGhost
import Derived.Maps.RangeRun
import Derived.Test.YtekhokjkphgphaaGreatChecked
import Derived.KernelRfl
import GoSem.Claim
import Derived.RowKit
import Derived.Sort.Grow
import Derived.OpenShut
import Derived.Deep.Slices
import Derived.WideKeyArgs
import Derived.SizedLaws
import Derived.ProofKit
import Derived.Below
import Derived.Handed
import Derived.Lib.ItoaMem
import Derived.Lib.SlicesCompact
import Derived.Shelf.Sort.Plain
import Derived.Shelf.Slices.In.SortNone
import Derived.Ground.NamesProg
import Derived.Shelf.SlIterI.Sorted
import Derived.Shelf.SlGeneric
import Derived.Ground.GgzProg
import Derived.Shelf.SlSortCmp.NoneTotal
import Derived.Ground.SlsfProg
import Derived.Test.YtekhokjkphgphaaGreatProg
import Derived.Shelf.Spec.SlicesInsertGrow
import Derived.RangeFuncBox
import Derived.RangeFuncNested
import Derived.RangeFuncLeaves
import Derived.Shelf.Abstract
import Derived.OwnWalkIn
import Derived.TacticsInMore
import Derived.LoopNIn
import Derived.LoopIn
import Derived.Test.YtekhokjkphgphaaGreatRows
import Derived.Lib.LaidTab
import Derived.Lib.ItoaNum
import Derived.LaidMore
import Derived.LaidHandle
import Derived.MakeChecks
import Derived.Stop.LaidErr
import Derived.Shelf.GgSortFunc.InsertionK
import Derived.Shelf.SlSortCmp.Insertion
import Derived.Lib.Small
import Derived.Lib.Walk
import Derived.StillTailTactics
set_option linter.unusedSimpArgs false
set_option linter.unusedVariables false
set_option linter.defProp false
noncomputable section
open Go.Proofs.Tryz
namespace Go.Proofs.YtekhokjkphgphaaGreat
def aeT:=@World.cell?_of_block
def aeU:=@List.getElem?_map.{0,0}
def aeV:=@Option.map_eq_some_iff.{0,0}
def aeW:=@List.mem_map.{0,0}
def aeX:=@Nat.le_refl
def aeY:=@Nat.zero_le
def aeZ:=@Nat.le_trans
def ae0:=@Nat.lt_of_lt_of_le
def ae1:=@Array.getD_eq_getD_getElem?.{0}
def ae2:=@List.map_cons.{0,0}
def ae3:=@List.mem_cons.{0}
def ae4:=@Option.map_some.{0,0}
def ae5:=@Option.some.injEq.{0}
def ae6:=@Array.getElem?_modify.{0}
def ae7:=@List.all_eq_true.{0}
def ae8:=@List.getElem_mem.{0}
def ae9:=@List.getElem?_eq_getElem.{0}
def afa:=@List.mem_append_left.{0}
def afb:=@List.mem_append_right.{0}
def afc:=@List.getElem?_take.{0}
def afd:=@List.getElem?_drop.{0}
def afe:=@Nat.eq_zero_or_pos
def aff:=@List.length_take.{0}
def afg:=@List.length_drop.{0}
def afh:=@Nat.add_assoc
def afi:=@List.getElem?_of_mem.{0}
def afj:=@List.mem_singleton.{0}
def afk:=@List.cons.injEq.{0}
def afl:=@List.getElem?_cons_zero.{0}
def afm:=@List.length_cons.{0}
def afn:=@List.length_nil.{0}
def afo:=@List.mem_of_getElem?.{0}
def afp:=@List.getElem?_eq_some_iff.{0}
def afq:=@List.length_map.{0,0}
def afr:=@List.length_range
def afs:=@List.getElem_range
def aft:=@Sem.run_bind
def afu:=@Result.andThen_ok
def afv:=@Bool.false_eq_true
def afw:=@Nat.add_zero
def afx:=@Bool.and_eq_true
def afy:=@Bool.not_eq_true'
def afz:=@List.getD_eq_getElem?_getD.{0}
def afA:=@Array.length_toList.{0}
def afB:=@List.mem_of_mem_drop.{0}
def afC:=@Sem.run_pure
def afD:=@List.mem_of_mem_take.{0}
def afE:=@Nat.lt_or_ge
def afF:=@Nat.mul_le_mul_right
def afG:=@List.foldl_cons.{0,0}
def afH:=@Nat.zero_add
def afI:=@List.map_nil.{0,0}
def afJ:=@Option.getD_some.{0}
def afK:=@Array.getElem?_toList.{0}
def afL:=@Array.mem_of_getElem?.{0}
def afM:=@Array.mapM_eq_mapM_toList.{0,0,0}
def afN:=@Array.toList_map.{0,0}
def afO:=@Nat.mod_lt
def afP:=@List.replicate_succ.{0}
def afQ:=@List.getElem?_append_left.{0}
def afR:=@Nat.mod_eq_of_lt
def afS:=@Nat.succ_mul
def afT:=@List.getElem?_append_right.{0}
def afU:=@Nat.mul_comm
def afV:=@Int.natCast_mul
def afW:=@Int.toNat_natCast
def afX:=@List.idxOf_cons.{0}
def afY:=@List.contains_cons.{0}
def afZ:=@Bool.false_or
def af0:=@List.getD_cons_zero.{0}
def af1:=@List.getD_cons_succ.{0}
def af2:=@List.not_mem_nil.{0}
def af3:=@List.getElem?_cons_succ.{0}
def af4:=@List.idxOf_lt_length_of_mem.{0}
def af5:=@Array.getElem?_eq_some_iff.{0}
def af6:=@List.length_append.{0}
def af7:=@Array.getElem?_eq_getElem.{0}
def af8:=@Nat.sub_self
def af9:=@Array.getElem_append.{0}
def aga:=@List.eq_nil_of_length_eq_zero.{0}
def agb:=@List.size_toArray.{0}
def agc:=@Array.toList_append.{0}
def agd:=@List.append_assoc.{0}
def age:=@List.drop_append_of_le_length.{0}
def agf:=@Nat.add_sub_cancel_left
def agh:=@List.take_append.{0}
def agi:=@List.take_append_of_le_length.{0}
def agj:=@List.take_of_length_le.{0}
def agk:=@List.drop_zero.{0}
def agl:=@Bool.not_true
def agm:=@Bool.true_and
def agn:=@List.map_append.{0,0}
def ago:=@List.mem_flatMap.{0,0}
def agp:=@List.map_congr_left.{0,0}
def agq:=@List.flatMap_cons.{0,0}
def agr:=@List.mem_append.{0}
def ags:=@List.mem_cons_self.{0}
def agt:=@List.mem_cons_of_mem.{0}
def agu:=@List.toList_toArray.{0}
def agv:=@Option.bind_some.{0,0}
def agw:=@Bool.or_eq_true
def agx:=@List.getElem?_eq_none.{0}
def agy:=@List.mem_filter.{0}
def agz:=@List.pairwise_cons.{0}
def agA:=@List.nodup_cons.{0}
def agB:=@List.mem_range
def agC:=@List.pairwise_lt_range
def agD:=@Nat.le_of_not_lt
def agE:=@Nat.zero_lt_one
def agF:=@List.nil_append.{0}
def agG:=@Nat.le_of_ble_eq_true
def agH:=@List.drop_append.{0}
def agI:=@List.drop_eq_nil_of_le.{0}
def agJ:=@Nat.add_sub_cancel
def agK:=@List.drop_drop.{0}
def agL:=@List.take_append_drop.{0}
def agM:=@Nat.div_lt_of_lt_mul
def agN:=@List.length_pos_iff.{0}
def agO:=@List.append_nil.{0}
def agP:=@List.cons_append.{0}
def agQ:=@List.drop_succ_cons.{0}
def agR:=@List.take_succ_cons.{0}
def agS:=@List.drop_eq_getElem_cons.{0}
def agT:=@List.take_zero.{0}
def agU:=@Bool.false_and
def agV:=@Nat.one_ne_zero
def agW:=@List.length_set.{0}
def agX:=@Nat.min_eq_left
def agY:=@List.take_length.{0}
def agZ:=@List.Perm.refl.{0}
def ag0:=@Option.some.inj.{0}
def ag1:=@Nat.mul_pos
def ag2:=@List.ext_getElem?.{0}
def ag3:=@Nat.div_add_mod
def ag4:=@List.pairwise_map.{0,0}
def ag5:=@List.pairwise_iff_getElem.{0}
def ag6:=@List.getElem_of_mem.{0}
def ag7:=@Int.mul_le_mul_of_nonneg_left
def ag8:=@Int.mul_add
def ag9:=@Int.mul_assoc
def aha:=@Nat.and_two_pow_sub_one_eq_mod
def ahb:=@Int.ediv_nonneg
def ahc:=@Int.ediv_lt_of_lt_mul
def ahd:=@Int.emod_lt_of_pos
def ahe:=@Int.mul_ediv_add_emod
def ahf:=@Int.mul_nonneg
def ahg:=@Int.mul_le_mul
def ahh:=@Int.mul_le_mul_of_nonneg_right
def ahi:=@Nat.div_eq_of_lt
def ahj:=@Int.mul_zero
def ahk:=@Int.add_zero
def ahl:=@Int.natAbs_mul
def ahm:=@List.getLast?_eq_some_getLast.{0}
def ahn:=@Int.sign_eq_one_of_pos
def aho:=@Nat.pos_of_ne_zero
def ahp:=@Nat.gcd_le_right
def ahq:=@Rat.divInt_ofNat
def ahr:=@Int.sign_eq_neg_one_of_neg
def ahs:=@List.head?_drop.{0}
def aht:=@List.length_mapIdx.{0,0}
def ahu:=@List.getElem?_mapIdx.{0,0}
def ahv:=@List.getElem?_set_self.{0}
def ahw:=@List.getElem?_set_ne.{0}
def ahx:=@List.take_succ_eq_append_getElem.{0}
def ahy:=@Nat.mul_le_mul
def ahz:=@List.length_filter_le.{0}
def ahA:=@List.filter_append.{0}
def ahB:=@List.filter_cons_of_pos.{0}
def ahC:=@List.filter_cons_of_neg.{0}
def ahD:=@List.mem_nil_iff.{0}
def ahE:=@List.range_succ
def ahF:=@Bool.true_eq_false
def ahG:=@List.foldl_append.{0,0}
def ahH:=@Option.none_or.{0}
def ahI:=@Array.replicate_succ.{0}
def ahJ:=@Array.replicate_zero.{0}
def ahK:=@List.push_toArray.{0}
def ahL:=@List.append_toArray.{0}
def ahM{α:Type}{a:α}:a=a:=Eq.trans rfl rfl
end Go.Proofs.YtekhokjkphgphaaGreat
namespace Go.Proofs.YtekhokjkphgphaaGreat.Am
open Go.RowKit
abbrev dp:=Int×Option Int
def lv:dp->Value
 | (n,none) =>.int .i64 n
 | (a,some b) =>.agg #[.int .i64 a,.int .i64 b]
def Hy (k:dp):Bool:=k.2.isSome
def WZ {k c:dp} (h:lv k=lv c):k=c:=by
 obtain⟨a,x⟩:=k;obtain⟨b,y⟩:=c;cases x<;>cases y<;>simp[lv]at h
 ·subst h;rfl
 ·obtain⟨rfl,rfl⟩:=h;rfl
inductive D where
 | int (k:IntKind) (n:Int)
 | bool (b:Bool)
 | str (s:ByteArray)
 | sl (nl tight:Bool) (n:Nat) (xs:List D)
 | ptr (x v o:Nat)
 | ip (xs:List D)
 | buf (x v s o n:Nat)
 | agg (xs:List D)
 | tup (xs:List D)
 | fn (f:Nat)
 | clo (f k:Nat) (caps:List D)
 | ali (x v s o n:Nat)
 | box1 (x v s o n:Nat)
 | mp (x v:Nat)
 | mpc (ks:List dp) (vs:List D)
 | alm (x v:Nat)
 | pm (x v y:Nat)
 | ph (x s n:Nat)
 | nx (n:Nat) (xs:List D)
 | nr (ty s nv:Nat) (cs:List D)
 | und
 | skp
structure Row where
 v:Nat
 ty:Nat
 cells:List D
 fz:Bool
 lst:Bool
 mp:Bool:=false
def bz:D->Bool
 | .int _ _ | .bool _ | .str _ | .sl _ _ _ _ | .ali _ _ _ _ _ | .mpc _ _ | .alm _ _=>true
 | _=>false
def canon:D->D
 | .sl _ _ n xs =>.sl false false n xs
 | d=>d
def iQ:D->D
 | .sl _ _ n xs =>.sl false false n xs
 | .agg xs =>.agg (xs.map canon)
 | d=>d
def bY {α:Type} (f:Nat->α) (i:Nat) (v:α):Nat->α:=fun j=>if j=i then v else f j
inductive Ds where
 | int (k:IntKind)|bool|str
 | struct (fs:List (Nat×Nat))
 | slice (e:Nat)
 | arr (n e:Nat)
 | map (k e:Nat)
 | other
structure Ty where
 ds:Ds
 size:Nat
 bytes:Nat
 zero:List Value
 eqok:Bool:=false
def conv:TypeDesc->Ds
 | .int k =>.int k
 | .bool =>.bool
 | .string =>.str
 | .struct F =>.struct (F.toList.map fun f=>(f.type,f.offset))
 | .slice e =>.slice e
 | .array n e =>.arr n e
 | .map k e =>.map k e
 | _ =>.other
def oF:Value->D
 | .int k n =>.int k n
 | .bool b =>.bool b
 | .string s =>.str s
 | .slice none 0 0 =>.sl true true 0 []
 | .map none =>.mpc [] []
 | _ =>.und
def Ds.tw:Ds->Bool
 | .struct _ | .arr _ _=>true
 | _=>false
def ev (t:Nat->D):Operand->D
 | .tmp i=>t i
 | .const v=>oF v
 | .global _ =>.und
 | .func f =>.fn f
def QZ:Value->Bool
 | .agg _=>true
 | _=>false
structure eX (P:Program) (t:Nat) (τ:Ty):Prop where
 desc:(P.underlying t).map conv=some τ.ds
 info:(P.info? t).map (fun i=>(i.size,i.bytes,i.zero.map fun z=>z.cells.toList))=some (τ.size,τ.bytes,some τ.zero)
 agg:(P.info? t).map (fun i=>i.zero.map QZ)=some (some τ.ds.tw)
 eqs:τ.eqok=true->P.stoodInHeld t=false∧P.eqGuardType P.depth t=false∧(match P.underlying t with|some (.struct F)=>F.all (fun f=>f.name != "_")|_=>true)=true
def iI (P:Program) (T:Nat->Option Ty):Prop:=∀t τ,T t=some τ->eX P t τ
inductive RP (w:World) (M:Nat->Prop):D->Value->Prop
 | int (k:IntKind) (n:Int):RP w M (.int k n) (.int k n)
 | bool (b:Bool):RP w M (.bool b) (.bool b)
 | str (s:ByteArray):RP w M (.str s) (.string s)
 | sl (A:Option Addr) (c:Nat) (nl tight:Bool) (n:Nat) (xs:List D) (us:Nat->Value) (h1:n<=c) (h2:c<=maxLen) (h3:nl=true->(tight=true->A=none∧c=0)∧(tight=false->A≠none)) (h4:A=none->n=0∧c=0)
   (h5:tight=true->c=n) (h6:xs≠[]->∃b o,A=some ⟨b,o,none⟩∧b<w.heap.size∧¬M b∧∀j,j<xs.length->w.cell? ⟨b,o+j,none⟩=some (us j))
   (h7:∀j x,xs[j]? = some x->RP w M x (us j)) (h8:∀x∈xs,bz x=true):RP w M (.sl nl tight n xs) (.slice A n c)
 | ip (xs:List D) (ad:Addr) (us:Nat->Value) (h6:xs≠[]->∃b o,ad=⟨b,o,none⟩∧b<w.heap.size∧¬M b∧∀j,j<xs.length->w.cell? ⟨b,o+j,none⟩=some (us j))
   (h7:∀j x,xs[j]? = some x->RP w M x (us j)) (h8:∀x∈xs,bz x=true):RP w M (.ip xs) (.pointer (some ad))
 | agg (xs:List D) (us:List Value) (h1:us.length=xs.length) (h2:∀j x,xs[j]? = some x->RP w M x (us.getD j undef)) (h3:∀x∈xs,bz x=true):RP w M (.agg xs) (.agg us.toArray)
 | tup (xs:List D) (us:List Value) (h1:us.length=xs.length) (h2:∀j x,xs[j]? = some x->RP w M x (us.getD j undef)):RP w M (.tup xs) (.tuple us.toArray)
 | fn (f:Nat):RP w M (.fn f) (.func (.func f) #[] #[])
 | ali (x v s o n:Nat) (u:Value) (h1:u.oneCell'=true):RP w M (.ali x v s o n) u
 | alm (x v:Nat) (u:Value) (h1:u.oneCell'=true):RP w M (.alm x v) u
 | mpc (ks:List dp) (vs:List D) (mb:Option Nat) (us:Nat->Value) (h1:vs.length=ks.length) (h2:mb=none->ks=[])
   (h3:∀b,mb=some b->b<w.heap.size∧¬M b∧∃(ents:Array MapEntry) (clock:Nat),w.heap[b]? = some (.map ents clock)∧ents.size=ks.length∧∀j k,ks[j]? = some k->∃e:MapEntry,ents[j]? = some e∧e.key=lv k∧e.val=us j)
   (h4:∀j x,vs[j]? = some x->RP w M x (us j)):RP w M (.mpc ks vs) (.map mb)
 | clo (f k:Nat) (xs:List D) (us:List Value) (h1:us.length=xs.length) (h2:∀j x,xs[j]? = some x->RP w M x (us.getD j undef)):RP w M (.clo f k xs) (.func (.func f) (us.take k).toArray (us.drop k).toArray)
def RP.keep {w t:World} {M F:Nat->Prop} (y:∀b,b<w.heap.size->¬M b->b<t.heap.size∧¬F b∧t.heap[b]? = w.heap[b]?) {d:D} {u:Value} (h:RP w M d u):RP t F d u:=by
 induction h with
 | int k n=>exact .int k n
 | bool b=>exact .bool b
 | str s=>exact .str s
 | sl A c nl tight n xs us h1 h2 h3 h4 h5 h6 h7 h8 e =>
  refine .sl A c nl tight n xs us h1 h2 h3 h4 h5 (fun g =>?_) e h8;obtain⟨b,o,z,l,B,C⟩:=h6 g;obtain⟨m,p,q⟩:=y b l B;exact⟨b,o,z,m,p,fun j E=>(aeT (a:=⟨b,o+j,none⟩) q).trans (C j E)⟩
 | ip xs ad us h6 h7 h8 e =>
  refine .ip xs ad us (fun g =>?_) e h8;obtain⟨b,o,z,l,B,C⟩:=h6 g;obtain⟨m,p,q⟩:=y b l B;exact⟨b,o,z,m,p,fun j E=>(aeT (a:=⟨b,o+j,none⟩) q).trans (C j E)⟩
 | agg xs us h1 h2 h3 e=>exact .agg xs us h1 e h3
 | tup xs us h1 h2 e=>exact .tup xs us h1 e
 | fn f=>exact .fn f
 | ali x v s o n u h1=>exact .ali x v s o n u h1
 | alm x v u h1=>exact .alm x v u h1
 | mpc ks vs mb us h1 h2 h3 h4 e =>
  refine .mpc ks vs mb us h1 h2 (fun b l =>?_) e;obtain⟨m,p,r,i,q,G,H⟩:=h3 b l;obtain⟨I,J,K⟩:=y b m p;exact⟨I,J,r,i,K.trans q,G,H⟩
 | clo f L xs us h1 h2 e=>exact .clo f L xs us h1 e
def RP.canon {w:World} {M:Nat->Prop} {d:D} {u:Value} (h:RP w M d u):RP w M (canon d) u:=by
 cases h with
 | sl A c nl tight n xs us h1 h2 h3 a h5 e g i=>exact .sl A c false false n xs us h1 h2 (fun h=>by cases h) a (fun h=>by cases h) e g i
 | int k n=>exact .int k n
 | bool b=>exact .bool b
 | str s=>exact .str s
 | ip xs ad us e g i=>exact .ip xs ad us e g i
 | agg xs us h1 h2 h3=>exact .agg xs us h1 h2 h3
 | tup xs us h1 h2=>exact .tup xs us h1 h2
 | fn f=>exact .fn f
 | ali x v s o n u h1=>exact .ali x v s o n u h1
 | alm x v u h1=>exact .alm x v u h1
 | mpc ks vs mb us h1 h2 h3 a=>exact .mpc ks vs mb us h1 h2 h3 a
 | clo f j xs us h1 h2=>exact .clo f j xs us h1 h2
def mT (d:D):bz (canon d)=bz d:=by cases d<;>rfl
def RP.iQ {w:World} {M:Nat->Prop} {d:D} {u:Value} (h:RP w M d u):RP w M (iQ d) u:=by
 cases h with
 | agg xs us h1 h2 h3 =>
  refine .agg _ us (by simpa using h1) (fun j x m =>?_) (fun x p =>?_)
  ·rw[aeU,aeV]at m;obtain⟨y,a,rfl⟩:=m;exact (h2 j y a).canon
  ·obtain⟨y,a,rfl⟩:=aeW.1 p;rw[mT];exact h3 y a
 | sl A c nl tight n xs us h1 h2 h3 e h5 g i l=>exact .sl A c false false n xs us h1 h2 (fun h=>by cases h) e (fun h=>by cases h) g i l
 | int k n=>exact .int k n
 | bool b=>exact .bool b
 | str s=>exact .str s
 | ip xs ad us g i l=>exact .ip xs ad us g i l
 | tup xs us h1 h2=>exact .tup xs us h1 h2
 | fn f=>exact .fn f
 | ali x v s o n u h1=>exact .ali x v s o n u h1
 | alm x v u h1=>exact .alm x v u h1
 | mpc ks vs mb us h1 h2 h3 e=>exact .mpc ks vs mb us h1 h2 h3 e
 | clo f q xs us h1 h2=>exact .clo f q xs us h1 h2
def RC (w:World) (M:Nat->Prop) (h:Nat->Option Row) (blk:Nat->Option (Nat×Nat)) (V:Nat->Nat->Prop):D->Value->Prop
 | .ptr x v o,u=>V x v∧∀r,h x=some r->r.v=v->∃g,blk x=some g∧u=.pointer (some ⟨g.1,g.2+o,none⟩)
 | .mp x v,u=>V x v∧∀r,h x=some r->r.v=v->∃g,blk x=some g∧u=.map (some g.1)
 | .pm x v _,u=>V x v∧∀r,h x=some r->r.v=v->∃g,blk x=some g∧u=.pointer (some ⟨g.1,g.2+0,none⟩)
 | d,u=>RP w M d u
def RT (w:World) (M:Nat->Prop) (h:Nat->Option Row) (blk:Nat->Option (Nat×Nat)) (V:Nat->Nat->Prop):D->Value->Prop
 | .ptr x v o,u=>V x v∧∀r,h x=some r->r.v=v->∃g,blk x=some g∧u=.pointer (some ⟨g.1,g.2+o,none⟩)
 | .buf x v s o n,u=>V x v∧∀r,h x=some r->r.v=v ->
   (∃g o' c N t,blk x=some g∧u=.slice (some ⟨g.1,o',none⟩) n c∧(0<c∨o=0->o'=g.2+o∧c*s+o'=N)∧n<=c∧c<=maxLen∧w.shape? g.1=some (t,N))∨(blk x=none∧n=0∧∃A,u=.slice A 0 0)
 | .clo f e xs,u=>∃a:List Value,u=.func (.func f) (a.take e).toArray (a.drop e).toArray∧a.length=xs.length∧∀(j:Nat) x,xs[j]? = some x->RC w M h blk V x (a.getD j undef)
 | .mp x v,u=>V x v∧∀r,h x=some r->r.v=v->∃g,blk x=some g∧u=.map (some g.1)
 | .pm x v _,u=>V x v∧∀r,h x=some r->r.v=v->∃g,blk x=some g∧u=.pointer (some ⟨g.1,g.2+0,none⟩)
 | .box1 x v s o n,u=>∃b:Value,u=.agg #[b]∧b.oneCell'=true∧V x v∧∀r,h x=some r->r.v=v ->
   (∃g o' c N t,blk x=some g∧b=.slice (some ⟨g.1,o',none⟩) n c∧(0<c∨o=0->o'=g.2+o∧c*s+o'=N)∧n<=c∧c<=maxLen∧w.shape? g.1=some (t,N))∨(blk x=none∧n=0∧∃A,b=.slice A 0 0)
 | .und,_=>True
 | .skp,u=>u=undef
 | d,u=>RP w M d u
def Own (M:Nat->Prop) (h:Nat->Option Row) (blk:Nat->Option (Nat×Nat)) (b:Nat):Prop:=M b∨∃x r g,h x=some r∧r.fz=false∧blk x=some g∧g.1=b
def Vz (w:World) (M:Nat->Prop) (g:Nat×Nat) (r:Row):Prop :=
 ∃a:Array Value,w.heap[g.1]? = some (.cells a r.ty (0,0))∧g.2+r.cells.length<=a.size∧∀j d,r.cells[j]? = some d->bz d=true∧RP w M d (a.getD (g.2+j) undef)
def Ym (w:World) (M:Nat->Prop) (g:Nat×Nat) (c:List dp) (f:List D):Prop :=
 ∃(a:Array MapEntry) (b:Nat),w.heap[g.1]? = some (.map a b)∧a.size=c.length∧MapKept.Stamped a b∧∃d:Nat->Value,(∀j k,c[j]? = some k->∃e:MapEntry,a[j]? = some e∧e.key=lv k∧e.val=d j)∧∀j x,f[j]? = some x->RP w M x (d j)
def LS (w:World) (M:Nat->Prop) (g:Nat×Nat) (m:Nat) (f:List dp) (n:List D):Prop :=
 g.2=0∧∃(b:Nat) (d:Array MapEntry) (a:Nat) (seen:Array Nat) (c l:List Nat) (h:Nat->Value),w.heap[g.1]? = some (.mapIter (some b) a seen a)∧b<w.heap.size∧¬M b∧w.heap[b]? = some (.map d a)∧MapKept.Stamped d a ∧
  c.length=m-900000∧c.length<=1∧(c++l).length=f.length∧l.Nodup∧(∀i,i∈l↔∃e:MapEntry,d[i]? = some e∧seen.contains e.born=false)∧(∀i,i∈c->∃e:MapEntry,d[i]? = some e∧seen.back? = some e.born) ∧
  (∀j k,f[j]? = some k->∃(i:Nat) (e:MapEntry),(c++l)[j]? = some i∧d[i]? = some e∧e.key=lv k∧e.val=h j)∧∀j x,n[j]? = some x->RP w M x (h j)
def zF (w:World) (M:Nat->Prop) (g:Nat×Nat) (r:Row):Prop :=
 ∃a b,r.cells=[.mpc a b]∧b.length=a.length∧(r.ty<900000->Ym w M g a b)∧(900000<=r.ty->LS w M g r.ty a b)
def phC:D->Bool
 | .ph _ _ _ | .und | .int _ _ | .bool _ | .str _ | .sl _ _ _ _=>true
 | _=>false
def DN (w:World) (M:Nat->Prop):D->Value->Prop
 | .ph _ _ _,_=>True
 | .und,_=>True
 | d,u=>RP w M d u
def DO (w:World) (M:Nat->Prop) (g:Nat×Nat) (r:Row):Prop:=(∀d∈r.cells,phC d=true)∧∃a:Array Value,w.heap[g.1]? = some (.cells a r.ty (0,0))∧g.2+r.cells.length<=a.size∧∀j d,r.cells[j]? = some d->DN w M d (a.getD (g.2+j) undef)
def dV (w:World) (M:Nat->Prop) (g:Nat×Nat) (r:Row):Prop :=
 match r.mp with
 | true=>zF w M g r∨DO w M g r
 | false=>Vz w M g r
def Sh (L:Nat->Prop) (w0 w:World) (M:Nat->Prop) (g:Option (Nat×Nat)) (r:Row):Prop :=
 match g with
 | some g=>(w0.heap.size<=g.1∨L g.1)∧dV w M g r
 | none=>r.cells=[]
def XU:Option Nat:=none
def abj:Array Value:=((List.range 20).map fun i=>Value.int .u64 ((10 ^ i:Nat):Int)).toArray
structure Si (w:World) (M:Nat->Prop) (b:Nat):Prop where
 lt:b<w.heap.size
 no:¬M b
 is:∃ty fr,w.heap[b]? = some (.cells abj ty fr)
def Si.less {w:World} {M1 a:Nat->Prop} {b:Nat} (h:Si w M1 b) (c:∀b,a b->M1 b):Si w a b:=⟨h.lt,fun d=>h.no (c _ d),h.is⟩
def T0 (w:World) (M:Nat->Prop):Prop:=∀b,XU=some b->Si w M b
def T0.keep {w a:World} {M c:Nat->Prop} (d:∀b,b<w.heap.size->¬M b->b<a.heap.size∧¬c b∧a.heap[b]? = w.heap[b]?) (h:T0 w M):T0 a c:=fun b e=>by
 obtain⟨f,g,i,j,k⟩:=h b e;obtain⟨l,m,n⟩:=d b f g;exact⟨l,m,i,j,n.trans k⟩
structure ez (L:Nat->Prop) (w0 w:World):Prop where
 os:w.os=w0.os
 tape:w.tape=w0.tape
 output:w.output=w0.output
 size:w0.heap.size<=w.heap.size
 block:∀k,k<w0.heap.size->¬L k->w.heap[k]? = w0.heap[k]?
def alD:D->Option D
 | .ali x v s o n=>some (.buf x v s o n)
 | .alm x v=>some (.mp x v)
 | _=>none
abbrev jM:=Option (Option (Nat×Nat)×(Nat->Prop))
def LB (L:jM) (b:Nat):Prop:=∃p,L=some p∧((∃g:Nat×Nat,p.1=some g∧b=g.1)∨p.2 b)
def KK (a:Option (Nat×Nat)):jM:=some (a,fun _=>False)
def rV {b:Nat} : ¬LB none b:=fun⟨_,h,_⟩=>by cases h
def J1 {a:Option (Nat×Nat)} {b:Nat} : LB (KK a) b↔∃g,a=some g∧b=g.1 :=
 ⟨fun⟨p,c,d⟩=>by cases c;exact d.elim id False.elim,fun h=>⟨_,rfl,.inl h⟩⟩
def PK:Nat:=1000000
def NK (y j:Nat):Nat:=PK*(j+2)+y
def P4 (y j x:Nat):Prop:=y<PK∧(x=PK+y∨x=NK y j)
def ZL (w:World) (h:Nat->Option Row) (blk:Nat->Option (Nat×Nat)) (x s n:Nat) (u:Value):Prop:=∀r,h x=some r ->
 (∃g c a b,blk x=some g∧u=.slice (some ⟨g.1,g.2,none⟩) n c∧c*s+g.2=a∧n<=c∧c<=maxLen∧w.shape? g.1=some (b,a))∨(blk x=none∧n=0∧∃A,u=.slice A 0 0)
structure js (N:Nat) (V:Nat->Nat->Prop) (d e:Nat):Prop where
 no:¬V d e
 lt:d<N
structure Inv (N:Nat) (M:Nat->Prop) (L:jM) (w0:World) (blk:Nat->Option (Nat×Nat)) (V:Nat->Nat->Prop) (t:Nat->D) (h:Nat->Option Row) (a:Act) (w:World):Prop where
 tab:T0 w (Own M h blk)
 below:ez (LB L) w0 w
 mlt:∀b,M b->b<w0.heap.size
 lent:∀b,LB L b->¬M b
 pin:∀go,L=some go->V 0 0∧∀r,h 0=some r->r.v=0->blk 0=go.1∧∀g,go.1=some g->w.shape? g.1=w0.shape? g.1
 defers:a.defers=[]
 tsz:a.tmps.size=N
 slots:∀i,RT w (Own M h blk) h blk V (t i) (a.tmps.getD i undef)
 rows:∀x r,h x=some r->(x<N->V x r.v)∧Sh (LB L) w0 w (Own M h blk) (blk x) r
 inj:∀x y r s g g',h x=some r->h y=some s->blk x=some g->blk y=some g'->g.1=g'.1->x=y
 ali:∀y r g,h y=some r->r.fz=true->r.lst=false->blk y=some g->∀j c d,r.cells[j]? = some c->alD c=some d->∃u,w.cell? ⟨g.1,g.2+j,none⟩=some u∧RT w (Own M h blk) h blk V d u
 big:N<=PK
 pha:∀y r g,h y=some r->r.mp=true->blk y=some g->∀j x s n:Nat,r.cells[j]? = some (D.ph x s n)->P4 y j x∧∃u,w.cell? ⟨g.1,g.2+j,none⟩=some u∧ZL w h blk x s n u
def iK:D->List Nat
 | .ptr x _ _=>[x]
 | .box1 x _ _ _ _=>[x]
 | .mp x _=>[x]
 | .pm x _ y=>[x,y]
 | .buf x _ _ _ _=>[x]
 | _=>[]
def nm:D->List Nat
 | .clo _ _ xs=>xs.flatMap iK
 | d=>iK d
def live (h:Nat->Option Row) (x v:Nat):Option Row :=
 match h x with
 | some r=>if r.v=v∧r.mp=false then some r else none
 | none=>none
def oS (h:Nat->Option Row) (x v:Nat):Option Row :=
 match h x with
 | some r=>if r.v=v then some r else none
 | none=>none
def tx (h:Nat->Option Row) (x v:Nat):Option (Row×Nat×Nat×Nat) :=
 match h x with
 | some r=>if r.v=v∧r.mp=true then (match r.cells with | [.ph y s n]=>some (r,y,s,n)|_=>none) else none
 | none=>none
def kR (h:Nat->Option Row) (x v:Nat):Option (List dp×List D) :=
 match h x with
 | some r=>if r.v=v∧r.mp=true∧r.ty<900000 then (match r.cells with | [.mpc a b]=>some (a,b)|_=>none) else none
 | none=>none
def uK (r:Row):Bool :=
 match r.mp,r.cells with
 | true,[.mpc _ _]=>decide (r.ty<900000)
 | true,_=>false
 | false,_=>true
def zd (h:Nat->Option Row) (x v:Nat):Option Row :=
 match h x with
 | some r=>if r.v=v∧r.mp=true∧uK r=true then some r else none
 | none=>none
def Ae (d:D) (h:Nat->Option Row) (x v:Nat):Option Row :=
 match d with
 | .mp _ _=>zd h x v
 | _=>live h x v
def content (h:Nat->Option Row):D->Option (Nat×List D)
 | .sl _ _ n xs=>some (n,xs)
 | .buf x v s o n =>
  match live h x v with
  | some r=>if o+n*s<=r.cells.length then some (n,(r.cells.drop o).take (n*s)) else none
  | none=>none
 | _=>none
def dQ (h:Nat->Option Row):D->Option (D×List Nat)
 | .int k n=>some (.int k n,[])
 | .bool b=>some (.bool b,[])
 | .str s=>some (.str s,[])
 | .sl a b n xs=>some (.sl a b n xs,[])
 | .buf x v s o n =>
  match live h x v with
  | some r=>if o+n*s<=r.cells.length then some (.sl false false n ((r.cells.drop o).take (n*s)),[x]) else none
  | none=>none
 | _=>none
def fC (h:Nat->Option Row):D->Option (List D×List Nat)
 | .agg xs=>some (xs,[])
 | d =>
  match dQ h d with
  | some (a,fr)=>some ([a],fr)
  | none=>none
def bH (h:Nat->Option Row):D->Option (D×List Nat)
 | .ptr x v o =>
  match live h x v with
  | some r=>if o<=r.cells.length then some (.ip (r.cells.drop o),[x]) else none
  | none=>none
 | .agg xs=>some (.agg (xs.map canon),[])
 | .ip xs=>some (.ip xs,[])
 | .fn f=>some (.fn f,[])
 | .box1 x v s o n =>
  match dQ h (.buf x v s o n) with
  | some (a,fr)=>some (.agg [canon a],fr)
  | none=>none
 | .mp x v =>
  match kR h x v with
  | some (ks,vs)=>some (.mpc ks vs,[x])
  | none=>none
 | .mpc ks vs=>some (.mpc ks vs,[])
 | .pm x v y =>
  match live h x v with
  | some r =>
   match r.cells with
   | [.alm b c] =>
    if r.fz=true∧r.lst=false∧b=y then
     match kR h y c with
     | some (ks,vs)=>some (.ip [.mpc ks vs],[x,y])
     | none=>none
    else none
   | _=>none
  | none=>none
 | d =>
  match dQ h d with
  | some (a,fr)=>some (canon a,fr)
  | none=>none
def dA (h:Nat->Option Row):List D->Option (List D×List Nat)
 | []=>some ([],[])
 | d::c =>
  match bH h d with
  | some (e,fr) =>
   match dA h c with
   | some (a,b)=>some (e::a,fr++b)
   | none=>none
  | none=>none
def cG (h:Nat->Option Row):D->Option (D×List Nat)
 | .clo f a b =>
  match dA h b with
  | some (c,fr)=>some (.clo f a c,fr)
  | none=>none
 | d=>bH h d
def bX (h:Nat->Option Row):List D->Option (List D×List Nat)
 | []=>some ([],[])
 | d::c =>
  match cG h d with
  | some (e,fr) =>
   match bX h c with
   | some (a,b)=>some (e::a,fr++b)
   | none=>none
  | none=>none
def vu (r:Row):Row :=
 match r.fz with
 | true=>r
 | false=>{ r with fz:=true,lst:=true }
def jw (h:Nat->Option Row) (a:List Nat):List (Nat×Option Row):=a.map fun x=>(x,(h x).map vu)
structure cd where
 val:D
 hw:List (Nat×Option Row)
def aW (h:Nat->Option Row):List (Nat×Option Row)->Nat->Option Row
 | []=>h
 | (x,r)::l=>aW (bY h x r) l
def sk (b:Bool) (a:List D):List D:=if b then a.map canon else a
def putCells (cells:List D) (o:Nat) (a:List D):List D:=cells.take o++a++cells.drop (o+a.length)
def j0 (τ:Ty) (a:List D):Option D :=
 if τ.ds.tw then some (.agg a) else match a with | [d]=>some d|_=>none
def aaF (b:Bool):List D->Option D
 | [.ali x v s o n]=>some (if b then .box1 x v s o n else .buf x v s o n)
 | _=>none
def eM (τ:Ty) (h:Nat->Option Row):D->Option cd
 | .ptr x v o =>
  match live h x v with
  | some r=>if o+τ.size<=r.cells.length then (match j0 τ ((r.cells.drop o).take τ.size) with|some d=>some ⟨d,[]⟩|none=>none) else none
  | none=>none
 | .ip a=>if τ.size<=a.length then (match j0 τ (a.take τ.size) with|some d=>some ⟨d,[]⟩|none=>none) else none
 | _=>none
def sN (τ:Ty) (h:Nat->Option Row) (x v o:Nat):Option Row->Option cd
 | some r =>
  if r.fz && !r.lst then
   if o+τ.size<=r.cells.length then
    match aaF τ.ds.tw ((r.cells.drop o).take τ.size) with
    | some d=>some ⟨d,[]⟩
    | none=>eM τ h (.ptr x v o)
   else none
  else eM τ h (.ptr x v o)
 | none=>none
def yK (τ:Ty) (h:Nat->Option Row) (x v y:Nat):Option (Row×Nat×Nat×Nat)->Option cd
 | some (_,a,s,n) =>
  match h y with
  | some r=>if a=y∧y=PK+x∧r.mp=false∧r.lst=true∧r.cells.length=n*s∧τ.size=1 then some ⟨if τ.ds.tw then .agg [.sl false false n r.cells] else .sl false false n r.cells,jw h [y]⟩ else none
  | none=>none
 | none=>none
def qS (τ:Ty) (h:Nat->Option Row):D->Option cd
 | .ptr x v o=>sN τ h x v o (live h x v)
 | .pm x v y =>
  match live h x v with
  | some r =>
   match r.cells with
   | [.alm a b]=>if r.fz=true∧r.lst=false∧τ.size=1∧τ.ds.tw=false then some ⟨.mp a b,[]⟩ else none
   | _=>none
  | none=>yK τ h x v y (tx h x v)
 | d=>eM τ h d
def gL (τ:Ty) (h:Nat->Option Row):D->D->Option cd
 | .ptr x v o,d =>
  match live h x v with
  | some r =>
   match fC h d with
   | some (a,b)=>if a.length=τ.size∧o+τ.size<=r.cells.length∧r.fz=false∧b.contains x=false then some ⟨.und,jw h b++[(x,some { r with cells:=putCells r.cells o (sk r.lst a) })]⟩ else none
   | none=>none
  | none=>none
 | _,_=>none
def gK (τ:Ty) (h:Nat->Option Row) (p d:D):Option cd :=
 match d with
 | .box1 y a s b n =>
  match p with
  | .ptr x v o =>
   match live h x v with
   | some r=>if τ.size=1∧o=0∧r.cells.length=1∧r.fz=false∧r.lst=false then some ⟨.und,[(x,some ⟨r.v,r.ty,[.ali y a s b n],true,false,false⟩)]⟩ else none
   | none=>none
  | .pm x v k =>
   match live h x v,live h y a with
   | some r,some q=>if τ.size=1∧b=0∧r.cells.length=1∧r.fz=false∧r.lst=false∧q.fz=false∧q.lst=true∧q.cells.length=n*s∧x≠y∧k=PK+x∧x<PK then
     some ⟨.und,[(y,none),(k,some ⟨0,q.ty,q.cells,false,true,false⟩),(x,some ⟨r.v,r.ty,[.ph k s n],false,false,true⟩)]⟩ else none
   | _,_=>none
  | _=>none
 | .mp c e =>
  match p with
  | .pm x v y =>
   match live h x v with
   | some r=>if τ.size=1∧c=y∧r.cells.length=1∧r.fz=false∧r.lst=false∧(kR h y e).isSome then some ⟨.und,[(x,some ⟨r.v,r.ty,[.alm c e],true,false,false⟩)]⟩ else none
   | none=>none
  | _=>none
 | d=>gL τ h p d
def uA (h:Nat->Option Row):D->Option cd
 | .ptr x v o=>match oS h x v with|some _=>some ⟨.ptr x v o,[]⟩|none=>none
 | .ip xs=>some ⟨.ip xs,[]⟩
 | _=>none
def fE (T:Nat->Option Ty) (τ:Ty) (h:Nat->Option Row) (i:Nat):D->Option cd
 | .ptr x v o =>
  match oS h x v,τ.ds with
  | some _,.struct b=>match b[i]? with
   | some (c,a)=>match T c with|some φ=>if φ.size=0 then none else some ⟨.ptr x v (o+a),[]⟩|none=>none
   | none=>none
  | _,_=>none
 | .pm x v k =>
  match tx h x v,τ.ds with
  | some _,.struct b=>match b[i]? with
   | some (c,0)=>match T c with|some φ=>if φ.size=0 then none else some ⟨.pm x v k,[]⟩|none=>none
   | _=>none
  | _,_=>none
 | .ip d =>
  match τ.ds with
  | .struct b=>match b[i]? with
   | some (c,a)=>match T c with|some φ=>if φ.size=0 then none else some ⟨.ip (d.drop a),[]⟩|none=>none
   | none=>none
  | _=>none
 | _=>none
def Tq (φ:Ty) (b:List D) (a:Nat):Option D :=
 if φ.ds.tw then (if a+φ.size<=b.length then some (.agg ((b.drop a).take φ.size)) else none) else b[a]?
def zY (T:Nat->Option Ty) (τ:Ty) (i:Nat):D->Option cd
 | .agg b =>
  match τ.ds with
  | .struct c=>match c[i]? with
   | some (e,a)=>match T e with|some φ=>(match Tq φ b a with|some d=>some ⟨d,[]⟩|none=>none)|none=>none
   | none=>none
  | _=>none
 | _=>none
def cy (T:Nat->Option Ty) (τ:Ty) (h:Nat->Option Row):D->D->Option cd
 | .sl _ _ n a,.int _ i =>
  match τ.ds with
  | .slice el=>match T el with|some φ=>if 0<=i∧i<n then some ⟨.ip (a.drop (i.toNat*φ.size)),[]⟩ else none|none=>none
  | _=>none
 | .buf x v s o n,.int _ i =>
  match oS h x v,τ.ds with
  | some _,.slice el=>match T el with|some φ=>if φ.size=s∧0<=i∧i<n then some ⟨.ptr x v (o+i.toNat*s),[]⟩ else none|none=>none
  | _,_=>none
 | .ptr x v o,.int _ i =>
  match live h x v,τ.ds with
  | some _,.arr n el=>match T el with|some φ=>if 0<=i∧i<n then some ⟨.ptr x v (o+i.toNat*φ.size),[]⟩ else none|none=>none
  | _,_=>none
 | _,_=>none
def lu (T:Nat->Option Ty) (τ:Ty):D->D->Option cd
 | .str s,.int _ i =>
  match τ.ds with
  | .str=>if 0<=i then (match s[i.toNat]? with|some b=>some ⟨.int .u8 b.toNat,[]⟩|none=>none) else none
  | _=>none
 | .agg a,.int _ i =>
  match τ.ds with
  | .arr n el=>match T el with|some φ=>if 0<=i∧i<n then (match Tq φ a (i.toNat*φ.size) with|some d=>some ⟨d,[]⟩|none=>none) else none|none=>none
  | _=>none
 | _,_=>none
def rp:D->Option Nat
 | .int _ i=>if 0<=i then some i.toNat else none
 | _=>none
def yE (n:Nat) (a b:Option D):Option (Nat×Nat) :=
 match (match b with|none=>some n|some d=>rp d),(match a with|none=>some 0|some d=>rp d) with
 | some h,some l=>if l<=h∧h<=n then some (l,h) else none
 | _,_=>none
def gJ (T:Nat->Option Ty) (τ:Ty) (h:Nat->Option Row) (x:D) (b a c:Option D):Option cd :=
 match x with
 | .str s =>
  match τ.ds,c,yE s.size b a with
  | .str,none,some (l,k)=>some ⟨.str (s.extract l k),[]⟩
  | _,_,_=>none
 | .sl nl tight n d =>
  match τ.ds with
  | .slice el =>
   match T el,yE n b a with
   | some φ,some (l,k) =>
    match c with
    | none=>some ⟨.sl (nl&&tight) (tight&&k==n) (k-l) ((d.drop (l*φ.size)).take ((k-l)*φ.size)),[]⟩
    | some m=>match rp m,a with
     | some m,some _=>if k<=m∧m<=n then some ⟨.sl false (m==k) (k-l) ((d.drop (l*φ.size)).take ((k-l)*φ.size)),[]⟩ else none
     | _,_=>none
   | _,_=>none
  | _=>none
 | .buf y v s o n =>
  match live h y v,τ.ds,c with
  | some _,.slice el,none =>
   match T el,yE n b a with
   | some φ,some (l,k)=>if φ.size=s∧0<s then some ⟨.buf y v s (o+l*s) (k-l),[]⟩ else none
   | _,_=>none
  | _,_,_=>none
 | _=>none
def jf (h:Nat->Option Row) (a:Nat->Option (Nat×Nat)) (cells:List D):List (Nat×D)->Option (List D×List Nat)
 | []=>some (cells,[])
 | (i,d)::c =>
  match a i,fC h d with
  | some (e,b),some (g,fr) =>
   if g.length=b∧e+b<=cells.length then
    match jf h a (putCells cells e g) c with
    | some (out,f)=>some (out,fr++f)
    | none=>none
   else none
  | _,_=>none
def fieldAt (T:Nat->Option Ty) (b:List (Nat×Nat)) (i:Nat):Option (Nat×Nat) :=
 match b[i]? with
 | some (c,a)=>match T c with|some φ=>some (a,φ.size)|none=>none
 | none=>none
def gI (T:Nat->Option Ty) (τ:Ty) (h:Nat->Option Row) (parts:List (Nat×D)):Option cd :=
 match τ.ds with
 | .struct a =>
  if (a.all fun f=>(T f.1).isSome)&&(τ.zero.map oF).all bz then
   match jf h (fieldAt T a) (τ.zero.map oF) parts with
   | some (cs,fr)=>some ⟨.agg cs,jw h fr⟩
   | none=>none
  else none
 | _=>none
def alive (h:Nat->Option Row):D->Bool
 | .ptr x v _=>(oS h x v).isSome
 | .buf x v _ _ _=>(oS h x v).isSome
 | _=>true
def cE:Option cd->Option cd
 | some ⟨.agg cs,hw⟩=>some ⟨.agg (cs.map canon),hw⟩
 | _=>none
def qP (q:Nat->Bool) (T:Nat->Option Ty) (τ:Ty) (h:Nat->Option Row) (b:Option Nat) (parts:List (Nat×D)):Option cd :=
 match b with
 | some d =>
  if q d then gI T τ h parts else
   match τ.ds,parts with
   | .struct a,[(0,.buf x v s o n)]=>if (alive h (.buf x v s o n))∧(a.all fun f=>(T f.1).isSome)∧fieldAt T a 0=some (0,1)∧τ.zero.length=1 then some ⟨.box1 x v s o n,[]⟩ else none
   | .struct a,[(0,.box1 x v s o n)]=>if (alive h (.buf x v s o n))∧(a.all fun f=>(T f.1).isSome)∧fieldAt T a 0=some (0,1)∧τ.zero.length=1 then some ⟨.box1 x v s o n,[]⟩ else none
   | _,_=>cE (gI T τ h parts)
 | none=>gI T τ h parts
def n9 (n:Nat) (a:List D):List D:=(List.replicate n a).flatten
def ef (T:Nat->Option Ty) (τ:Ty) (h:Nat->Option Row) (e d a:Nat) (parts:List (Nat×D)):Option cd :=
 match τ.ds with
 | .slice el =>
  match T el with
  | some φ =>
   if a*φ.size<=16777216∧0<φ.size∧(φ.zero.map oF).all bz=true∧φ.zero.length=φ.size then
    match jf h (fun i=>some (i*φ.size,φ.size)) (n9 a (φ.zero.map oF)) parts with
    | some (c,b)=>if b.contains d=false then some ⟨.buf d e φ.size 0 a,jw h b++[(d,some ⟨e,el,c.map canon,false,true,false⟩)]⟩ else none
    | none=>none
   else none
  | none=>none
 | _=>none
def sa (T:Nat->Option Ty) (τ:Ty) (e d:Nat) (l c:D):Option cd :=
 match τ.ds with
 | .slice el =>
  match T el,rp l,rp c with
  | some φ,some l,some c =>
   if l<=c∧c<=maxLen∧c*φ.bytes<=140737488355328∧0<φ.size∧(φ.zero.map oF).all bz=true∧φ.zero.length=φ.size then
    some ⟨.buf d e φ.size 0 l,[(d,some ⟨e,el,n9 l ((φ.zero.map oF).map canon),false,true,false⟩)]⟩
   else none
  | _,_,_=>none
 | _=>none
def jE (T:Nat->Option Ty) (τ:Ty) (h:Nat->Option Row) (e d:Nat) (s x:D):Option cd :=
 match τ.ds with
 | .slice el =>
  match T el,content h x with
  | some φ,some (m,a) =>
   if 0<φ.size∧φ.zero.length=φ.size then
    match s with
    | .sl c tight n b =>
     if tight=true∧n+m<=maxLen∧(n+m)*φ.bytes<=140737488355328∧b.length=n*φ.size∧a.length=m*φ.size then
      if m=0 then some ⟨.sl c tight n b,[]⟩ else some ⟨.buf d e φ.size 0 (n+m),[(d,some ⟨e,el,b++a,false,true,false⟩)]⟩
     else none
    | .buf y v z o n =>
     match live h y v with
     | some r =>
      if z=φ.size∧r.ty=el∧r.fz=false∧o+n*φ.size<=r.cells.length∧n+m<=maxLen∧(n+m)*φ.bytes<=140737488355328∧a.length=m*φ.size then
       some ⟨.buf d e φ.size 0 (n+m),[(y,none),(d,some ⟨e,el,(r.cells.drop o).take (n*φ.size)++a,false,true,false⟩)]⟩
      else none
     | none=>none
    | _=>none
   else none
  | _,_=>none
 | _=>none
def Uu:D->Option dp
 | .int .i64 n=>some (n,none)
 | .agg [.int .i64 a,.int .i64 b]=>some (a,some b)
 | _=>none
def se (z:D):List dp->List D->dp->D
 | k::a,v::b,n=>if k=n then v else se z a b n
 | _,_,_=>z
def zl (a:List dp) (n:dp):List dp:=if a.contains n then a else a++[n]
def Db (a:List dp) (b:List D) (n:dp) (d:D):List D:=if a.contains n then b.set (a.idxOf n) d else b++[d]
def wE (T:Nat->Option Ty) (κ:Ty):Option Bool :=
 match κ.ds with
 | .int .i64=>some false
 | .struct [(a,0),(b,1)]=>match T a,T b with
  | some α,some β=>match α.ds,β.ds with
   | .int .i64,.int .i64=>if κ.eqok then some true else none
   | _,_=>none
  | _,_=>none
 | _=>none
def Fl (T:Nat->Option Ty) (τ:Ty):Option (Bool×Ty) :=
 match τ.ds with
 | .map k el=>match T k,T el with
  | some κ,some φ=>match wE T κ with|some b=>some (b,φ)|none=>none
  | _,_=>none
 | _=>none
def nO (T:Nat->Option Ty) (a:Nat) (τ:Ty) (e d:Nat):Option cd :=
 match Fl T τ with
 | some _=>if 900000<=a then none else some ⟨.mp d e,[(d,some ⟨e,a,[.mpc [] []],false,true,true⟩)]⟩
 | none=>none
def mapOf (h:Nat->Option Row):D->Option (List dp×List D)
 | .mp x v=>kR h x v
 | .mpc ks vs=>some (ks,vs)
 | _=>none
def rm (b:Bool) (n:dp) (a:List dp):Bool:=Hy n==b&&a.all fun k=>Hy k==b
def gT (T:Nat->Option Ty) (τ:Ty) (h:Nat->Option Row) (m i:D) (d:Bool):Option cd :=
 match Fl T τ,mapOf h m,Uu i with
 | some (b,φ),some (a,c),some n =>
  match j0 φ (φ.zero.map oF) with
  | some z=>if rm b n a=true∧(φ.zero.map oF).all bz=true then some ⟨if d then .tup [se (iQ z) a c n,.bool (a.contains n)] else se (iQ z) a c n,[]⟩ else none
  | none=>none
 | _,_,_=>none
def yh (h:Nat->Option Row):D->Option (D×List Nat)
 | .agg xs=>some (.agg (xs.map canon),[])
 | d =>
  match dQ h d with
  | some (a,fr)=>some (canon a,fr)
  | none=>none
def dR (T:Nat->Option Ty) (τ:Ty) (h:Nat->Option Row) (m i x:D):Option cd :=
 match Fl T τ,m,Uu i,yh h x with
 | some (b,_),.mp y v,some n,some (d,c) =>
  match h y with
  | some r =>
   match kR h y v with
   | some (a,e)=>if rm b n a=true∧r.fz=false∧c.contains y=false then some ⟨.und,jw h c++[(y,some ⟨r.v,r.ty,[.mpc (zl a n) (Db a e n d)],false,true,true⟩)]⟩ else none
   | none=>none
  | none=>none
 | _,_,_,_=>none
def Z0:D->D->Option Bool
 | .int k a,.int c b=>if k=c then some (a==b) else none
 | .bool a,.bool b=>some (a==b)
 | .str a,.str b=>some (a==b)
 | _,_=>none
def Z2:List D->List D->Option Bool
 | [],[]=>some true
 | x::c,y::d=>match Z0 x y,Z2 c d with|some a,some b=>some (a&&b)|_,_=>none
 | _,_=>none
def O9:Ds->Bool
 | .int _ | .bool | .str=>true
 | _=>false
def kindOk:Ds->D->Bool
 | .int _,.int _ _=>true
 | .bool,.bool _=>true
 | .str,.str _=>true
 | _,_=>false
def lV (T:Nat->Option Ty):Nat->List (Nat×Nat)->List D->Bool
 | _,[],[]=>true
 | o,(a,off)::b,x::c=>off==o&&(match T a with|some φ=>kindOk φ.ds x|none=>false)&&lV T (o+1) b c
 | _,_,_=>false
def YZ (a tight:Bool) (n:Nat):Option Bool:=if 0<n then some false else if a then some tight else none
def Z1 (T:Nat->Option Ty) (τ:Ty):D->D->Option Bool
 | .bool a,.bool b=>match τ.ds with | .bool=>some (a==b)|_=>none
 | .sl d tight n _,.sl true true 0 []=>match τ.ds with | .slice _=>YZ d tight n|_=>none
 | .agg c,.agg e =>
  match τ.ds with
  | .struct f=>if τ.eqok&&lV T 0 f c then Z2 c e else none
  | _=>none
 | _,_=>none
def D0 (c:BinOp) (k:IntKind) (x y:Int):Int :=
 let a:=BitVec.ofInt k.bits x
 let b:=BitVec.ofInt k.bits y
 match c with
 | .and=>k.wrap (a &&& b).toNat
 | .or=>k.wrap (a ||| b).toNat
 | .xor=>k.wrap (a ^^^ b).toNat
 | _=>k.wrap (a &&& ~~~b).toNat
def iB (a:BinOp) (k:IntKind) (x y:Int):Option D :=
 match a with
 | .add=>some (.int k (k.wrap (x+y)))
 | .sub=>some (.int k (k.wrap (x-y)))
 | .mul=>some (.int k (k.wrap (x*y)))
 | .quo=>if y=0 then none else some (.int k (k.wrap (x.tdiv y)))
 | .rem=>if y=0 then none else some (.int k (x.tmod y))
 | .and=>some (.int k (D0 .and k x y))
 | .or=>some (.int k (D0 .or k x y))
 | .xor=>some (.int k (D0 .xor k x y))
 | .andNot=>some (.int k (D0 .andNot k x y))
 | .eql=>some (.bool (x==y))
 | .neq=>some (.bool (x != y))
 | .lss=>some (.bool (x<y))
 | .leq=>some (.bool (x<=y))
 | .gtr=>some (.bool (x>y))
 | .geq=>some (.bool (x>=y))
 | _=>none
def Hw (a:BinOp) (x y:ByteArray):Option D :=
 match a with
 | .add=>if ((x.size+y.size:Nat):Int)>IntKind.i64.max then none else some (.str (x++y))
 | .eql=>some (.bool (x.toList==y.toList))
 | .neq=>some (.bool !(x.toList==y.toList))
 | .lss=>some (.bool (Op.bytesLess x.toList y.toList))
 | .leq=>some (.bool (Op.bytesLess x.toList y.toList||x.toList==y.toList))
 | .gtr=>some (.bool !(Op.bytesLess x.toList y.toList||x.toList==y.toList))
 | .geq=>some (.bool !Op.bytesLess x.toList y.toList)
 | _=>none
def zp (a:BinOp) (k:IntKind) (x y:Int):Option D :=
 if y<0 then none else
 match a with
 | .shl=>some (.int k (k.wrap (x*2 ^ (min y.toNat k.bits))))
 | .shr=>some (.int k (x.fdiv (2 ^ (min y.toNat k.bits))))
 | _=>none
def lL:BinOp->Bool
 | .shl | .shr=>true
 | _=>false
def DZ (T:Nat->Option Ty) (e:Nat) (d:BinOp) (a b:D):Option D :=
 match a,b with
 | .int k x,.int f y=>if lL d then zp d k x y else if k=f then iB d k x y else none
 | .str x,.str y=>Hw d x y
 | a,b =>
  match T e with
  | some τ =>
   match d with
   | .eql=>match Z1 T τ a b with|some c=>some (.bool c)|none=>none
   | .neq=>match Z1 T τ a b with|some c=>some (.bool !c)|none=>none
   | _=>none
  | none=>none
def Vb (a:UnOp):D->Option D
 | .int k n=>match a with
  | .neg=>some (.int k (k.wrap (0-n)))
  | .xor=>some (.int k (D0 .xor k (if k.signed then -1 else k.max) n))
  | _=>none
 | .bool b=>match a with | .not=>some (.bool !b)|_=>none
 | _=>none
mutual
def iR:D->Bool
 | .int _ _ | .bool _ | .str _=>true
 | .agg xs | .tup xs=>qZ xs
 | _=>false
def qZ:List D->Bool
 | []=>true
 | x::xs=>iR x&&qZ xs
end
def C5:D->Option Nat
 | .str s=>some s.size
 | .sl _ _ n _=>some n
 | .buf _ _ _ _ n=>some n
 | _=>none
def zf (f:Int->Int->Int) (k:IntKind):Int->List D->Option Int
 | x,[]=>some x
 | x,.int a y::r=>if k=a then zf f k (f x y) r else none
 | _,_=>none
def dL (T:Nat->Option Ty) (h:Nat->Option Row) (e:Nat) (c:Option Nat) (b:Builtin) (f:List Nat) (a:List D):Option cd :=
 match b,f,a with
 | .len,t::_,[x] =>
  if alive h x then
   match T t,C5 x with
   | some τ,some n=>match τ.ds,x with
    | .str,.str _=>some ⟨.int .i64 n,[]⟩
    | .slice _,.sl _ _ _ _=>some ⟨.int .i64 n,[]⟩
    | .slice _,.buf _ _ _ _ _=>some ⟨.int .i64 n,[]⟩
    | _,_=>none
   | some τ,none=>match τ.ds,mapOf h x with
    | .map _ _,some (g,_)=>some ⟨.int .i64 (g.length:Nat),[]⟩
    | _,_=>none
   | _,_=>none
  else none
 | .append,[t,i],[s,x] =>
  if t=i then
   match T t,c with
   | some τ,some d=>jE T τ h e d s x
   | _,_=>none
  else none
 | .max,_,.int k x::r=>match zf (fun x y=>if y>x then y else x) k x r with|some z=>some ⟨.int k z,[]⟩|none=>none
 | .min,_,.int k x::r=>match zf (fun x y=>if y<x then y else x) k x r with|some z=>some ⟨.int k z,[]⟩|none=>none
 | _,_,_=>none
def sh:D->Bool
 | .buf _ _ _ _ _ | .clo _ _ _ | .und | .skp | .box1 _ _ _ _ _=>false
 | _=>true
inductive RK where
 | clean (d:D)
 | same (s o n:Nat)
 | fresh (ty s n:Nat) (cells:List D)
structure Grow where
 ty:Nat
 k:Nat
 bytes:Nat
 sem:List D->List D->Option (List D)
def Fw (a b:Nat) (c:Bool):Option D->Option Row
 | some (.nx n xs)=>some ⟨b,a,xs,c,true,false⟩
 | _=>none
def I3 (a:Bool) (o:Nat):List D->Option Row
 | [.nr ty s nv cs]=>Fw ty nv a (cs.drop o).head?
 | _=>none
def sg (r:Row) (o:Nat):Option Row:=if r.mp then I3 r.fz o r.cells else none
def fD:D->Bool
 | .int _ _ | .bool _ | .str _ | .sl _ _ _ _=>true
 | _=>false
def rP (y s o:Nat):D->D
 | .nx n _ =>.ph (NK y o) s n
 | d=>if fD d then d else .und
def kh {y s o:Nat} {d:D} (h:fD d=true):rP y s o d=d:=by
 cases d<;>first|rfl|cases h
def rG {y s o x a n:Nat} {d:D} (h:rP y s o d=.ph x a n):∃b,d=.nx n b∧x=NK y o∧a=s:=by
 cases d<;>simp[rP,fD]at h;obtain⟨rfl,rfl,rfl⟩:=h;exact⟨_,rfl,rfl,rfl⟩
def lP (y s o:Nat) (d:D):phC (rP y s o d)=true:=by
 cases d<;>rfl
def skL (y:Nat):List D->List D
 | [.nr ty s nv cs]=>cs.mapIdx (rP y s)
 | cs=>cs
def Dz (y:Nat) (r:Row):Row:=if r.mp then { r with cells:=skL y r.cells } else r
def ltB (a b:Nat):Decidable (a<b):=@Eq.rec Prop (¬b<=a) (fun p _=>Decidable p) instDecidableNot (a<b) (propext Nat.not_le)
def EH (h:Nat->Option Row) (k:Nat):Option Row:=@ite _ (k<2*PK) (ltB k (2*PK)) ((h k).map (Dz k)) ((h (k % PK)).bind fun r=>sg r (k / PK-2))
def rt (k:Nat):Nat:=if k<2*PK then k else k % PK
structure ad1 where
 lnd:Nat->Option (Nat×(Nat->Nat->Nat->Nat->List D->List D->Option (D×List D))):=fun _=>none
 res:Nat->Option (List D->Option (Nat×Nat×Nat×Nat×Nat×List D)):=fun _=>none
structure Env where
 lends:Nat->Bool
 sem:Nat->Option (D×Row)->List D->Option (RK×Option Row)
 own:Nat->Bool
 hint:Nat->Option Nat:=fun _=>none
 ins:Nat->Option (Nat×Nat×Nat):=fun _=>none
 grw:Nat->Option Grow:=fun _=>none
 nst:Nat->Option (Nat×Nat×Nat):=fun _=>none
 nx:ad1:={}
def vH (Γ:Env) (h:Nat->Option Row) (e:Nat) (b:Option Nat) (g:Nat) (a:List D):Option cd :=
 match bX h a with
 | some (c,f) =>
  match Γ.sem g none c with
  | some (.clean r,_)=>some ⟨r,if iR r then [] else jw h f⟩
  | some (.fresh i s n cells,_) =>
   match b with
   | some d=>if f.contains d=false then some ⟨.buf d e s 0 n,(if qZ cells then [] else jw h f)++[(d,some ⟨e,i,cells,false,true,false⟩)]⟩ else none
   | none=>none
  | _=>none
 | none=>none
def qM (Γ:Env) (h:Nat->Option Row) (e:Nat) (f:Option Nat) (g x v:Nat) (d0:D) (a:List D):Option cd :=
 match Ae d0 h x v with
 | some r =>
  if r.fz=false then
   match bX h a with
   | some (aeS,b) =>
    if b.contains x=false then
     match Γ.sem g (some (d0,{ r with v:=0 })) aeS with
     | some (.clean c,some i)=>some ⟨c,jw h b++[(x,some { i with v:=v })]⟩
     | some (.same s o n,some i)=>some ⟨.buf x v s o n,jw h b++[(x,some { i with v:=v })]⟩
     | some (.fresh j s n cells,none) =>
      match f with
      | some d=>if b.contains d=false then some ⟨.buf d e s 0 n,jw h b++[(x,none),(d,some ⟨e,j,cells,false,true,false⟩)]⟩ else none
      | none=>none
     | _=>none
    else none
   | none=>none
  else none
 | none=>none
def yi (h:Nat->Option Row) (p:Grow) (a:List D):Option cd :=
 match a with
 | .pm y v k::b =>
  match tx h y v,h k with
  | some (c,d,s,n),some r =>
   if d=k∧k=PK+y∧y<PK∧c.fz=false∧r.mp=false∧r.fz=false∧r.lst=true∧s=p.k∧r.ty=p.ty∧r.cells.length=n*p.k∧(n+1)*p.bytes<=140737488355328 then
    match p.sem r.cells b with
    | some cs=>some ⟨.int .i64 (n:Int),[(k,some ⟨r.v,p.ty,r.cells++cs,false,true,false⟩),(y,some ⟨c.v,c.ty,[.ph k p.k (n+1)],false,false,true⟩)]⟩
    | none=>none
   else none
  | _,_=>none
 | _=>none
def zI (h:Nat->Option Row) (e:Nat) (c:Option Nat) (p:Nat×Nat×Nat) (a:List D):Option cd :=
 match a with
 | [.buf x v s o n,.int .i64 i,.buf y f g j m] =>
  match live h x v,live h y f,c with
  | some r,some b,some d =>
   if r.fz=false∧b.fz=false∧r.lst=true∧b.lst=true∧x≠y∧s=p.2.1∧g=p.2.1∧r.ty=p.1∧b.ty=p.1∧o=0∧j=0∧r.cells.length=n*p.2.1∧b.cells.length=m*p.2.1∧0<=i∧i<=n∧0<m∧(n+m)*p.2.2<=140737488355328 then
    some ⟨.buf d e p.2.1 0 (n+m),[(y,none),(x,none),(d,some ⟨e,p.1,r.cells.take (i.toNat*p.2.1)++(b.cells++r.cells.drop (i.toNat*p.2.1)),false,true,false⟩)]⟩
   else none
  | _,_,_=>none
 | _=>none
def iJ (Γ:Env) (h:Nat->Option Row) (e:Nat) (b:Option Nat) (f:D) (a:List D):Option cd :=
 match f with
 | .fn g =>
  match Γ.ins g with
  | some p=>zI h e b p a
  | none =>
  match Γ.grw g with
  | some p=>yi h p a
  | none =>
  if Γ.lends g then
   match a with
   | .buf x v s o n::rest=>qM Γ h e b g x v (.buf 0 0 s o n) rest
   | .ptr x v o::rest=>qM Γ h e b g x v (.ptr 0 0 o) rest
   | .mp x v::rest=>qM Γ h e b g x v (.mp 0 0) rest
   | _=>none
  else vH Γ h e b g a
 | .clo g d c=>if c.all sh then vH Γ h e b g (c.take d++(a++c.drop d)) else none
 | _=>none
def dh (T:Nat->Option Ty) (b e:Nat) (a:Option Nat) (h:Nat->Option Row) (x:D):Option cd :=
 match x with
 | .buf y v s o n =>
  match a,live h y v with
  | some d,some r=>if r.fz then some ⟨.buf y v s o n,[]⟩ else some ⟨.buf d e s o n,[(y,none),(d,some { r with v:=e })]⟩
  | _,_=>if (oS h y v).isSome then some ⟨.buf y v s o n,[]⟩ else some ⟨.und,[]⟩
 | .sl true true 0 [] =>
  match a,T b with
  | some d,some τ =>
   match τ.ds with
   | .slice el=>match T el with|some φ=>some ⟨.buf d e φ.size 0 0,[(d,some ⟨e,el,[],false,true,false⟩)]⟩|none=>none
   | _=>none
  | _,_=>none
 | x=>some ⟨x,[]⟩
def qN (h:Nat->Option Row):D->Option (D×List Nat)
 | .agg xs=>some (.agg xs,[])
 | d=>dQ h d
def mI (h:Nat->Option Row) (x:D):Option cd :=
 match qN h x with
 | some (a,fr)=>some ⟨iQ a,jw h fr⟩
 | none=>none
def sM (T:Nat->Option Ty) (q:Nat->Bool) (b e:Nat) (a:Option Nat) (h:Nat->Option Row) (x:D):Option cd :=
 match a with
 | some d=>if q d then dh T b e (some d) h x else mI h x
 | none=>dh T b e none h x
def rL (T:Nat->Option Ty) (Γ:Env) (e:Nat) (o:Oper) (g:Operand->D) (h:Nat->Option Row):Option cd :=
 match o.op with
 | .move x=>some ⟨g x,[]⟩
 | .assign x=>sM T Γ.own o.type e o.dst h (g x)
 | .pick c a b=>match g c with | .bool true=>some ⟨g a,[]⟩ | .bool false=>some ⟨g b,[]⟩|_=>none
 | .alloc j=>match T j,o.dst with
  | some τ,some d=>if (τ.zero.map oF).all bz then some ⟨match Γ.hint d with|some y =>.pm d e y|none =>.ptr d e 0,[(d,some ⟨e,j,τ.zero.map oF,false,false,false⟩)]⟩ else none
  | _,_=>none
 | .box j x=>match o.dst,fC h (g x) with
  | some d,some (v,u)=>if u.contains d=false then some ⟨.ptr d e 0,jw h u++[(d,some ⟨e,j,v,false,false,false⟩)]⟩ else none
  | _,_=>none
 | .load j p=>match T j with|some τ=>qS τ h (g p)|none=>none
 | .store j p x=>match T j with|some τ=>gK τ h (g p) (g x)|none=>none
 | .nilCheck x=>uA h (g x)
 | .fieldAddr j x i=>match T j with|some τ=>fE T τ h i (g x)|none=>none
 | .field j x i=>match T j with|some τ=>zY T τ i (g x)|none=>none
 | .indexAddr j x i=>match T j with|some τ=>cy T τ h (g x) (g i)|none=>none
 | .index j x i=>match T j with|some τ=>lu T τ (g x) (g i)|none=>none
 | .slice j x w z A=>match T j with|some τ=>gJ T τ h (g x) (w.map g) (z.map g) (A.map g)|none=>none
 | .build j parts=>match T j with|some τ=>qP Γ.own T τ h o.dst (parts.toList.map fun p=>(p.1,g p.2))|none=>none
 | .buildSlice j q parts=>match T j,o.dst with|some τ,some d=>ef T τ h e d q (parts.toList.map fun p=>(p.1,g p.2))|_,_=>none
 | .makeSlice j l c=>match T j,o.dst with|some τ,some d=>sa T τ e d (g l) (g c)|_,_=>none
 | .binOp r j x y _=>match DZ T j r (g x) (g y) with|some d=>some ⟨d,[]⟩|none=>none
 | .unOp r _ x=>match Vb r (g x) with|some d=>some ⟨d,[]⟩|none=>none
 | .convert src s x=>match T s,T src,g x with
  | some τ,some _,.int _ n=>(match τ.ds with | .int k=>some ⟨.int k (k.wrap n),[]⟩|_=>none)
  | _,_,_=>none
 | .makeFunc B first caps=>match B with | .func f=>if (first.toList.map g++caps.toList.map g).all sh then some ⟨.clo f first.size (first.toList.map g++caps.toList.map g),[]⟩ else none|_=>none
 | .makeMap j none=>match T j,o.dst with|some τ,some d=>nO T j τ e d|_,_=>none
 | .lookup j m i C=>match T j with|some τ=>gT T τ h (g m) (g i) C|none=>none
 | .insert j m i x=>match T j with|some τ=>dR T τ h (g m) (g i) (g x)|none=>none
 | .mapUpdate j m i x=>match T j with|some τ=>dR T τ h (g m) (g i) (g x)|none=>none
 | .extract t i=>match g t with | .tup E=>(match E[i]? with|some d=>some ⟨d,[]⟩|none=>none)|_=>none
 | .call c=>match c.callee with
  | .value f=>iJ Γ h e o.dst (g f) (c.args.toList.map g)
  | .builtin b=>dL T h e o.dst b c.argTypes.toList (c.args.toList.map g)
  | _=>none
 | _=>none
def gP (o:Oper) (a:Operand->D):List Nat :=
 match o.op with
 | .move _ | .pick _ _ _=>[]
 | .makeFunc _ _ _=>[]
 | op=>(op.operands.toList.flatMap fun x=>nm (a x))++o.dst.toList
def aA {α:Type} (f:Nat->α) (i:Nat) (v:α):bY f i v i=v:=by simp[bY]
def aC {α:Type} (f:Nat->α) {i j:Nat} (v:α) (h:j≠i):bY f i v j=f j:=by simp[bY,h]
def X6 {α:Type} (f:Nat->α) {i j:Nat} (v u:α) (h:i≠j):bY (bY f i v) j u=bY (bY f j u) i v:=by
 funext k;unfold bY;grind
def RP.sj {w:World} {M:Nat->Prop} {d:D} {u:Value} (h:RP w M d u) (a:bz d=true):u.oneCell'=true:=by
 cases h<;>simp_all [bz,Value.oneCell']
def RP.cells {w:World} {M:Nat->Prop} {d:D} {u:Value} (h:RP w M d u) (a:bz d=true):u.cells = #[u]:=by
 cases h with
 | ali x v s o n u h1=>cases u<;>simp_all [Value.oneCell',Value.cells]
 | alm x v u h1=>cases u<;>simp_all [Value.oneCell',Value.cells]
 | _=>simp_all [bz,Value.cells]
def bQ {w:World} {M:Nat->Prop} {h:Nat->Option Row} {blk:Nat->Option (Nat×Nat)} {V:Nat->Nat->Prop} {d:D} {u:Value} (a:RP w M d u):RT w M h blk V d u:=by
 cases a with
 | int k n=>exact .int k n
 | bool b=>exact .bool b
 | str s=>exact .str s
 | sl A c nl tight n xs us h1 h2 h3 h4 h5 h6 h7 h8=>exact .sl A c nl tight n xs us h1 h2 h3 h4 h5 h6 h7 h8
 | ip xs ad us h6 h7 h8=>exact .ip xs ad us h6 h7 h8
 | agg xs us h1 h2 h3=>exact .agg xs us h1 h2 h3
 | tup xs us h1 h2=>exact .tup xs us h1 h2
 | fn f=>exact .fn f
 | ali x v s o n u h1=>exact .ali x v s o n u h1
 | mpc ks vs mb us h1 h2 h3 h4=>exact .mpc ks vs mb us h1 h2 h3 h4
 | alm x v u h1=>exact .alm x v u h1
 | clo f g xs us h1 h2 =>
  refine⟨us,rfl,h1,fun j x e =>?_⟩;have:=h2 j x e;cases x with
  | ptr x v o=>cases this
  | mp x v=>cases this
  | pm x v y=>cases this
  | _=>exact this
def VC (w:World) (M:Nat->Prop) (h:Nat->Option Row) (blk:Nat->Option (Nat×Nat)) (V:Nat->Nat->Prop) (v:Value):RT w M h blk V (oF v) v:=by
 unfold oF;split
 ·exact .int _ _
 ·exact .bool _
 ·exact .str _
 ·exact .sl none 0 true true 0 [] (fun _=>undef) (aeX _) (aeY _) (fun _=>⟨fun _=>⟨rfl,rfl⟩,fun h=>by cases h⟩) (fun _=>⟨rfl,rfl⟩) (fun _=>rfl) (fun h=>absurd rfl h) (fun j x a=>by simp at a) (fun x a=>by simp at a)
 ·exact .mpc [] [] none (fun _=>undef) rfl (fun _=>rfl) (fun b c=>by cases c) (fun j x d=>by simp at d)
 ·trivial
structure HD (w w':World) (M M':Nat->Prop) (h h':Nat->Option Row) (blk blk':Nat->Option (Nat×Nat)) (V V':Nat->Nat->Prop):Prop where
 hk:∀b,b<w.heap.size->¬M b->b<w'.heap.size∧¬M' b∧w'.heap[b]? = w.heap[b]?
 hV:∀x v,V x v->V' x v
 hrow:∀x v,V x v->∀r',h' x=some r'->r'.v=v->(∃r,h x=some r∧r.v=v)∧blk' x=blk x∧∀g,blk x=some g->w'.shape? g.1=w.shape? g.1
def RC.mono {w l:World} {M m:Nat->Prop} {h n:Nat->Option Row} {blk b:Nat->Option (Nat×Nat)} {V p:Nat->Nat->Prop} (k:HD w l M m h n blk b V p) {d:D} {u:Value}
  (a:RC w M h blk V d u):RC l m n b p d u:=by
 cases d with
 | ptr x v o =>
  refine⟨k.hV _ _ a.1,fun c e f =>?_⟩;obtain⟨⟨r,g,i⟩,j,_⟩:=k.hrow x v a.1 c e f;rw[j];exact a.2 r g i
 | mp x v =>
  refine⟨k.hV _ _ a.1,fun c e f =>?_⟩;obtain⟨⟨r,g,i⟩,j,_⟩:=k.hrow x v a.1 c e f;rw[j];exact a.2 r g i
 | pm x v y =>
  refine⟨k.hV _ _ a.1,fun c e f =>?_⟩;obtain⟨⟨r,g,i⟩,j,_⟩:=k.hrow x v a.1 c e f;rw[j];exact a.2 r g i
 | _=>exact RP.keep k.hk a
def RT.mono {w A:World} {M B:Nat->Prop} {h C:Nat->Option Row} {blk b:Nat->Option (Nat×Nat)} {V E:Nat->Nat->Prop} (k:HD w A M B h C blk b V E) {d:D} {u:Value}
  (a:RT w M h blk V d u):RT A B C b E d u:=by
 cases d with
 | ptr x v o=>exact RC.mono (d := .ptr x v o) k a
 | mp x v=>exact RC.mono (d := .mp x v) k a
 | pm x v y=>exact RC.mono (d := .pm x v y) k a
 | buf x v s o n =>
  refine⟨k.hV _ _ a.1,fun m e i =>?_⟩;obtain⟨⟨r,l,p⟩,q,F⟩:=k.hrow x v a.1 m e i;rw[q];rcases a.2 r l p with⟨g,G,c,N,t,H,I,J,K,L,O⟩|z
  ·grind
  ·exact .inr z
 | clo f U xs =>
  obtain⟨P,e,i,l⟩:=a;exact⟨P,e,i,fun j x Q=>(l j x Q).mono k⟩
 | box1 x v s o n =>
  obtain⟨R,S,T,a⟩:=a;refine⟨R,S,T,k.hV _ _ a.1,fun m e i =>?_⟩;obtain⟨⟨r,l,p⟩,q,F⟩:=k.hrow x v a.1 m e i;rw[q];rcases a.2 r l p with⟨g,G,c,N,t,H,I,J,K,L,O⟩|z
  ·simp_all
  ·exact .inr z
 | und=>trivial
 | skp=>exact a
 | _=>exact RP.keep k.hk a
def cK {w a:World} {b:Nat} (h:a.heap[b]? = w.heap[b]?):a.shape? b=w.shape? b:=by simp[World.shape?,h]
def ez.refl (L:Nat->Prop) (w:World):ez L w w:=⟨rfl,rfl,rfl,aeX _,fun _ _ _=>rfl⟩
def ez.trans {L L':Nat->Prop} {a b c:World} (h:ez L a b) (k:ez L' b c) (e:∀x,L' x->x<a.heap.size->L x):ez L a c :=
 ⟨k.os.trans h.os,k.tape.trans h.tape,k.output.trans h.output,aeZ h.size k.size,fun i d hn=>(k.block i (ae0 d h.size) (fun f=>hn (e i f d))).trans (h.block i d hn)⟩
def ez.Aj {L:Nat->Prop} {w a:World} (h:Below w.heap.size w a):ez L w a:=⟨h.os,h.tape,h.output,h.size,fun k b _=>h.block k b⟩
def ez.below {L:Nat->Prop} {w a:World} (h:ez L w a) (c:∀b,¬L b):Below w.heap.size w a:=⟨h.os,h.tape,h.output,h.size,fun k d=>h.block k d (c k)⟩
def Vz.keep {w a:World} {M c:Nat->Prop} {g:Nat×Nat} {r:Row} (h:Vz w M g r) (i:a.heap[g.1]? = w.heap[g.1]?) (k:∀b,b<w.heap.size->¬M b->b<a.heap.size∧¬c b∧a.heap[b]? = w.heap[b]?):Vz a c g r:=by
 obtain⟨l,m,n,e⟩:=h;exact⟨l,i.trans m,n,fun j d f=>⟨(e j d f).1,(e j d f).2.keep k⟩⟩
def zF.keep {w f:World} {M v:Nat->Prop} {g:Nat×Nat} {r r':Row} (h:zF w M g r) (z:r'.cells=r.cells) (i:r'.ty=r.ty) (y:f.heap[g.1]? = w.heap[g.1]?) (k:∀b,b<w.heap.size->¬M b->b<f.heap.size∧¬v b∧f.heap[b]? = w.heap[b]?):zF f v g r':=by
 obtain⟨A,B,C,D,E,F⟩:=h;refine⟨A,B,z.trans C,D,fun q =>?_,fun q =>?_⟩
 ·obtain⟨d,a,m,n,e,o,p,s⟩:=E (i ▸ q);exact⟨d,a,y.trans m,n,e,o,p,fun j x t=>(s j x t).keep k⟩
 ·rw[i];obtain⟨u,b,d,a,seen,c,l,o,m,n,p,s,e,G,H,I,J,K,L,N,O⟩:=F (i ▸ q);obtain⟨P,Q,R⟩:=k b n p;exact⟨u,b,d,a,seen,c,l,o,y.trans m,P,Q,R.trans s,e,G,H,I,J,K,L,N,fun j x t=>(O j x t).keep k⟩
def DN.keep {w a:World} {M c:Nat->Prop} {d:D} {u:Value} (h:DN w M d u) (e:∀b,b<w.heap.size->¬M b->b<a.heap.size∧¬c b∧a.heap[b]? = w.heap[b]?):DN a c d u:=by
 cases d with
 | ph _ _ _=>trivial
 | und=>trivial
 | _=>exact RP.keep e h
def DO.keep {w a:World} {M c:Nat->Prop} {g:Nat×Nat} {r r':Row} (h:DO w M g r) (e:r'.cells=r.cells) (n:r'.ty=r.ty) (o:a.heap[g.1]? = w.heap[g.1]?) (f:∀b,b<w.heap.size->¬M b->b<a.heap.size∧¬c b∧a.heap[b]? = w.heap[b]?):DO a c g r':=by
 obtain⟨i,k,p,l,m⟩:=h;exact⟨by rw[e];exact i,k,by simp_all,by rw[e];exact l,fun j d q=>(m j d (by simp_all)).keep f⟩
def dV.keep {w c:World} {M k:Nat->Prop} {g:Nat×Nat} {r r':Row} (h:dV w M g r) (e:r'.cells=r.cells) (l:r'.ty=r.ty) (o:r'.mp=r.mp) (m:c.heap[g.1]? = w.heap[g.1]?) (f:∀b,b<w.heap.size->¬M b->b<c.heap.size∧¬k b∧c.heap[b]? = w.heap[b]?):dV c k g r':=by
 unfold dV at h ⊢;rw[o];cases a:r.mp with
 | true =>
  rw[a]at h;rcases h with h|h
  ·exact .inl (zF.keep h e l m f)
  ·exact .inr (DO.keep h e l m f)
 | false =>
  rw[a]at h;obtain⟨p,s,q,n⟩:=h;refine⟨p,by simp_all,by rw[e];exact q,fun j d i =>?_⟩;rw[e]at i;exact⟨(n j d i).1,(n j d i).2.keep f⟩
def dV.heap {w:World} {M:Nat->Prop} {g:Nat×Nat} {r:Row} (h:dV w M g r):g.1<w.heap.size:=by
 unfold dV at h;cases d:r.mp with
 | true =>
  rw[d]at h;rcases h with⟨m,n,_,_,i,j⟩|⟨_,k,f,_⟩
  ·by_cases q:r.ty<900000
   ·obtain⟨e,a,f,_⟩:=i q;grind
   ·obtain⟨_,b,e,a,seen,c,l,o,f,_⟩:=j (by omega);grind
  grind
 | false=>rw[d]at h;obtain⟨k,f,_⟩:=h;grind
def ZL.mono {w w':World} {h d:Nat->Option Row} {blk a:Nat->Option (Nat×Nat)} {x s n:Nat} {u:Value} (k:ZL w h blk x s n u) (e:∀b,d x=some b->(∃r,h x=some r)∧a x=blk x∧∀g,blk x=some g->w'.shape? g.1=w.shape? g.1):ZL w' d a x s n u:=by
 intro b f;obtain⟨⟨r,i⟩,j,m⟩:=e b f;rw[j];rcases k r i with⟨g,c,o,p,q,t,v,y,z,A⟩|l
 ·simp_all
 ·exact .inr l
def Sh.keep {L:Nat->Prop} {w0 w w':World} {M a:Nat->Prop} {g:Option (Nat×Nat)} {r:Row} (h:Sh L w0 w M g r) (c:∀b,g=some b->w'.heap[b.1]? = w.heap[b.1]?) (d:∀b,b<w.heap.size->¬M b->b<w'.heap.size∧¬a b∧w'.heap[b]? = w.heap[b]?):Sh L w0 w' a g r:=by
 cases g with
 | none=>exact h
 | some g=>exact⟨h.1,h.2.keep rfl rfl rfl (c g rfl) d⟩
section
variable {N:Nat} {M:Nat->Prop} {L:jM} {w0:World} {blk:Nat->Option (Nat×Nat)} {V:Nat->Nat->Prop} {t:Nat->D} {h:Nat->Option Row} {a:Act} {w:World}
def Inv.ev (b:Inv N M L w0 blk V t h a w) (x:Operand):RT w (Own M h blk) h blk V (ev t x) (a.eval x):=by
 cases x with
 | tmp i=>exact b.slots i
 | const v=>exact VC _ _ _ _ _ v
 | global g=>trivial
 | func f=>exact RP.fn f
def Inv.Ff (b:Inv N M L w0 blk V t h a w) {x:Nat} {r:Row} {g:Nat×Nat} (c:h x=some r) (d:blk x=some g) (e:r.mp=false):Vz w (Own M h blk) g r:=by
 have:=(b.rows x r c).2;rw[d]at this;have:=this.2;unfold dV at this;simp_all
def Inv.rowIs (b:Inv N M L w0 blk V t h a w) {x:Nat} {r:Row} {g:Nat×Nat} (c:h x=some r) (d:blk x=some g):dV w (Own M h blk) g r:=by
 have:=(b.rows x r c).2;rw[d]at this;exact this.2
def Inv.base (b:Inv N M L w0 blk V t h a w) {x:Nat} {r:Row} {g:Nat×Nat} (c:h x=some r) (d:blk x=some g):w0.heap.size<=g.1∨LB L g.1:=by
 have:=(b.rows x r c).2;rw[d]at this;exact this.1
def Inv.lt (b:Inv N M L w0 blk V t h a w) {x:Nat} {r:Row} {g:Nat×Nat} (c:h x=some r) (d:blk x=some g):g.1<w.heap.size:=by
 exact (b.rowIs c d).heap
def Inv.zk (c:Inv N M L w0 blk V t h a w) {b:Nat} (d:Own M h blk b):b<w.heap.size:=by
 rcases d with d|⟨x,r,g,e,_,f,rfl⟩
 ·exact ae0 (c.mlt b d) c.below.size
 ·exact c.lt e f
def Inv.notM (b:Inv N M L w0 blk V t h a w) {x:Nat} {r:Row} {g:Nat×Nat} (c:h x=some r) (d:blk x=some g):¬M g.1:=by
 rcases b.base c d with h1|h1
 ·intro e;have:=b.mlt _ e;omega
 ·exact b.lent _ h1
def WN (a:Array Value) (d i:Nat) (v:Value) (b:d<a.size):(a.setIfInBounds d v).getD i undef=if i=d then v else a.getD i undef:=by
 simp only[ae1];grind
def Inv.put (b:Inv N M L w0 blk V t h a w) {d:Nat} (e:d<N) {x:D} {v:Value} (f:RT w (Own M h blk) h blk V x v):Inv N M L w0 blk V (bY t d x) h (a.put (some d) v) w where
 tab:=b.tab
 below:=b.below
 mlt:=b.mlt
 lent:=b.lent
 pin:=b.pin
 defers:=b.defers
 tsz:=by simp[Act.put,b.tsz]
 slots i:=by
  simp only[Act.put];rw[WN _ _ _ _ (by rw[b.tsz];exact e)]
  by_cases c:i=d
  ·subst c;simpa [bY] using f
  ·simpa [bY,c] using b.slots i
 rows:=b.rows
 inj:=b.inj
 ali:=b.ali
 pha:=b.pha
 big:=b.big
def Inv.weaken (b:Inv N M L w0 blk V t h a w) {V':Nat->Nat->Prop} (hV:∀x v,V x v->V' x v):Inv N M L w0 blk V' t h a w where
 tab:=b.tab
 below:=b.below
 mlt:=b.mlt
 lent:=b.lent
 pin go k:=⟨hV _ _ (b.pin go k).1,(b.pin go k).2⟩
 defers:=b.defers
 tsz:=b.tsz
 slots i:=(b.slots i).mono ⟨fun _ e f=>⟨e,f,rfl⟩,hV,fun _ _ _ l e f=>⟨⟨l,e,f⟩,rfl,fun _ _=>rfl⟩⟩
 rows x r m:=⟨fun n=>hV _ _ ((b.rows x r m).1 n),(b.rows x r m).2⟩
 pha:=b.pha
 big:=b.big
 inj:=b.inj
 ali y r g o p q k j c d s z:=by
  obtain⟨u,e,f⟩:=b.ali y r g o p q k j c d s z;exact⟨u,e,f.mono ⟨fun _ e f=>⟨e,f,rfl⟩,hV,fun _ _ _ l e f=>⟨⟨l,e,f⟩,rfl,fun _ _=>rfl⟩⟩⟩
def Inv.later (e:Inv N M L w0 blk V t h a w) {C:World} (hb:Below w.heap.size w C):Inv N M L w0 blk V t h a C where
 tab:=e.tab.keep fun b f l=>⟨ae0 f hb.size,l,hb.block b f⟩
 below:=e.below.trans (ez.Aj (L:=LB L) hb) (fun _ h _=>h)
 mlt:=e.mlt
 lent:=e.lent
 pin go k:=⟨(e.pin go k).1,fun r z D=>⟨((e.pin go k).2 r z D).1,fun g m=>by
  have f:=(e.pin go k).2 r z D;rw[<- f.2 g m];exact cK (hb.block _ (e.lt z (f.1.trans m)))⟩⟩
 defers:=e.defers
 tsz:=e.tsz
 slots i:=(e.slots i).mono ⟨fun b f l=>⟨ae0 f hb.size,l,hb.block b f⟩,fun _ _ h=>h,
  fun x v _ o f l=>⟨⟨o,f,l⟩,rfl,fun g k=>cK (hb.block _ (e.lt f k))⟩⟩
 rows x r A:=⟨(e.rows x r A).1,(e.rows x r A).2.keep (fun g k=>hb.block _ (e.lt A k)) (fun b p E=>⟨ae0 p hb.size,E,hb.block b p⟩)⟩
 inj:=e.inj
 big:=e.big
 pha y r g q hm k j x s n F:=by
  obtain⟨G,u,f,l⟩:=e.pha y r g q hm k j x s n F;exact⟨G,u,(aeT (a:=⟨g.1,g.2+j,none⟩) (hb.block _ (e.lt q k))).trans f,l.mono fun o p=>⟨⟨o,p⟩,rfl,fun O B=>cK (hb.block _ (e.lt p B))⟩⟩
 ali y r g q H I k j c d J K:=by
  obtain⟨u,f,l⟩:=e.ali y r g q H I k j c d J K;refine⟨u,(aeT (a:=⟨g.1,g.2+j,none⟩) (hb.block _ (e.lt q k))).trans f,l.mono ⟨fun b f l=>⟨ae0 f hb.size,l,hb.block b f⟩,fun _ _ h=>h,
   fun x v _ o f l=>⟨⟨o,f,l⟩,rfl,fun g k=>cK (hb.block _ (e.lt f k))⟩⟩⟩
def Inv.drew (b:Inv N M L w0 blk V t h a w):Inv N M L w0 blk V t h a w.drew:=b.later ((Below.refl _ _).drew)
def G2 (l a:List (Nat×Option Row)):∀h:Nat->Option Row,aW h (l++a)=aW (aW h l) a:=by
 induction l with
 | nil=>intro h;rfl
 | cons p l b=>intro h;obtain⟨x,r⟩:=p;exact b _
def gH (h:Nat->Option Row) (l:List (Nat×Option Row)) (x:Nat) (r:Option Row):aW h (l++[(x,r)])=bY (aW h l) x r:=by rw[G2];rfl
def Ks (r:Row):(vu r).fz=true:=by
 unfold vu;grind
def aaZ (r:Row):(vu r).v=r.v∧(vu r).ty=r.ty∧(vu r).cells=r.cells∧(vu r).mp=r.mp∧((vu r).lst=false->vu r=r):=by
 unfold vu;grind
def P9 (h:Nat->Option Row) (x:Nat):∀(a:List Nat) (g:Nat->Option Row),(∀y,y∉a->g y=h y∨g y=(h y).map vu) ->
  (x∈a->aW g (jw h a) x=(h x).map vu)∧(x∉a->aW g (jw h a) x=g x):=by
 intro a
 induction a with
 | nil=>intro g _;exact⟨fun b=>by simp at b,fun _=>rfl⟩
 | cons y a i =>
  intro g k;simp only[jw,ae2,aW];have e:∀z,z∉a->(bY g y ((h y).map vu)) z=h z∨(bY g y ((h y).map vu)) z=(h z).map vu:=by
   intro z l
   by_cases c:z=y
   ·subst c;right;simp[bY]
   ·simp only[bY,c,if_false];simp_all
  obtain⟨j,f⟩:=i _ e;refine⟨fun b =>?_,fun b =>?_⟩
  ·by_cases d:x∈a
   ·exact j d
   ·have:x=y:=by simp_all
    subst this;exact (f d).trans (by simp[bY])
  ·simp only[ae3,not_or]at b;exact (f b.2).trans (by simp[bY,b.1])
def AW (h:Nat->Option Row) (a:List Nat) (x:Nat):aW h (jw h a) x=if x∈a then (h x).map vu else h x:=by
 have:=P9 h x a h (fun _ _ =>.inl rfl);grind
def Inv.freeze (f:Inv N M L w0 blk V t h a w) (E:List Nat):Inv N M L w0 blk V t (aW h (jw h E)) a w:=by
 have o:∀x r',aW h (jw h E) x=some r'->∃r,h x=some r∧r'.v=r.v∧r'.ty=r.ty∧r'.cells=r.cells∧(r'.fz=false->r.fz=false)∧(r'.lst=false->r'=r)∧r'.mp=r.mp:=by
  intro x r' k;rw[AW]at k;split at k
  ·cases A:h x with
   | none=>simp[A]at k
   | some r =>
    simp only[A,Option.map_some,ae5]at k;subst k;obtain⟨B,F,Q,R,S⟩:=aaZ r;exact⟨r,rfl,B,F,Q,(fun h=>by rw[Ks]at h;cases h),S,R⟩
  simp_all
 have C:∀b,¬Own M h blk b->¬Own M (aW h (jw h E)) blk b:=by
  intro b q p;rcases p with p|⟨x,r',g,k,G,l,rfl⟩
  ·exact q (.inl p)
  ·obtain⟨r,e,_,_,_,T,_⟩:=o x r' k;exact q (.inr ⟨x,r,g,e,T G,l,rfl⟩)
 exact {
  tab:=f.tab.keep fun b e d=>⟨e,C b d,rfl⟩
  below:=f.below
  mlt:=f.mlt
  lent:=f.lent
  pin:=fun O l=>⟨(f.pin O l).1,fun r' A hv=>by
   obtain⟨r,m,D,_⟩:=o 0 r' A;exact (f.pin O l).2 r m (by omega)⟩
  defers:=f.defers
  tsz:=f.tsz
  slots:=fun i=>(f.slots i).mono ⟨fun b e d=>⟨e,C b d,rfl⟩,fun _ _ h=>h,fun x v _ r' e d=>by
   grind⟩
  rows:=fun x r' k=>by
   obtain⟨r,m,D,U,H,_,_,I⟩:=o x r' k;obtain⟨e,d⟩:=f.rows x r m;rw[D];refine⟨e,?_⟩;cases q:blk x with
   | none=>rw[q]at d;exact H.trans d
   | some g =>
    rw[q]at d;exact⟨d.1,d.2.keep H U I rfl fun b B F=>⟨B,C b F,rfl⟩⟩
  inj:=fun x y r s g W k z l J X=>by
   obtain⟨r',m,_⟩:=o x r k;obtain⟨Y,D,_⟩:=o y s z;exact f.inj x y r' Y g W m D l J X
  big:=f.big
  pha:=fun y r' g z Z l j x s n hc=>by
   obtain⟨r,m,_,_,H,_,_,I⟩:=o y r' z;obtain⟨h0,u,e,d⟩:=f.pha y r g m (I.symm.trans Z) l j x s n (by simp_all);exact⟨h0,u,e,d.mono fun aa B=>by
    grind⟩
  ali:=fun y r' g z G P l j c d' hj K=>by
   obtain⟨r,m,_,_,_,_,g6,_⟩:=o y r' z;obtain rfl:=g6 P;obtain⟨u,e,d⟩:=f.ali y r' g m G P l j c d' hj K;exact⟨u,e,d.mono ⟨fun b e d=>⟨e,C b d,rfl⟩,fun _ _ h=>h,fun x v _ r' e d=>by
    grind⟩⟩ }
def forget (h:Nat->Option Row):Option Nat->Nat->Option Row
 | some y=>bY h y none
 | none=>h
def Inv.DU (p:Inv N M L w0 blk V t h a w) {w':World} {h1:Nat->Option Row} {old:Option Nat} {d e:Nat} {r0:Row} {go:Option (Nat×Nat)}
  (ah:w'.os=w.os) (R:w'.tape=w.tape) (aa:w'.output=w.output) (S:w.heap.size<=w'.heap.size)
  (hblock:∀k,k<w.heap.size->(∀y g,old=some y->blk y=some g->k≠g.1)->w'.heap[k]? = w.heap[k]?)
  (z:∀y,old=some y->∃r,h y=some r∧r.fz=false) (ab:h1=forget h old) (hV:js N V d e)
  (E:match go with
   | some g=>(w.heap.size<=g.1∨∃y G,old=some y∧blk y=some G∧g.1=G.1)∧dV w' (fun b=>Own M h1 blk b∨b=g.1) g r0
   | none=>r0.cells=[]) (aq:r0.fz=false) (K:r0.v=e) (ar:r0.mp=true->∀g,go=some g->∀j x s n:Nat,r0.cells[j]? = some (D.ph x s n)->P4 d j x∧∃u,w'.cell? ⟨g.1,g.2+j,none⟩=some u∧ZL w' (bY h1 d (some r0)) (bY blk d go) x s n u:=by (intro h;cases h)) :
  Inv N M L w0 (bY blk d go) (fun x v=>V x v∨(x=d∧v=e)) t (bY h1 d (some r0)) a w':=by
 have C:∀x r,h1 x=some r->h x=some r∧∀y,old=some y->x≠y:=by
  intro x r o;cases old with
  | none=>subst ab;simp_all
  | some y =>
   subst ab;simp only[forget]at o
   by_cases ad:x=y
   ·subst ad;simp[bY]at o
   ·rw[aC _ _ ad]at o;simp_all
 have hne:∀x r g,h1 x=some r->blk x=some g->∀y G,old=some y->blk y=some G->g.1≠G.1:=by
  intro x r g o l y G m A F;obtain⟨s,O,_⟩:=z y m;exact (C x r o).2 y m (p.inj x y r s g G (C x r o).1 O l A F)
 have au:∀x r g I,h1 x=some r->blk x=some g->go=some I->g.1≠I.1:=by
  intro x r g I o l ai F;subst ai;rcases E.1 with hn|⟨y,G,m,A,P⟩
  ·have:=p.lt (C x r o).1 l;omega
  grind
 have T:∀b,b<w.heap.size->¬Own M h blk b->w'.heap[b]? = w.heap[b]?:=by
  intro b Q hn;refine hblock b Q fun y g m l F =>?_;obtain⟨s,O,U⟩:=z y m;exact hn (.inr ⟨y,s,g,O,U,l,F.symm⟩)
 have ae:∀b,b<w.heap.size->¬Own M h blk b->¬Own M (bY h1 d (some r0)) (bY blk d go) b:=by
  intro b Q hn W;rcases W with W|⟨x,r,g,o,U,l,F⟩
  ·exact hn (.inl W)
  ·by_cases f:x=d
   ·subst f;rw[aA]at l;subst l;rcases E.1 with av|⟨y,G,m,A,P⟩
    ·omega
    ·obtain⟨s,O,aj⟩:=z y m;exact hn (.inr ⟨y,s,G,O,aj,A,by rw[<- P,F]⟩)
   ·rw[aC _ _ f]at o l;exact hn (.inr ⟨x,r,g,(C x r o).1,U,l,F⟩)
 have hk:∀b,b<w.heap.size->¬Own M h blk b->b<w'.heap.size∧¬Own M (bY h1 d (some r0)) (bY blk d go) b∧w'.heap[b]? = w.heap[b]? :=
  fun b h1 h2=>⟨by omega,ae b h1 h2,T b h1 h2⟩
 have hrowsame:∀x r g,h1 x=some r->blk x=some g->w'.heap[g.1]? = w.heap[g.1]?:=fun x r g o l=>hblock _ (p.lt (C x r o).1 l) (fun y G m A=>hne x r g o l y G m A);exact {
  tab:=p.tab.keep hk
  below:=p.below.trans (L':=fun k=>∃y g,old=some y∧blk y=some g∧k=g.1) ⟨ah,R,aa,S,fun k ak hn=>hblock k ak (fun y g m l F=>hn ⟨y,g,m,l,F⟩)⟩ (fun k ⟨y,g,m,l,F⟩ al=>by
   obtain⟨s,O,_⟩:=z y m;rcases p.base O l with Q|Q
   ·omega
   grind)
  mlt:=p.mlt
  lent:=p.lent
  pin:=fun X l=>⟨.inl (p.pin X l).1,fun r Z Y=>by
   by_cases f:0=d
   ·subst f;rw[aA]at Z;simp only[ae5]at Z;subst Z;rw[K]at Y;subst Y;exact absurd (p.pin X l).1 hV.no
   ·rw[aC _ _ f]at Z;rw[aC _ _ f];obtain⟨k1,k2⟩:=(p.pin X l).2 r (C 0 r Z).1 Y;exact⟨k1,fun g ag=>(cK (hrowsame 0 r g Z (k1.trans ag))).trans (k2 g ag)⟩⟩
  defers:=p.defers
  tsz:=p.tsz
  slots:=fun i=>(p.slots i).mono ⟨hk,fun _ _ h =>.inl h,fun x v Y J B I=>by
   by_cases f:x=d
   ·subst f;rw[aA]at B;simp only[ae5]at B;subst B;rw[K]at I;subst I;exact absurd Y hV.no
   ·rw[aC _ _ f]at B;exact⟨⟨J,(C x J B).1,I⟩,aC _ _ f,fun g l=>cK (hrowsame x J g B l)⟩⟩
  rows:=fun x r o=>by
   by_cases f:x=d
   ·subst f;rw[aA]at o;simp only[ae5]at o;subst o;rw[aA];refine⟨fun _ =>.inr ⟨rfl,K⟩,?_⟩;cases go with
    | none=>exact E
    | some g =>
     obtain⟨n1,n2⟩:=E;refine⟨?_,n2.keep rfl rfl rfl rfl fun b q1 q2=>⟨q1,fun Q=>q2 ?_,rfl⟩⟩;rotate_left
     ·rcases Q with Q|⟨x',r,g',o,U,l,F⟩
      ·exact .inl (.inl Q)
      ·by_cases f:x'=x
       ·subst f;rw[aA]at l;grind
       ·rw[aC _ _ f]at o l;exact .inl (.inr ⟨x',r,g',o,U,l,F⟩)
     rcases n1 with l|⟨y,G,m,A,P⟩
     ·exact .inl (aeZ p.below.size l)
     ·obtain⟨s,O,_⟩:=z y m;rw[P];exact p.base O A
   ·rw[aC _ _ f]at o;rw[aC _ _ f];exact⟨fun hn =>.inl ((p.rows x r (C x r o).1).1 hn),(p.rows x r (C x r o).1).2.keep (fun g l=>hrowsame x r g o l) hk⟩
  inj:=fun x y r s g g' o m l H F=>by
   by_cases f:x=d
   ·by_cases q:y=d
    ·rw[f,q]
    ·subst f;rw[aC _ _ q]at m H;rw[aA]at l;grind
   ·by_cases q:y=d
    ·subst q;rw[aC _ _ f]at o l;rw[aA]at H;grind
    ·rw[aC _ _ f]at o l;rw[aC _ _ q]at m H;exact p.inj x y r s g g' (C x r o).1 (C y s m).1 l H F
  big:=p.big
  pha:=fun y r g m hm l j x s n hc=>by
   by_cases q:y=d
   ·subst q;rw[aA]at m;simp only[ae5]at m;subst m;rw[aA]at l;grind
   ·rw[aC _ _ q]at m l;obtain⟨h0,u,k1,k2⟩:=p.pha y r g (C y r m).1 hm l j x s n hc;have al:=hV.lt;have ao:=p.big;have aw:PK=1000000:=rfl;have f:x≠d:=by simp only[P4,NK]at h0;grind
    exact⟨h0,u,(aeT (a:=⟨g.1,g.2+j,none⟩) (hrowsame y r g m l)).trans k1,k2.mono fun J B=>by
     rw[aC _ _ f]at B;exact⟨⟨J,(C x J B).1⟩,aC _ _ f,fun g' H=>cK (hrowsame x J g' B H)⟩⟩
  ali:=fun y r g m U hl l j c d' hj an=>by
   by_cases q:y=d
   ·subst q;rw[aA]at m;grind
   ·rw[aC _ _ q]at m l;obtain⟨u,h1,h2⟩:=p.ali y r g (C y r m).1 U hl l j c d' hj an;exact⟨u,(aeT (a:=⟨g.1,g.2+j,none⟩) (hrowsame y r g m l)).trans h1,h2.mono ⟨hk,fun _ _ h =>.inl h,fun x v Y J B I=>by
     by_cases f:x=d
     ·subst f;rw[aA]at B;simp only[ae5]at B;subst B;rw[K]at I;subst I;exact absurd Y hV.no
     ·rw[aC _ _ f]at B;exact⟨⟨J,(C x J B).1,I⟩,aC _ _ f,fun g l=>cK (hrowsame x J g B l)⟩⟩⟩ }
def Inv.VL (p:Inv N M L w0 blk V t h a w) {w':World} {h1:Nat->Option Row} {old:Option Nat} {d:Nat} {r0:Row} {go:Option (Nat×Nat)}
  (ab:w'.os=w.os) (O:w'.tape=w.tape) (U:w'.output=w.output) (P:w.heap.size<=w'.heap.size)
  (hblock:∀k,k<w.heap.size->(∀y g,old=some y->blk y=some g->k≠g.1)->w'.heap[k]? = w.heap[k]?)
  (q:∀y,old=some y->∃r,h y=some r∧r.fz=false) (W:h1=forget h old) (aj:N<=d) (ak:d≠0) (al:¬V d r0.v) (an:∀(y:Nat) (r:Row) (j s n:Nat),h1 y=some r->r.mp=true->r.cells[j]? = some (D.ph d s n)->False)
  (B:match go with
   | some g=>(w.heap.size<=g.1∨∃y E,old=some y∧blk y=some E∧g.1=E.1)∧dV w' (fun b=>Own M h1 blk b∨b=g.1) g r0
   | none=>r0.cells=[]) (ao:r0.fz=false) (aq:r0.mp=true->∀j x s n:Nat,r0.cells[j]?≠some (D.ph x s n):=by (intro h;cases h)) :
  Inv N M L w0 (bY blk d go) V t (bY h1 d (some r0)) a w':=by
 have ai:=p.big;have ar:PK=1000000:=rfl;have A:∀x r,h1 x=some r->h x=some r∧∀y,old=some y->x≠y:=by
  intro x r l;cases old with
  | none=>subst W;simp_all
  | some y =>
   subst W;simp only[forget]at l
   by_cases X:x=y
   ·subst X;simp[bY]at l
   ·rw[aC _ _ X]at l;simp_all
 have hne:∀x r g,h1 x=some r->blk x=some g->∀y E,old=some y->blk y=some E->g.1≠E.1:=by
  intro x r g l f y E m z C;obtain⟨s,I,_⟩:=q y m;exact (A x r l).2 y m (p.inj x y r s g E (A x r l).1 I f z C)
 have au:∀x r g Q,h1 x=some r->blk x=some g->go=some Q->g.1≠Q.1:=by
  intro x r g Q l f ad C;subst ad;rcases B.1 with hn|⟨y,E,m,z,J⟩
  ·have:=p.lt (A x r l).1 f;omega
  grind
 have R:∀b,b<w.heap.size->¬Own M h blk b->w'.heap[b]? = w.heap[b]?:=by
  intro b K hn;refine hblock b K fun y g m f C =>?_;obtain⟨s,I,S⟩:=q y m;exact hn (.inr ⟨y,s,g,I,S,f,C.symm⟩)
 have Y:∀b,b<w.heap.size->¬Own M h blk b->¬Own M (bY h1 d (some r0)) (bY blk d go) b:=by
  intro b K hn T;rcases T with T|⟨x,r,g,l,S,f,C⟩
  ·exact hn (.inl T)
  ·by_cases e:x=d
   ·subst e;rw[aA]at f;subst f;rcases B.1 with av|⟨y,E,m,z,J⟩
    ·omega
    ·obtain⟨s,I,ae⟩:=q y m;exact hn (.inr ⟨y,s,E,I,ae,z,by rw[<- J,C]⟩)
   ·rw[aC _ _ e]at l f;exact hn (.inr ⟨x,r,g,(A x r l).1,S,f,C⟩)
 have hk:∀b,b<w.heap.size->¬Own M h blk b->b<w'.heap.size∧¬Own M (bY h1 d (some r0)) (bY blk d go) b∧w'.heap[b]? = w.heap[b]? :=
  fun b h1 h2=>⟨by omega,Y b h1 h2,R b h1 h2⟩
 have hrowsame:∀x r g,h1 x=some r->blk x=some g->w'.heap[g.1]? = w.heap[g.1]?:=fun x r g l f=>hblock _ (p.lt (A x r l).1 f) (fun y E m z=>hne x r g l f y E m z);exact {
  tab:=p.tab.keep hk
  below:=p.below.trans (L':=fun k=>∃y g,old=some y∧blk y=some g∧k=g.1) ⟨ab,O,U,P,fun k ag hn=>hblock k ag (fun y g m f C=>hn ⟨y,g,m,f,C⟩)⟩ (fun k ⟨y,g,m,f,C⟩ aw=>by
   obtain⟨s,I,_⟩:=q y m;rcases p.base I f with K|K
   ·omega
   grind)
  mlt:=p.mlt
  lent:=p.lent
  pin:=fun Z f=>⟨(p.pin Z f).1,fun r hr hv=>by
   by_cases e:0=d
   ·omega
   ·rw[aC _ _ e]at hr;rw[aC _ _ e];obtain⟨k1,k2⟩:=(p.pin Z f).2 r (A 0 r hr).1 hv;exact⟨k1,fun g aa=>(cK (hrowsame 0 r g hr (k1.trans aa))).trans (k2 g aa)⟩⟩
  defers:=p.defers
  tsz:=p.tsz
  slots:=fun i=>(p.slots i).mono ⟨hk,fun _ _ h=>h,fun x v hv H F Q=>by
   by_cases e:x=d
   ·subst e;rw[aA]at F;grind
   ·rw[aC _ _ e]at F;exact⟨⟨H,(A x H F).1,Q⟩,aC _ _ e,fun g f=>cK (hrowsame x H g F f)⟩⟩
  rows:=fun x r l=>by
   by_cases e:x=d
   ·subst e;rw[aA]at l;simp only[ae5]at l;subst l;rw[aA];refine⟨fun hn=>by omega,?_⟩;cases go with
    | none=>exact B
    | some g =>
     obtain⟨n1,n2⟩:=B;refine⟨?_,n2.keep rfl rfl rfl rfl fun b q1 q2=>⟨q1,fun K=>q2 ?_,rfl⟩⟩;rotate_left
     ·rcases K with K|⟨x',r,g',l,S,f,C⟩
      ·exact .inl (.inl K)
      ·by_cases e:x'=x
       ·subst e;rw[aA]at f;grind
       ·rw[aC _ _ e]at l f;exact .inl (.inr ⟨x',r,g',l,S,f,C⟩)
     rcases n1 with f|⟨y,E,m,z,J⟩
     ·exact .inl (aeZ p.below.size f)
     ·obtain⟨s,I,_⟩:=q y m;rw[J];exact p.base I z
   ·rw[aC _ _ e]at l;rw[aC _ _ e];exact⟨fun hn=>(p.rows x r (A x r l).1).1 hn,(p.rows x r (A x r l).1).2.keep (fun g f=>hrowsame x r g l f) hk⟩
  inj:=fun x y r s g g' l m f G C=>by
   by_cases e:x=d
   ·by_cases o:y=d
    ·rw[e,o]
    ·subst e;rw[aC _ _ o]at m G;rw[aA]at f;grind
   ·by_cases o:y=d
    ·subst o;rw[aC _ _ e]at l f;rw[aA]at G;grind
    ·rw[aC _ _ e]at l f;rw[aC _ _ o]at m G;exact p.inj x y r s g g' (A x r l).1 (A y s m).1 f G C
  big:=p.big
  pha:=fun y r g m hm f j x s n hc=>by
   by_cases o:y=d
   ·subst o;rw[aA]at m;grind
   ·rw[aC _ _ o]at m f;obtain⟨h0,u,k1,k2⟩:=p.pha y r g (A y r m).1 hm f j x s n hc;have e:x≠d:=by
     grind
    exact⟨h0,u,(aeT (a:=⟨g.1,g.2+j,none⟩) (hrowsame y r g m f)).trans k1,k2.mono fun H F=>by
     rw[aC _ _ e]at F;exact⟨⟨H,(A x H F).1⟩,aC _ _ e,fun g' G=>cK (hrowsame x H g' F G)⟩⟩
  ali:=fun y r g m S hl f j c d' hj ah=>by
   by_cases o:y=d
   ·subst o;rw[aA]at m;grind
   ·rw[aC _ _ o]at m f;obtain⟨u,h1,h2⟩:=p.ali y r g (A y r m).1 S hl f j c d' hj ah;exact⟨u,(aeT (a:=⟨g.1,g.2+j,none⟩) (hrowsame y r g m f)).trans h1,h2.mono ⟨hk,fun _ _ h=>h,fun x v hv H F Q=>by
     by_cases e:x=d
     ·subst e;rw[aA]at F;grind
     ·rw[aC _ _ e]at F;exact⟨⟨H,(A x H F).1,Q⟩,aC _ _ e,fun g f=>cK (hrowsame x H g F f)⟩⟩⟩ }
def Inv.VM (B:Inv N M L w0 blk V t h a w) {w':World} {h1:Nat->Option Row} {old:Option Nat} {d:Nat} {r0:Row} {go:Option (Nat×Nat)}
  (C:w'.os=w.os) (f:w'.tape=w.tape) (m:w'.output=w.output) (i:w.heap.size<=w'.heap.size)
  (c:∀k,k<w.heap.size->(∀y g,old=some y->blk y=some g->k≠g.1)->w'.heap[k]? = w.heap[k]?)
  (o:∀y,old=some y->∃r,h y=some r∧r.fz=false) (l:h1=forget h old) {y0:Nat} (P:d=PK+y0) (I:y0<N) (E:∀v,¬V d v) (Q:∀r,h1 y0=some r->r.mp=false)
  (p:match go with
   | some g=>(w.heap.size<=g.1∨∃y J,old=some y∧blk y=some J∧g.1=J.1)∧dV w' (fun b=>Own M h1 blk b∨b=g.1) g r0
   | none=>r0.cells=[]) (F:r0.fz=false) (G:r0.mp=true->∀j x s n:Nat,r0.cells[j]?≠some (D.ph x s n):=by (intro h;cases h)) :
  Inv N M L w0 (bY blk d go) V t (bY h1 d (some r0)) a w':=by
 have R:PK=1000000:=rfl;have K:=B.big;refine B.VL C f m i c o l (by omega) (by omega) (E _) (fun y r j s n q S H =>?_) p F G;have u:h y=some r:=by
  cases old with
  | none=>subst l;exact q
  | some z =>
   subst l;simp only[forget]at q
   by_cases A:y=z
   ·subst A;rw[aA]at q;cases q
   ·rwa [aC _ _ A]at q
 have e:=(B.rows y r u).2;cases O:blk y with
 | none =>
  rw[O]at e;rw[show r.cells=[] from e]at H;cases H
 | some g =>
  have T:=(B.pha y r g u S O j _ s n H).1;have:y=y0:=by simp only[P4,NK]at T;grind
  simp_all
def Inv.P8 (E:Inv N M L w0 blk V t h a w) {w':World} {p:Nat->Option Row} {old:Option Nat} {d e q:Nat} {m s:Bool} {go:Option (Nat×Nat)} {cs:List D}
  (u:w'.os=w.os) (i:w'.tape=w.tape) (n:w'.output=w.output) (l:w.heap.size<=w'.heap.size)
  (c:∀k,k<w.heap.size->(∀y g,old=some y->blk y=some g->k≠g.1)->w'.heap[k]? = w.heap[k]?)
  (o:∀y,old=some y->∃r,h y=some r∧r.fz=false) (z:p=forget h old) (F:js N V d e)
  (f:match go with
   | some g=>(w.heap.size<=g.1∨∃y C,old=some y∧blk y=some C∧g.1=C.1)∧∃A:Array Value,w'.heap[g.1]? = some (.cells A q (0,0))∧g.2+cs.length<=A.size∧∀j x,cs[j]? = some x->bz x=true∧RP w' (fun b=>Own M p blk b∨b=g.1) x (A.getD (g.2+j) undef)
   | none=>cs=[]) (B:s=false:=by rfl) :
  Inv N M L w0 (bY blk d go) (fun x v=>V x v∨(x=d∧v=e)) t (bY p d (some ⟨e,q,cs,s,m,false⟩)) a w':=by
 refine E.DU (r0:=⟨e,q,cs,s,m,false⟩) u i n l c o z F ?_ B rfl;cases go with
 | none=>exact f
 | some g=>exact f
def Inv.VK (P:Inv N M L w0 blk V t h a w) {w':World} {h1:Nat->Option Row} {old:Option Nat} {d e ty:Nat} {lst fz:Bool} {go:Option (Nat×Nat)} {cs:List D}
  (C:w'.os=w.os) (l:w'.tape=w.tape) (p:w'.output=w.output) (m:w.heap.size<=w'.heap.size)
  (c:∀k,k<w.heap.size->(∀y g,old=some y->blk y=some g->k≠g.1)->w'.heap[k]? = w.heap[k]?)
  (f:∀y,old=some y->∃r,h y=some r∧r.fz=false) (q:h1=forget h old) (Q:js N V d e)
  (i:match go with
   | some g=>(w.heap.size<=g.1∨∃y o,old=some y∧blk y=some o∧g.1=o.1)∧∃s:Array Value,w'.heap[g.1]? = some (.cells s ty (0,0))∧g.2+cs.length<=s.size∧∀j x,cs[j]? = some x->bz x=true∧RP w (Own M h blk) x (s.getD (g.2+j) undef)
   | none=>cs=[]) (hfz:fz=false:=by rfl) :
  Inv N M L w0 (bY blk d go) (fun x v=>V x v∨(x=d∧v=e)) t (bY h1 d (some ⟨e,ty,cs,fz,lst,false⟩)) a w':=by
 refine P.P8 C l p m c f q Q ?_ hfz;cases go with
 | none=>exact i
 | some g =>
  obtain⟨E,s,R,S,K⟩:=i;refine⟨E,s,R,S,fun j x O=>⟨(K j x O).1,(K j x O).2.keep fun b T F=>⟨by omega,?_,?_⟩⟩⟩
  ·rintro (G|rfl)
   ·apply F;rcases G with G|⟨x,r,U,B,u,H,z⟩
    ·exact .inl G
    ·refine .inr ⟨x,r,U,?_,u,H,z⟩;subst q;cases old with
     | none=>exact B
     | some y =>
      simp only[forget]at B
      by_cases A:x=y
      ·subst A;simp[bY]at B
      ·rwa [aC _ _ A]at B
   ·rcases E with E|⟨y,o,I,n,z⟩
    ·omega
    ·obtain⟨r,J,u⟩:=f y I;exact F (.inr ⟨y,r,o,J,u,n,z.symm⟩)
  ·refine c b T fun y o I n z =>?_;obtain⟨r,J,u⟩:=f y I;exact F (.inr ⟨y,r,o,J,u,n,z.symm⟩)
def Inv.alloc (f:Inv N M L w0 blk V t h a w) {d e ty:Nat} {lst:Bool} {cs:List D} {vs:Array Value} (g:js N V d e) (i:cs.length<=vs.size)
  (n:∀j x,cs[j]? = some x->bz x=true∧RP w (Own M h blk) x (vs.getD j undef)) :
  Inv N M L w0 (bY blk d (some (w.heap.size,0))) (fun x v=>V x v∨(x=d∧v=e)) t (bY h d (some ⟨e,ty,cs,false,lst,false⟩)) a (w.alloc (.cells vs ty)):=by
 have hold:∀b,b<w.heap.size->(w.alloc (.cells vs ty)).heap[b]? = w.heap[b]?:=fun b c=>Below.heap_alloc w _ b c;have c:=(Below.refl w.heap.size w).alloc (aeX _) (.cells vs ty);refine f.VK (h1:=h) (old:=none) c.os c.tape c.output c.size (fun k l _=>hold k l) (fun y m=>by cases m) rfl g ?_;exact⟨.inl (aeX _),vs,heap_alloc_new w _,by simpa using i,fun j x o=>by grind⟩
def Inv.drop (hI:Inv N M L w0 blk V t h a w) (y:Nat):Inv N M L w0 blk V t (bY h y none) a w:=by
 have d:∀x r,bY h y none x=some r->h x=some r:=by
  intro x r k
  by_cases p:x=y
  ·subst p;rw[aA]at k;cases k
  ·rwa [aC _ _ p]at k
 have A:∀b,¬Own M h blk b->¬Own M (bY h y none) blk b:=by
  intro b H o;rcases o with o|⟨x,r,g,k,B,l,C⟩
  ·exact H (.inl o)
  ·exact H (.inr ⟨x,r,g,d x r k,B,l,C⟩)
 exact {
  tab:=hI.tab.keep fun b e f=>⟨e,A b f,rfl⟩
  below:=hI.below
  mlt:=hI.mlt
  lent:=hI.lent
  pin:=fun I l=>⟨(hI.pin I l).1,fun r J K=>(hI.pin I l).2 r (d 0 r J) K⟩
  defers:=hI.defers
  tsz:=hI.tsz
  slots:=fun i=>(hI.slots i).mono ⟨fun b e f=>⟨e,A b f,rfl⟩,fun _ _ h=>h,fun x v _ m e f=>⟨⟨m,d x m e,f⟩,rfl,fun _ _=>rfl⟩⟩
  rows:=fun x r k=>⟨(hI.rows x r (d x r k)).1,(hI.rows x r (d x r k)).2.keep (fun _ _=>rfl) (fun b D E=>⟨D,A b E,rfl⟩)⟩
  inj:=fun x y r s g O k q l F C=>hI.inj x y r s g O (d x r k) (d y s q) l F C
  big:=hI.big
  pha:=fun z r g q P l j x s n Q=>by
   obtain⟨R,u,D,E⟩:=hI.pha z r g (d z r q) P l j x s n Q;exact⟨R,u,D,E.mono fun m S=>⟨⟨m,d x m S⟩,rfl,fun _ _=>rfl⟩⟩
  ali:=fun z r g q B T l j c U W G=>by
   obtain⟨u,e,f⟩:=hI.ali z r g (d z r q) B T l j c U W G;exact⟨u,e,f.mono ⟨fun b e f=>⟨e,A b f,rfl⟩,fun _ _ h=>h,fun x v _ m e f=>⟨⟨m,d x m e,f⟩,rfl,fun _ _=>rfl⟩⟩⟩ }
def Inv.kg (m:Inv N M L w0 blk V t h a w) {x:Nat} {r:Row} (P:h x=some r) (hz:r.fz=false) {r0:Row} {w':World} (X:r0.v=r.v)
  (Y:w'.os=w.os) (C:w'.tape=w.tape) (Q:w'.output=w.output) (E:w.heap.size<=w'.heap.size) (hheap:∀b,b<w.heap.size->(∀g,blk x=some g->b≠g.1)->w'.heap[b]? = w.heap[b]?)
  (q:match blk x with
   | some g=>w'.shape? g.1=w.shape? g.1∧dV w' (Own M h blk) g r0
   | none=>r0.cells=[])
  (ag:r0.fz=true->r0.lst=false->∀g,blk x=some g->∀j c d,r0.cells[j]? = some c->alD c=some d->∃u,w'.cell? ⟨g.1,g.2+j,none⟩=some u∧RT w (Own M h blk) h blk V d u) (hph:r0.mp=true->∀g,blk x=some g->∀j I s n:Nat,r0.cells[j]? = some (D.ph I s n)->P4 x j I∧∃u,w'.cell? ⟨g.1,g.2+j,none⟩=some u∧ZL w h blk I s n u:=by (intro h;cases h)) :
  Inv N M L w0 blk V t (bY h x (some r0)) a w':=by
 have S:∀y s,bY h x (some r0) y=some s->∃s',h y=some s'∧s.v=s'.v∧(s.fz=false->s'.fz=false):=by
  intro y s f
  by_cases hyx:y=x
  ·subst hyx;rw[aA]at f;simp_all
  ·rw[aC _ _ hyx]at f;simp_all
 have ho:∀b,¬Own M h blk b->¬Own M (bY h x (some r0)) blk b:=by
  intro b T F;rcases F with F|⟨y,s,p,f,G,o,U⟩
  ·exact T (.inl F)
  ·obtain⟨s',A,_,h3⟩:=S y s f;exact T (.inr ⟨y,s',p,A,h3 G,o,U⟩)
 have B:∀b,b<w.heap.size->¬Own M h blk b->w'.heap[b]? = w.heap[b]?:=fun b A h2=>hheap b A (fun g l e=>h2 (.inr ⟨x,r,g,P,hz,l,e.symm⟩));have J:∀b,b<w.heap.size->¬Own M h blk b->b<w'.heap.size∧¬Own M (bY h x (some r0)) blk b∧w'.heap[b]? = w.heap[b]? :=
  fun b A h2=>⟨by omega,ho b h2,B b A h2⟩
 have hother:∀y s p,y≠x->h y=some s->blk y=some p->w'.heap[p.1]? = w.heap[p.1]?:=fun y s p hyx f o=>hheap _ (m.lt f o) (fun g l e=>hyx (m.inj y x s r p g f P o l e));have Z:∀y s p,h y=some s->blk y=some p->w'.shape? p.1=w.shape? p.1:=by
  intro y s p f o
  by_cases hyx:y=x
  ·grind
  ·exact cK (hother y s p hyx f o)
 exact {
  tab:=m.tab.keep J
  below:=m.below.trans (L':=fun k=>∃g,blk x=some g∧k=g.1) ⟨Y,C,Q,E,fun k J hn=>hheap k J (fun g l e=>hn ⟨g,l,e⟩)⟩ (fun k ⟨g,l,U⟩ ah=>by
   rcases m.base P l with T|T
   ·omega
   simp_all)
  mlt:=m.mlt
  lent:=m.lent
  pin:=fun go l=>⟨(m.pin go l).1,fun s hs hv=>by
   obtain⟨s',R,g2,_⟩:=S 0 s hs;obtain⟨K,O⟩:=(m.pin go l).2 s' R (by omega);grind⟩
  defers:=m.defers
  tsz:=m.tsz
  slots:=fun i=>(m.slots i).mono ⟨J,fun _ _ h=>h,fun y v _ s A h2=>by
   grind⟩
  rows:=fun y s f=>by
   by_cases hyx:y=x
   ·subst hyx;rw[aA]at f;simp only[ae5]at f;subst f;refine⟨fun hn=>by rw[X];exact (m.rows y r P).1 hn,?_⟩;cases l:blk y with
    | none=>rw[l]at q;exact q
    | some g =>
     rw[l]at q;exact⟨m.base P l,q.2.keep rfl rfl rfl rfl fun b q1 q2=>⟨q1,ho b q2,rfl⟩⟩
   ·rw[aC _ _ hyx]at f;exact⟨(m.rows y s f).1,(m.rows y s f).2.keep (fun p o=>hother y s p hyx f o) J⟩
  inj:=fun y z s s' R g2 f G aa ab U=>by
   obtain⟨H,K,_⟩:=S y s f;obtain⟨r2,O,_⟩:=S z s' G;exact m.inj y z H r2 R g2 K O aa ab U
  big:=m.big
  pha:=fun y H g f W l j I s n hc=>by
   by_cases hyx:y=x
   ·subst hyx;rw[aA]at f;simp only[ae5]at f;subst f;obtain⟨h0,u,K,O⟩:=hph W g l j I s n hc;exact⟨h0,u,K,O.mono fun r' R=>by
     grind⟩
   ·rw[aC _ _ hyx]at f;obtain⟨h0,u,K,O⟩:=m.pha y H g f W l j I s n hc;exact⟨h0,u,(aeT (a:=⟨g.1,g.2+j,none⟩) (hother y H g hyx f l)).trans K,O.mono fun r' R=>by
     grind⟩
  ali:=fun y H g f ad hl l j c d' hj ae=>by
   have W:∀ {u:Value},RT w (Own M h blk) h blk V d' u->RT w' (Own M (bY h x (some r0)) blk) (bY h x (some r0)) blk V d' u:=fun h2=>h2.mono ⟨J,fun _ _ h=>h,fun y v _ s A h2=>by
    grind⟩
   by_cases hyx:y=x
   ·subst hyx;rw[aA]at f;grind
   ·rw[aC _ _ hyx]at f;obtain⟨u,A,h2⟩:=m.ali y H g f ad hl l j c d' hj ae;exact⟨u,(aeT (a:=⟨g.1,g.2+j,none⟩) (hother y H g hyx f l)).trans A,W h2⟩ }
def Inv.rewrite (p:Inv N M L w0 blk V t h a w) {x:Nat} {r:Row} (q:h x=some r) (s:r.fz=false) {cs:List D} {lst fz:Bool} {w':World}
  (m:w'.os=w.os) (f:w'.tape=w.tape) (l:w'.output=w.output) (i:w.heap.size<=w'.heap.size) (k:∀b,b<w.heap.size->(∀g,blk x=some g->b≠g.1)->w'.heap[b]? = w.heap[b]?)
  (e:match blk x with
   | some g=>w'.shape? g.1=w.shape? g.1∧∃n:Array Value,w'.heap[g.1]? = some (.cells n r.ty (0,0))∧g.2+cs.length<=n.size∧∀j d,cs[j]? = some d->bz d=true∧RP w' (Own M h blk) d (n.getD (g.2+j) undef)
   | none=>cs=[])
  (o:fz=true->lst=false->∀g,blk x=some g->∀j c d,cs[j]? = some c->alD c=some d->∃u,w'.cell? ⟨g.1,g.2+j,none⟩=some u∧RT w (Own M h blk) h blk V d u) :
  Inv N M L w0 blk V t (bY h x (some ⟨r.v,r.ty,cs,fz,lst,false⟩)) a w':=by
 refine p.kg (r0:=⟨r.v,r.ty,cs,fz,lst,false⟩) q s rfl m f l i k ?_ o;cases v:blk x with
 | none=>simp_all
 | some g=>rw[v]at e;exact e
def Inv.write (y:Inv N M L w0 blk V t h a w) {x:Nat} {r:Row} {g:Nat×Nat} (o:h x=some r) (p:r.fz=false) (k:blk x=some g) (l:r.mp=false) {cs:List D} {c i:Array Value} (q:w.heap[g.1]? = some (.cells i r.ty (0,0))) (m:c.size=i.size)
  (z:g.2+cs.length<=c.size) (s:∀j d,cs[j]? = some d->bz d=true∧RP w (Own M h blk) d (c.getD (g.2+j) undef)) :
  Inv N M L w0 blk V t (bY h x (some { r with cells:=cs })) a (w.setRow g.1 c):=by
 have hheap:∀b,b≠g.1->(w.setRow g.1 c).heap[b]? = w.heap[b]?:=by
  intro b u;simp only[World.setRow,ae6];grind
 have n:(w.setRow g.1 c).heap.size=w.heap.size:=by simp[World.setRow]
 have f:(w.setRow g.1 c).heap[g.1]? = some (.cells c r.ty (0,0)):=setRow_heap w g.1 i c r.ty (0,0) q;have A:({ r with cells:=cs } : Row)=⟨r.v,r.ty,cs,r.fz,r.lst,false⟩:=by rw[<- l]
 rw[A];refine y.rewrite (fz:=r.fz) (lst:=r.lst) o p rfl rfl rfl (by omega) (fun b _ u=>hheap b (u g k)) ?_ (fun h=>by simp_all);rw[k];exact⟨by simp[World.shape?,f,q,m],c,f,z,fun j d v=>⟨(s j d v).1,(s j d v).2.keep fun b B q2=>⟨by omega,q2,hheap b (fun e=>q2 (.inr ⟨x,r,g,o,p,k,e.symm⟩))⟩⟩⟩
end
structure zB (w:World) (M:Nat->Prop) (args:List D) (vs:Array Value):Prop where
 size:vs.size=args.length
 at_:∀j d,args[j]? = some d->RP w M d (vs.getD j undef)
 tab:T0 w M
def vE (w e:World) (M:Nat->Prop) (f:Nat->Prop) (v:Value):RK->Prop
 | .clean d=>RP e M d v
 | .fresh ty s n cells =>
  (∃(g:Nat×Nat) (c:Nat) (a:Array Value),v=.slice (some ⟨g.1,g.2,none⟩) n c∧(w.heap.size<=g.1∨f g.1)∧e.heap[g.1]? = some (.cells a ty (0,0))∧n<=c∧c<=maxLen∧c*s+g.2=a.size∧g.2+cells.length<=a.size ∧
   ∀(j:Nat) d,cells[j]? = some d->bz d=true∧RP e (fun b=>M b∨b=g.1) d (a.getD (g.2+j) undef))∨(n=0∧cells=[]∧∃A,v=.slice A 0 0)
 | .same _ _ _=>False
def vA (a:Option (Nat×Nat)) (b:Nat):Prop:=∃g,a=some g∧b=g.1
def Sg (w:World) (M:Nat->Prop) (a:Option (Nat×Nat)) (r:Row):Prop :=
 match a with
 | some g=>dV w M g r
 | none=>r.cells=[]
def BW (w:World) (go:Option (Nat×Nat)) (d:D) (u:Value):Prop:=RT w (fun _=>False) (fun x=>if x=0 then some ⟨0,0,[],false,false,false⟩ else none) (fun _=>go) (fun _ _=>True) d u
def ZK (w w':World) (M:Nat->Prop) (a:Option (Nat×Nat)) (r:Row):Option Row->Prop
 | some r1=>r1.ty=r.ty∧r1.fz=false∧(r1.mp=r.mp∧uK r1=true)∧(∀g,a=some g->w'.shape? g.1=w.shape? g.1)∧Sg w' (fun b=>M b∨vA a b) a r1
 | none=>True
def ZM (w a:World) (M:Nat->Prop) (c:Option (Nat×Nat)) (v:Value):RK->Prop
 | .same s o n=>BW a c (.buf 0 0 s o n) v
 | .clean d=>RP a (fun b=>M b∨vA c b) d v
 | .fresh ty s n cells=>vE w a M (vA c) v (.fresh ty s n cells)
def sJ (P:Program) (f:FuncId) (g:Option (D×Row)) (a:List D) (j:RK) (i:Option Row):Prop :=
 match g with
 | none=>∀(w:World) (M:Nat->Prop) (h:Array Value),(∀b,M b->b<w.heap.size)->zB w M a h->Calls P f h w fun e d=>∃v,e=.returned v∧Below w.heap.size w d∧vE w d M (fun _=>False) v j
 | some (d0,r)=>∀(w:World) (M:Nat->Prop) (c:Option (Nat×Nat)) (k:Value) (h:Array Value),(∀b,M b->b<w.heap.size)->(∀b,vA c b->¬M b)->r.fz=false->uK r=true->Sg w (fun b=>M b∨vA c b) c r->BW w c d0 k->zB w (fun b=>M b∨vA c b) a h ->
  Calls P f (#[k]++h) w fun e d=>∃v,e=.returned v∧ez (vA c) w d∧ZK w d M c r i∧ZM w d M c v j
def PW (P:Program) (f:FuncId) (a:List D) (r:D):Prop:=sJ P f none a (.clean r) none
def eW (P:Program) (f:FuncId):Prop:=∃a,P.funcs[f]? = some a∧(a.name == "runtime.NumGoroutine")=false∧a.body.isNone=false
def VD (w:World) (d k:Nat) (a:Option (Nat×Nat)) (u:Value) (n:Nat) (b:List Value):Prop :=
 (∃g c arr,a=some g∧u=.slice (some ⟨g.1,g.2,none⟩) n c∧w.heap[g.1]? = some (.cells arr d (0,0))∧c*k+g.2=arr.size∧n<=c∧c<=maxLen∧∀(j:Nat) x,b[j]? = some x->arr[g.2+j]? = some x)∨(a=none∧n=0∧b=[]∧∃A,u=.slice A 0 0)
structure abT (P:Program) (f:FuncId) (p:Nat×Nat×Nat):Prop where
 callable:eW P f
 pos:0<p.2.1
 calls:∀(w:World) (go go':Option (Nat×Nat)) (u u':Value) (i n m:Nat) (cs cs':List Value),VD w p.1 p.2.1 go u n cs->VD w p.1 p.2.1 go' u' m cs'->(∀g g',go=some g->go'=some g'->g.1≠g'.1) ->
  cs.length=n*p.2.1->cs'.length=m*p.2.1->(∀x∈cs,x.oneCell'=true)->(∀x∈cs',x.oneCell'=true)->i<=n->0<m->(n+m)*p.2.2<=140737488355328 ->
  Calls P f #[u,.int .i64 i,u'] w fun e w'=>∃v,e=.returned v∧ez (vA go) w w' ∧
   ∃(g:Nat×Nat) (c:Nat) (arr:Array Value),v=.slice (some ⟨g.1,g.2,none⟩) (n+m) c∧(w.heap.size<=g.1∨vA go g.1)∧w'.heap[g.1]? = some (.cells arr p.1 (0,0))∧n+m<=c∧c<=maxLen∧c*p.2.1+g.2=arr.size ∧
    ∀(j:Nat) x,(cs.take (i*p.2.1)++(cs'++cs.drop (i*p.2.1)))[j]? = some x->arr[g.2+j]? = some x
def LA:D->Value
 | .int k n =>.int k n
 | .bool b =>.bool b
 | .str s =>.string s
 | _=>undef
def Cl:D->Bool
 | .int _ _ | .bool _ | .str _=>true
 | _=>false
def ZA:D->Value
 | .agg xs =>.agg (xs.map LA).toArray
 | d=>LA d
def Z3:D->Bool
 | .agg xs=>xs.all Cl
 | d=>Cl d
def IJ {w:World} {M:Nat->Prop} {d:D} {u:Value} (a:Cl d=true) (h:RP w M d u):u=LA d:=by
 cases h<;>first|rfl|cases a
def WI {w:World} {M:Nat->Prop} {d:D} (a:Cl d=true):bz d=true∧RP w M d (LA d):=by
 cases d with
 | int k n=>exact⟨rfl,.int k n⟩
 | bool b=>exact⟨rfl,.bool b⟩
 | str s=>exact⟨rfl,.str s⟩
 | _=>cases a
def Ul {w:World} {M:Nat->Prop} {d:D} {u:Value} (b:Z3 d=true) (h:RP w M d u):u=ZA d:=by
 cases h with
 | agg xs us h1 h2 h3 =>
  simp only[ZA];congr 2;apply List.ext_getElem
  ·simpa using h1
  ·intro i e f;have c:i<xs.length:=by omega
   have a:Cl xs[i]=true:=ae7.1 b _ (ae8 c);have:=IJ a (h2 i _ (ae9 c));rw[List.getElem_map,<- this];simp[List.getD,e]
 | _=>first|rfl|cases b
structure ZH (P:Program) (f:FuncId) (p:Grow):Prop where
 callable:eW P f
 pos:0<p.k
 flat:∀ds aeS cs,p.sem ds aeS=some cs->(∀d∈ds,Cl d=true)∧(∀d∈aeS,Z3 d=true)∧(∀d∈cs,Cl d=true)∧cs.length=p.k
 calls:∀(w:World) (gy:Nat×Nat) (ya:Array Value) (ty:Nat) (go:Option (Nat×Nat)) (u:Value) (n:Nat) (ds aeS cs:List D),w.heap[gy.1]? = some (.cells ya ty (0,0))->ya[gy.2]? = some u->VD w p.ty p.k go u n (ds.map LA) ->
  (∀g,go=some g->g.1≠gy.1)->ds.length=n*p.k->p.sem ds aeS=some cs->(n+1)*p.bytes<=140737488355328 ->
  Calls P f (#[.pointer (some ⟨gy.1,gy.2,none⟩)]++(aeS.map ZA).toArray) w fun e w'=>e=.returned (.int .i64 (n:Int))∧ez (fun b=>b=gy.1∨vA go b) w w' ∧
   ∃(g:Nat×Nat) (c:Nat) (arr:Array Value),(w.heap.size<=g.1∨vA go g.1)∧w'.heap[gy.1]? = some (.cells (ya.setIfInBounds gy.2 (.slice (some ⟨g.1,g.2,none⟩) (n+1) c)) ty (0,0))∧w'.heap[g.1]? = some (.cells arr p.ty (0,0)) ∧
    n+1<=c∧c<=maxLen∧c*p.k+g.2=arr.size∧∀(j:Nat) x,((ds++cs).map LA)[j]? = some x->arr[g.2+j]? = some x
structure HF (w:World) (Q:Nat->Prop) (blk:Nat->Option (Nat×Nat)) (h:Nat->Option Row):Prop where
 rows:∀x r,h x=some r->match blk x with|some g=>dV w Q g r|none=>r.cells=[]
 inj:∀x y r s g g',h x=some r->h y=some s->blk x=some g->blk y=some g'->g.1=g'.1->x=y
 pha:∀y r g,h y=some r->r.mp=true->blk y=some g->∀j x s n:Nat,r.cells[j]? = some (D.ph x s n)->P4 y j x∧∃u,w.cell? ⟨g.1,g.2+j,none⟩=some u∧ZL w h blk x s n u
def jy (a t s b:Nat) (c:List D):Row:=⟨0,a,[.nr t s b c],false,true,true⟩
def oa (r:Row) (x:Nat):Option Row:=if x=0 then some r else none
def xl (blk:Nat->Option (Nat×Nat)) (h:Nat->Option Row) (b:Nat):Prop:=∃x r g,h x=some r∧blk x=some g∧g.1=b
def PV (P:Program) (f:FuncId) (k t s o:Nat) (m g:List D) (d:D) (j:List D):Prop :=
 ∀(w:World) (M:Nat->Prop) (blk:Nat->Option (Nat×Nat)) (h h':Nat->Option Row) (c:Nat×Nat) (l:Array Value),h=EH (oa (jy k t s 0 m))->h'=EH (oa (jy k t s 0 j)) ->
  (∀b,M b->b<w.heap.size)->(∀b,xl blk h b->¬M b)->blk 0=some c->HF w (fun b=>M b∨xl blk h b) blk h->zB w (fun b=>M b∨xl blk h b) g l ->
  Calls P f (#[.pointer (some ⟨c.1,c.2+o,none⟩)]++l) w fun e i=>∃v a,e=.returned v∧ez (xl blk h) w i∧a 0=some c∧i.shape? c.1=w.shape? c.1∧(∀b,xl a h' b->w.heap.size<=b∨xl blk h b)∧HF i (fun b=>M b∨xl a h' b) a h'∧RP i (fun b=>M b∨xl a h' b) d v
def PU (P:Program) (f:FuncId) (a:List D) (g t s S n:Nat) (i:List D):Prop :=
 ∀(w:World) (M:Nat->Prop) (h:Nat->Option Row) (d:Array Value),h=EH (oa (jy g t s 0 i))->(∀b,M b->b<w.heap.size)->zB w M a d ->
  Calls P f d w fun e c=>∃v blk,e=.returned v∧Below w.heap.size w c∧(∀b,xl blk h b->w.heap.size<=b)∧HF c (fun b=>M b∨xl blk h b) blk h∧BW c (blk 0) (.buf 0 0 S 0 n) v
structure bG (P:Program) (Γ:Env):Prop where
 calls:∀f lent args rk out,Γ.sem f lent args=some (rk,out)->sJ P f lent args rk out∧eW P f
 ins:∀f p,Γ.ins f=some p->abT P f p
 grw:∀f p,Γ.grw f=some p->ZH P f p
 lnd:∀f p,Γ.nx.lnd f=some p->eW P f∧∀ty t s o cs args d cs',p.2 ty t s o cs args=some (d,cs')->PV P f ty t s o cs args d cs'
 res:∀f p,Γ.nx.res f=some p->eW P f∧∀args ty t s S n cs,p args=some (ty,t,s,S,n,cs)->PU P f args ty t s S n cs
def eX.get {P:Program} {t:Nat} {τ:Ty} (h:eX P t τ):∃d i z,P.underlying t=some d∧conv d=τ.ds∧P.info? t=some i∧i.size=τ.size∧i.bytes=τ.bytes∧i.zero=some z∧z.cells=τ.zero.toArray:=by
 have b:=h.desc;have a:=h.info;cases e:P.underlying t with
 | none=>simp[e]at b
 | some d =>
  cases f:P.info? t with
  | none=>simp[f]at a
  | some i =>
   simp only[e,Option.map_some,ae5]at b;simp only[f,Option.map_some,ae5,Prod.mk.injEq]at a;cases c:i.zero with
   | none=>simp[c]at a
   | some z =>
    simp only[c,Option.map_some,ae5]at a;exact⟨d,i,z,rfl,b,rfl,a.1,a.2.1,c,by rw[<- a.2.2]⟩
def dZ (P:Program) (o:Oper) (a:Act) (w:World) (Φ:Value->World->Prop):Prop :=
 (∃v c,(execOp a.eval o).run P w=.ok (.value v) c∧Φ v c)∨(∃c,(execOp a.eval o).run P w=.ok .skip c∧Φ undef c) ∨
 (∃f b,(execOp a.eval o).run P w=.ok (.enter f b) w∧Calls P f b w (fun e c=>∃v,e=.returned v∧Φ v c))
def dZ.mono {P:Program} {o:Oper} {a:Act} {w:World} {Φ Ψ:Value->World->Prop} (h:dZ P o a w Φ) (i:∀v b,Φ v b->Ψ v b):dZ P o a w Ψ:=by
 rcases h with⟨v,b,c,d⟩|⟨b,c,d⟩|⟨f,g,c,d⟩
 ·exact .inl ⟨v,b,c,i _ _ d⟩
 ·exact .inr (.inl ⟨b,c,i _ _ d⟩)
 ·exact .inr (.inr ⟨f,g,c,d.mono fun e b ⟨v,j,k⟩=>⟨v,j,i _ _ k⟩⟩)
def dZ.wp {P:Program} {o:Oper} {a:Act} {w:World} {Φ:Value->World->Prop} {K:Act->World->Prop} {Q:Exit->Act->World->Prop} (h:dZ P o a w Φ) (g:∀v b,Φ v b->K (a.put o.dst v) b):o.wp P a w K Q:=by
 unfold Oper.wp;rcases h with⟨v,b,c,d⟩|⟨b,c,d⟩|⟨f,i,c,d⟩
 ·rw[c];exact g v b d
 ·rw[c];exact g undef b d
 ·rw[c];refine d.mono fun e b ⟨v,j,k⟩ =>?_;subst j;exact g v b k
section
variable {N:Nat} {M:Nat->Prop} {L:jM} {w0:World} {blk:Nat->Option (Nat×Nat)} {V:Nat->Nat->Prop} {t:Nat->D} {h:Nat->Option Row} {a:Act} {w:World}
structure pT (M:Nat->Prop) (h:Nat->Option Row) (blk:Nat->Option (Nat×Nat)) (fr:List Nat) (M':Nat->Prop):Prop where
 le:∀b,M' b->Own M h blk b
 no:∀x,x∈fr->∀r g,h x=some r->blk x=some g->¬M' g.1
def pT.left {b a:List Nat} {c:Nat->Prop} (hl:pT M h blk (b++a) c):pT M h blk b c:=⟨hl.le,fun x d=>hl.no x (afa _ d)⟩
def pT.right {c a:List Nat} {b:Nat->Prop} (hl:pT M h blk (c++a) b):pT M h blk a b:=⟨hl.le,fun x d=>hl.no x (afb _ d)⟩
def Inv.fF (o:Inv N M L w0 blk V t h a w) (p:List Nat):pT M h blk p (Own M (aW h (jw h p)) blk) where
 le b d:=by
  rcases d with d|⟨x,l,g,c,e,k,rfl⟩
  ·exact .inl d
  ·rw[AW]at c;split at c
   ·cases i:h x with
    | none=>simp[i]at c
    | some r=>simp only[i,Option.map_some,ae5]at c;subst c;rw[Ks]at e;cases e
   ·exact .inr ⟨x,l,g,c,e,k,rfl⟩
 no x c r g i k d:=by
  rcases d with d|⟨y,l,q,f,e,m,s⟩
  ·exact o.notM i k d
  ·rw[AW]at f;split at f
   ·cases j:h y with
    | none=>simp[j]at f
    | some u=>simp only[j,Option.map_some,ae5]at f;subst f;rw[Ks]at e;cases e
   ·rename_i n;have:y=x:=o.inj y x l r q g f i m k s;subst this;exact n c
def Inv.IV (j:Inv N M L w0 blk V t h a w) (d:List Nat):pT M h blk d (fun b=>Own M h blk b∧∀x,x∈d->∀r g,h x=some r->blk x=some g->g.1≠b) where
 le b c:=c.1
 no x e r g f i c:=c.2 x e r g f i rfl
def rn {x v:Nat} {r:Row} (a:oS h x v=some r):h x=some r∧r.v=v:=by
 unfold oS at a;split at a
 ·split at a
  ·simp only[ae5]at a;subst a;exact⟨by assumption,by assumption⟩
  ·cases a
 ·cases a
def cw {x v:Nat} {r:Row} (a:live h x v=some r):h x=some r∧r.v=v:=by
 unfold live at a;split at a
 ·split at a
  ·rename_i b;simp only[ae5]at a;subst a;exact⟨by assumption,b.1⟩
  ·cases a
 ·cases a
def ia {x v:Nat} {r:Row} (a:live h x v=some r):r.mp=false:=by
 unfold live at a;split at a
 ·split at a
  ·rename_i b;simp only[ae5]at a;subst a;exact b.2
  ·cases a
 ·cases a
def Cu {x v:Nat} {r:Row} (a:zd h x v=some r):h x=some r∧r.v=v∧r.mp=true∧uK r=true:=by
 unfold zd at a;split at a
 ·rename_i d b;split at a
  ·rename_i c;simp only[ae5]at a;subst a;exact⟨b,c⟩
  ·cases a
 ·cases a
def Fk {r:Row} (h:r.mp=false):uK r=true:=by unfold uK;rw[h]
def Ag {r:Row} (h:uK r=true) (d:r.mp=true):∃a b,r.cells=[.mpc a b]:=by
 unfold uK at h;split at h
 ·rename_i a b _ e;exact⟨a,b,e⟩
 ·cases h
 ·rename_i c;rw[d]at c;cases c
def Fh {x v:Nat} {d:List dp} {e:List D} (a:kR h x v=some (d,e)):∃r,h x=some r∧r.v=v∧r.mp=true∧r.cells=[.mpc d e]∧r.ty<900000:=by
 unfold kR at a;split at a
 ·rename_i r f;split at a
  ·rename_i b;split at a
   ·rename_i c;simp only[ae5,Prod.mk.injEq]at a;obtain⟨rfl,rfl⟩:=a;exact⟨r,f,b.1,b.2.1,c,b.2.2⟩
   ·cases a
  ·cases a
 ·cases a
def dt {α:Type} (l:List α) (o n j:Nat):((l.drop o).take n)[j]? = if j<n then l[o+j]? else none:=by
 rw[afc];split
 ·rw[afd]
 ·rfl
def Inv.zG (l:Inv N M L w0 blk V t h a w) {x v s o n:Nat} {r:Row} {u:Value} (m:live h x v=some r) (q:RT w (Own M h blk) h blk V (.buf x v s o n) u) :
  (∃(g:Nat×Nat) (o' c:Nat) (b:Array Value),blk x=some g∧u=.slice (some ⟨g.1,o',none⟩) n c∧n<=c∧c<=maxLen∧w.heap[g.1]? = some (.cells b r.ty (0,0))∧(0<c∨o=0->o'=g.2+o∧c*s+o'=b.size) ∧
   g.2+r.cells.length<=b.size∧∀j d,r.cells[j]? = some d->bz d=true∧RP w (Own M h blk) d (b.getD (g.2+j) undef))∨(blk x=none∧n=0∧r.cells=[]∧∃A,u=.slice A 0 0):=by
 obtain⟨f,y⟩:=cw m;rcases q.2 r f y with⟨g,o',c,z,B,e,i,k,C,D,E⟩|⟨e,i,A,k⟩
 ·obtain⟨b,p,F,G⟩:=l.Ff f e (ia m);have:(r.ty,b.size)=(B,z):=by simpa [World.shape?,p] using E
  simp only[Prod.mk.injEq]at this;exact .inl ⟨g,o',c,b,e,i,C,D,p,fun H=>by obtain⟨I,J⟩:=k H;exact⟨I,by rw[J,this.2]⟩,F,G⟩
 ·have:=(l.rows x r f).2;rw[e]at this;exact .inr ⟨e,i,this,A,k⟩
def bd {w:World} {g:Nat} {a:Array Value} {b:Nat} (c:w.heap[g]? = some (.cells a b (0,0))) {j:Nat} (d:j<a.size):w.cell? ⟨g,j,none⟩=some (a.getD j undef):=by
 simp[World.cell?,c,d]
def Inv.dQ (I:Inv N M L w0 blk V t h a w) {d q:D} {J:List Nat} {u:Value} {z:Nat->Prop} (e:dQ h d=some (q,J)) (K:pT M h blk J z) (l:RT w (Own M h blk) h blk V d u):RP w z q u∧bz q=true:=by
 have m:∀b,b<w.heap.size->¬Own M h blk b->b<w.heap.size∧¬z b∧w.heap[b]? = w.heap[b]?:=fun b Q h2=>⟨Q,fun R=>h2 (K.le b R),rfl⟩;cases d with
 | int k n=>simp only[Am.dQ,ae5,Prod.mk.injEq]at e;obtain⟨rfl,rfl⟩:=e;exact⟨RP.keep m l,rfl⟩
 | bool b=>simp only[Am.dQ,ae5,Prod.mk.injEq]at e;obtain⟨rfl,rfl⟩:=e;exact⟨RP.keep m l,rfl⟩
 | str s=>simp only[Am.dQ,ae5,Prod.mk.injEq]at e;obtain⟨rfl,rfl⟩:=e;exact⟨RP.keep m l,rfl⟩
 | sl x y n xs=>simp only[Am.dQ,ae5,Prod.mk.injEq]at e;obtain⟨rfl,rfl⟩:=e;exact⟨RP.keep m l,rfl⟩
 | buf x v s o n =>
  simp only[Am.dQ]at e;split at e
  ·rename_i r i;split at e
   ·rename_i S;simp only[ae5,Prod.mk.injEq]at e;obtain⟨rfl,rfl⟩:=e;rcases I.zG i l with⟨g,T,c,cs,B,C,O,E,U,W,Y,P⟩|⟨B,C,O,A,E⟩
    ·subst C;refine⟨.sl (some ⟨g.1,T,none⟩) c false false n _ (fun j=>cs.getD (g.2+(o+j)) undef) O E (fun h=>by cases h) (fun h=>by cases h) (fun h=>by cases h) (fun F =>?_) (fun j y f =>?_) (fun y G =>?_),rfl⟩
     ·have Z:0<n:=by
       rcases afe n with H|H
       ·subst H;simp at F
       ·exact H
      have X:=(W (.inl (by omega))).1;subst X;refine⟨g.1,g.2+o,rfl,I.lt (cw i).1 B,K.no x (by simp) r g (cw i).1 B,fun j f =>?_⟩;simp only[aff,afg]at f;rw[afh];exact bd U (by omega)
     ·rw[dt]at f;split at f
      ·exact (P _ _ f).2.keep m
      ·cases f
     ·obtain⟨j,f⟩:=afi G;rw[dt]at f;split at f
      ·exact (P _ _ f).1
      ·cases f
    ·subst C E;have p:List.take (0*s) (List.drop o r.cells)=[]:=by simp
     rw[p];exact⟨.sl A 0 false false 0 [] (fun _=>undef) (aeX _) (aeY _) (fun h=>by cases h) (fun _=>⟨rfl,rfl⟩) (fun h=>by cases h) (fun h=>absurd rfl h) (fun j y f=>by simp at f) (fun y G=>by simp at G),rfl⟩
   ·cases e
  ·cases e
 | _=>simp[Am.dQ]at e
def xu {h:Nat->Option Row} {d:D} (a:∀b,d ≠ .agg b):Am.qN h d=Am.dQ h d:=by
 cases d<;>first|rfl|exact absurd rfl (a _)
def Inv.qN (m:Inv N M L w0 blk V t h a w) {d i:D} {j:List Nat} {u:Value} {e:Nat->Prop} (c:qN h d=some (i,j)) (k:pT M h blk j e) (l:RT w (Own M h blk) h blk V d u):RP w e i u:=by
 by_cases f:∀g,d ≠ .agg g
 ·rw[xu f]at c;exact (m.dQ c k l).1
 ·have n:∀b,b<w.heap.size->¬Own M h blk b->b<w.heap.size∧¬e b∧w.heap[b]? = w.heap[b]?:=fun b o h2=>⟨o,fun p=>h2 (k.le b p),rfl⟩;simp only[ne_eq,Classical.not_forall,Classical.not_not]at f;obtain⟨g,rfl⟩:=f;simp only[Am.qN,ae5,Prod.mk.injEq]at c;obtain⟨rfl,rfl⟩:=c;exact RP.keep n (show RP w (Own M h blk) (.agg g) u from l)
def Inv.N1 (A:Inv N M L w0 blk V t h a w) {x v:Nat} {f:List dp} {i:List D} {u:Value} (B:kR h x v=some (f,i)) (C:RT w (Own M h blk) h blk V (.mp x v) u) :
  ∃(g:Nat×Nat) (r:Row),h x=some r∧r.v=v∧r.mp=true∧r.cells=[.mpc f i]∧blk x=some g∧u=.map (some g.1)∧i.length=f.length∧∃(b:Array MapEntry) (c:Nat),w.heap[g.1]? = some (.map b c)∧b.size=f.length∧MapKept.Stamped b c∧∃l:Nat->Value,(∀j k,f[j]? = some k->∃e:MapEntry,b[j]? = some e∧e.key=lv k∧e.val=l j)∧∀j x,i[j]? = some x->RP w (Own M h blk) x (l j):=by
 obtain⟨r,m,s,y,n,o⟩:=Fh B;obtain⟨g,z,E⟩:=C.2 r m s;have d:=A.rowIs m z;unfold dV at d;rw[y]at d;rcases d with d|⟨d,_⟩;rotate_left
 ·rw[n]at d;have:=d _ (afj.2 rfl);cases this
 obtain⟨F,G,p,H,I,_⟩:=d;obtain⟨b,c,J,K,q,l,O,P⟩:=I o;rw[n]at p;simp only[afk,D.mpc.injEq,and_true]at p;obtain⟨rfl,rfl⟩:=p;exact⟨g,r,m,s,y,n,z,E,H,b,c,J,K,q,l,O,P⟩
def Inv.Tg (m:Inv N M L w0 blk V t h a w) {x v:Nat} {e:List dp} {f:List D} {u:Value} {i:Nat->Prop} (q:kR h x v=some (e,f)) (k:∀r g,h x=some r->blk x=some g->¬i g.1)
  (s:∀b,b<w.heap.size->¬Own M h blk b->b<w.heap.size∧¬i b∧w.heap[b]? = w.heap[b]?) (z:RT w (Own M h blk) h blk V (.mp x v) u):RP w i (.mpc e f) u:=by
 obtain⟨g,r,n,H,I,J,o,rfl,A,d,c,B,C,_,E,F,l⟩:=m.N1 q z;refine .mpc e f (some g.1) E A (fun h=>by cases h) (fun b p =>?_) (fun j y G=>(l j y G).keep s);simp only[ae5]at p;subst p;exact⟨m.lt n o,k r g n o,d,c,B,C,F⟩
def Inv.bH (p:Inv N M L w0 blk V t h a w) {d E:D} {F:List Nat} {u:Value} {G:Nat->Prop} (c:bH h d=some (E,F)) (q:pT M h blk F G) (i:RT w (Own M h blk) h blk V d u):RP w G E u:=by
 have A:∀b,b<w.heap.size->¬Own M h blk b->b<w.heap.size∧¬G b∧w.heap[b]? = w.heap[b]?:=fun b l h2=>⟨l,fun X=>h2 (q.le b X),rfl⟩;have one:∀d,Am.bH h d=(match Am.dQ h d with|some (E,F)=>some (canon E,F)|none=>none)->Am.bH h d=some (E,F)->RT w (Own M h blk) h blk V d u->RP w G E u:=by
  intro d Y c i;rw[Y]at c;split at c
  ·rename_i d1 H l;simp only[ae5,Prod.mk.injEq]at c;obtain⟨rfl,rfl⟩:=c;exact (p.dQ l q i).1.canon
  ·cases c
 cases d with
 | ptr x v o =>
  simp only[Am.bH]at c;split at c
  ·rename_i r m;split at c
   ·rename_i Z;simp only[ae5,Prod.mk.injEq]at c;obtain⟨rfl,rfl⟩:=c;obtain⟨k,I⟩:=cw m;obtain⟨g,B,J⟩:=i.2 r k I;obtain⟨cs,g2,g3,R⟩:=p.Ff k B (ia m);subst J;refine .ip _ _ (fun j=>cs.getD (g.2+(o+j)) undef) (fun aa=>⟨g.1,g.2+o,rfl,p.lt k B,q.no x (by simp) r g k B,fun j e =>?_⟩) (fun j y e =>?_) (fun y hy =>?_)
    ·simp only[afg]at e;rw[afh];exact bd g2 (by omega)
    ·rw[afd]at e;exact (R _ _ e).2.keep A
    ·obtain⟨j,e⟩:=afi hy;rw[afd]at e;exact (R _ _ e).1
   ·cases c
  ·cases c
 | agg xs=>simp only[Am.bH,ae5,Prod.mk.injEq]at c;obtain⟨rfl,rfl⟩:=c;exact (RP.keep A i).iQ
 | ip xs=>simp only[Am.bH,ae5,Prod.mk.injEq]at c;obtain⟨rfl,rfl⟩:=c;exact RP.keep A i
 | fn f=>simp only[Am.bH,ae5,Prod.mk.injEq]at c;obtain⟨rfl,rfl⟩:=c;exact RP.keep A i
 | box1 x v s o n =>
  simp only[Am.bH]at c;split at c
  ·rename_i d1 H l;simp only[ae5,Prod.mk.injEq]at c;obtain⟨rfl,rfl⟩:=c;obtain⟨u',rfl,_,i⟩:=i;obtain⟨K,O⟩:=p.dQ l q (show RT w (Own M h blk) h blk V (.buf x v s o n) u' from i);refine .agg _ [u'] rfl (fun j x e =>?_) (fun x k =>?_)
   ·cases j with
    | zero=>simp only[List.getElem?_cons_zero,ae5]at e;subst e;exact K.canon
    | succ j=>simp at e
   ·simp only[afj]at k;rw[k,mT];exact O
  ·cases c
 | mpc S T=>simp only[Am.bH,ae5,Prod.mk.injEq]at c;obtain⟨rfl,rfl⟩:=c;exact RP.keep A i
 | mp x v =>
  simp only[Am.bH]at c;split at c
  ·rename_i S T l;simp only[ae5,Prod.mk.injEq]at c;obtain⟨rfl,rfl⟩:=c;exact p.Tg l (q.no x (by simp)) A i
  ·cases c
 | pm x v y =>
  simp only[Am.bH]at c;split at c
  ·rename_i r m;split at c
   ·rename_i P U Q;split at c
    ·rename_i C;obtain⟨c1,c2,rfl⟩:=C;split at c
     ·rename_i S T l;simp only[ae5,Prod.mk.injEq]at c;obtain⟨rfl,rfl⟩:=c;obtain⟨k,I⟩:=cw m;obtain⟨g,B,J⟩:=i.2 r k I;obtain⟨u',K,O⟩:=p.ali x r g k c1 c2 B 0 (.alm P U) (.mp P U) (by rw[Q];rfl) rfl;have k3:=p.Tg l (q.no P (by simp)) A O;subst J;refine .ip _ _ (fun _=>u') (fun _=>⟨g.1,g.2+0,rfl,p.lt k B,q.no x (by simp) r g k B,fun j e =>?_⟩) (fun j z e =>?_) (fun z W =>?_)
      ·simp only[List.length_cons,List.length_nil]at e;have:j=0:=by omega
       subst this;exact K
      ·cases j with
       | zero=>simp only[List.getElem?_cons_zero,ae5]at e;subst e;exact k3
       | succ j=>simp at e
      ·simp only[afj]at W;subst W;rfl
     ·cases c
    ·cases c
   ·cases c
  ·cases c
 | _=>exact one _ rfl c i
def DP {w:World} {M:Nat->Prop} {h:Nat->Option Row} {blk:Nat->Option (Nat×Nat)} {V:Nat->Nat->Prop} {d:D} {u:Value} (a:RC w M h blk V d u):RT w M h blk V d u:=by
 cases d with
 | ptr x v o=>exact a
 | mp x v=>exact a
 | pm x v y=>exact a
 | _=>exact bQ a
def Inv.dA (l:Inv N M L w0 blk V t h a w) {m:Nat->Prop} : ∀ {f b:List D} {g:List Nat} {us:List Value},dA h f=some (b,g)->pT M h blk g m->us.length=f.length ->
  (∀j d,f[j]? = some d->RT w (Own M h blk) h blk V d (us.getD j undef))->us.length=b.length∧∀j d,b[j]? = some d->RP w m d (us.getD j undef)
 | [],b,g,us,c,i,hlen,k=>by
  simp only[Am.dA,ae5,Prod.mk.injEq]at c;obtain⟨rfl,rfl⟩:=c;exact⟨hlen,fun j d e=>by simp at e⟩
 | d::f,b,g,us,c,i,hlen,k=>by
  simp only[Am.dA]at c;split at c
  ·rename_i d1 n o;split at c
   ·rename_i p q r;simp only[ae5,Prod.mk.injEq]at c;obtain⟨rfl,rfl⟩:=c;cases us with
    | nil=>simp at hlen
    | cons u us =>
     have s:=l.bH o i.left (k 0 d rfl);obtain⟨v,y⟩:=l.dA r i.right (by simpa using hlen) (fun j d e=>by simpa using k (j+1) d (by simpa using e));refine⟨by simp[v],fun j x e =>?_⟩;cases j with
     | zero=>simp only[List.getElem?_cons_zero,ae5]at e;subst e;simpa using s
     | succ j=>simpa using y j x (by simpa using e)
   ·cases c
  ·cases c
def Inv.cG (c:Inv N M L w0 blk V t h a w) {d e:D} {g:List Nat} {u:Value} {i:Nat->Prop} (b:cG h d=some (e,g)) (k:pT M h blk g i) (l:RT w (Own M h blk) h blk V d u):RP w i e u:=by
 cases d with
 | clo f m xs =>
  simp only[Am.cG]at b;split at b
  ·rename_i n o p;simp only[ae5,Prod.mk.injEq]at b;obtain⟨rfl,rfl⟩:=b;obtain⟨q,r,s,v⟩:=l;subst r;obtain⟨x,y⟩:=c.dA p k s (fun j d z=>DP (v j d z));exact .clo f m n q x y
  ·cases b
 | _=>exact c.bH (by rw[<- b];rfl) k l
def Inv.bX (l:Inv N M L w0 blk V t h a w) {m:Nat->Prop} : ∀ {f b:List D} {g:List Nat} {us:List Value},bX h f=some (b,g)->pT M h blk g m->us.length=f.length ->
  (∀j d,f[j]? = some d->RT w (Own M h blk) h blk V d (us.getD j undef))->us.length=b.length∧∀j d,b[j]? = some d->RP w m d (us.getD j undef)
 | [],b,g,us,c,i,hlen,k=>by
  simp only[Am.bX,ae5,Prod.mk.injEq]at c;obtain⟨rfl,rfl⟩:=c;exact⟨hlen,fun j d e=>by simp at e⟩
 | d::f,b,g,us,c,i,hlen,k=>by
  simp only[Am.bX]at c;split at c
  ·rename_i d1 n o;split at c
   ·rename_i p q r;simp only[ae5,Prod.mk.injEq]at c;obtain⟨rfl,rfl⟩:=c;cases us with
    | nil=>simp at hlen
    | cons u us =>
     have s:=l.cG o i.left (k 0 d rfl);obtain⟨v,y⟩:=l.bX r i.right (by simpa using hlen) (fun j d e=>by simpa using k (j+1) d (by simpa using e));refine⟨by simp[v],fun j x e =>?_⟩;cases j with
     | zero=>simp only[List.getElem?_cons_zero,ae5]at e;subst e;simpa using s
     | succ j=>simpa using y j x (by simpa using e)
   ·cases c
  ·cases c
def Inv.fC (v:Inv N M L w0 blk V t h a w) {d:D} {f:List D} {k:List Nat} {u:Value} {m:Nat->Prop} (c:fC h d=some (f,k)) (s:pT M h blk k m) (n:RT w (Own M h blk) h blk V d u) :
  u.cells.size=f.length∧∀j x,f[j]? = some x->bz x=true∧RP w m x (u.cells.getD j undef):=by
 have y:∀b,b<w.heap.size->¬Own M h blk b->b<w.heap.size∧¬m b∧w.heap[b]? = w.heap[b]?:=fun b g h2=>⟨g,fun z=>h2 (s.le b z),rfl⟩;have one:∀d,(∀o,d ≠ .agg o)->Am.fC h d=some (f,k)->RT w (Own M h blk) h blk V d u->u.cells.size=f.length∧∀j x,f[j]? = some x->bz x=true∧RP w m x (u.cells.getD j undef):=by
  intro d q c n;have:∃i,Am.dQ h d=some (i,k)∧f=[i]:=by
   have e:Am.fC h d=match Am.dQ h d with|some (i,k)=>some ([i],k)|none=>none:=by
    cases d<;>first|rfl|exact absurd rfl (q _)
   rw[e]at c;split at c
   ·rename_i i A g;simp only[ae5,Prod.mk.injEq]at c;obtain⟨rfl,rfl⟩:=c;exact⟨i,g,rfl⟩
   ·cases c
  obtain⟨i,g,rfl⟩:=this;obtain⟨h2,p⟩:=v.dQ g s n;rw[h2.cells p];refine⟨rfl,fun j x l =>?_⟩;cases j with
  | zero=>simp only[List.getElem?_cons_zero,ae5]at l;subst l;exact⟨p,by simpa using h2⟩
  | succ j=>simp at l
 cases d with
 | agg o =>
  simp only[Am.fC,ae5,Prod.mk.injEq]at c;obtain⟨rfl,rfl⟩:=c;have r:RP w (Own M h blk) (.agg o) u:=n;cases r with
  | agg o us g h2 p =>
   refine⟨by simp[Value.cells,g],fun j x l=>⟨p x (afo l),?_⟩⟩;have:=(h2 j x l).keep y;simpa [Value.cells] using this
 | _=>exact one _ (fun _ h=>by cases h) c n
end
def qI (g o j:Nat):(⟨g,o,none⟩:Addr).add j=⟨g,o+j,none⟩:=by unfold Addr.add;split<;>simp_all
def At (w:World) (M:Nat->Prop) (g o:Nat) (a:List D):Prop:=∀j x,a[j]? = some x->bz x=true∧∃v,w.cell? ⟨g,o+j,none⟩=some v∧RP w M x v
def At.drop {w:World} {M:Nat->Prop} {g o:Nat} {a:List D} (h:At w M g o a) (k:Nat):At w M g (o+k) (a.drop k):=by
 intro j x b;rw[afd]at b;obtain⟨c,v,d,e⟩:=h _ _ b;grind
def At.take {w:World} {M:Nat->Prop} {g o:Nat} {b:List D} (h:At w M g o b) (k:Nat):At w M g o (b.take k):=by
 intro j x a;rw[afc]at a;split at a
 ·exact h _ _ a
 ·cases a
def At.adC {w:World} {M:Nat->Prop} {g o:Nat} {b:List D} (h:At w M g o b) :
  ∃d:List Value,d.length=b.length∧(∀j u,d[j]? = some u->w.cell? ⟨g,o+j,none⟩=some u)∧(∀j x,b[j]? = some x->RP w M x (d.getD j undef))∧(∀x∈b,bz x=true):=by
 refine⟨(List.range b.length).map fun j=>(w.cell? ⟨g,o+j,none⟩).getD undef,by simp,fun j u c =>?_,fun j x c =>?_,fun x e =>?_⟩
 ·obtain⟨a,f⟩:=afp.1 c;simp only[afq,afr]at a;simp only[List.getElem_map,afs]at f;obtain⟨_,v,i,_⟩:=h j _ (ae9 a);simp_all
 ·have a:j<b.length:=(afp.1 c).1;obtain⟨_,v,i,k⟩:=h j x c;simp_all
 ·obtain⟨j,c⟩:=afi e;exact (h j x c).1
section
variable {P:Program} {T:Nat->Option Ty}
def mu {a:Nat} {τ:Ty} (b:eX P a τ) (w:World):(isAgg a).run P w=.ok τ.ds.tw w:=by
 obtain⟨d,i,z,c,e,f,g,h,j,k⟩:=b.get;rw[<- e];simp only[isAgg,aft,run_underlying c,Result.andThen_ok]<;>cases d<;>rfl
def run_sizeOf {a:Nat} {τ:Ty} (b:eX P a τ) (w:World):(sizeOf a).run P w=.ok τ.size w:=by
 obtain⟨d,i,z,f,g,c,e,h,j,k⟩:=b.get;simp[Go.sizeOf,typeInfo,c,e]
def jJ {a:Nat} {τ:Ty} (b:eX P a τ) (w:World):∃z,(zeroValue a).run P w=.ok z w∧z.cells=τ.zero.toArray:=by
 obtain⟨d,i,z,g,h,c,j,k,e,f⟩:=b.get;exact⟨z,by simp[zeroValue,typeInfo,c,e],f⟩
def kO {b:Nat} {τ:Ty} (c:eX P b τ) (w:World) (g o:Nat) (us:List Value) (e:us.length=τ.size) (d:∀j u,us[j]? = some u->w.cell? ⟨g,o+j,none⟩=some u)
  (f:τ.ds.tw=false->us.length=1):(loadVar b ⟨g,o,none⟩).run P w=.ok (if τ.ds.tw then .agg us.toArray else us.getD 0 undef) w:=by
 simp only[loadVar,aft,mu c,Result.andThen_ok];cases h:τ.ds.tw with
 | true =>
  have:=run_loadCells_list (P:=P) w ⟨g,o,none⟩ us (fun j v i=>by rw[qI];exact d j v i);rw[e]at this;simp[run_sizeOf c,this]
 | false =>
  have a:=f h
  match us,a with
  | [u],_ =>
   have:=d 0 u rfl;simp_all
variable {N:Nat} {M:Nat->Prop} {L:jM} {w0:World} {blk:Nat->Option (Nat×Nat)} {V:Nat->Nat->Prop} {t:Nat->D} {h:Nat->Option Row} {a:Act} {w:World} {e:Nat} {o:Oper} {Γ:Env}
def bn (N:Nat) (M:Nat->Prop) (L:jM) (w0:World) (V:Nat->Nat->Prop) (t:Nat->D) (h:Nat->Option Row) (a:Act) (e:Nat) (c:Option Nat) (E:cd) (v:Value) (d:World):Prop :=
 ∃b,Inv N M L w0 b (fun x n=>V x n∨(c=some x∧n=e)) t (aW h E.hw) a d ∧
  RT d (Own M (aW h E.hw) b) (aW h E.hw) b (fun x n=>V x n∨(c=some x∧n=e)) E.val v
def bn.dO (g:Inv N M L w0 blk V t h a w) {d:D} {v:Value} {b:Option Nat} (i:RT w (Own M h blk) h blk V d v):bn N M L w0 V t h a e b ⟨d,[]⟩ v w :=
 ⟨blk,g.weaken fun _ _ h =>.inl h,i.mono ⟨fun _ c f=>⟨c,f,rfl⟩,fun _ _ h =>.inl h,fun _ _ _ j c f=>⟨⟨j,c,f⟩,rfl,fun _ _=>rfl⟩⟩⟩
def bn.Kp (f:Inv N M L w0 blk V t h a w) {d:D} {v:Value} {b:Option Nat} (c:List Nat) (g:RP w (Own M (aW h (jw h c)) blk) d v):bn N M L w0 V t h a e b ⟨d,jw h c⟩ v w :=
 ⟨blk,(f.freeze c).weaken fun _ _ h =>.inl h,bQ g⟩
def aN {v:Value} {w':World} {Φ:Value->World->Prop} (b:(execOp a.eval o).run P w=.ok (.value v) w') (c:Φ v w'):dZ P o a w Φ := .inl ⟨v,w',b,c⟩
def Im (c:Inv N M L w0 blk V t h a w) {x:Operand} (b:o.op=.move x∨o.op=.assign x):dZ P o a w (bn N M L w0 V t h a e o.dst ⟨ev t x,[]⟩):=by
 refine aN (v:=a.eval x) (w':=w) ?_ (bn.dO c (c.ev x));rcases b with b|b<;>simp[execOp,b]
def Ca (k:Inv N M L w0 blk V t h a w) {p:Nat} {x:Operand} {E:cd} (D:o.op=.assign x) (F:∀d,o.dst=some d->js N V d e) (b:dh T p e o.dst h (ev t x)=some E):dZ P o a w (bn N M L w0 V t h a e o.dst E):=by
 have G:=k.ev x;have i:E=⟨ev t x,[]⟩->dZ P o a w (bn N M L w0 V t h a e o.dst E):=fun h=>by subst h;exact Im k (.inr D)
 generalize ev t x=q at *;have f:(execOp a.eval o).run P w=.ok (.value (a.eval x)) w:=by simp[execOp,D]
 cases q with
 | buf y v s c n =>
  simp only[dh]at b;split at b
  ·rename_i d r l z;split at b
   ·simp_all
   ·rename_i H;simp only[Bool.not_eq_true]at H;simp only[ae5]at b;subst b;obtain⟨I,O⟩:=cw z;have j:=k.VK (w':=w) (h1:=forget h (some y)) (old:=some y) (d:=d) (e:=e) (ty:=r.ty) (lst:=r.lst) (fz:=r.fz) (hfz:=H) (go:=blk y) (cs:=r.cells) rfl rfl rfl (aeX _) (fun _ _ _=>rfl)
     (fun Q m=>by simp_all) rfl (F d l) (by
      have:=(k.rows y r I).2;cases K:blk y with
      | none=>rw[K]at this;exact this
      | some g =>
       rw[K]at this;have B:=this.2;unfold dV at B;rw[ia z]at B;obtain⟨J,Z,k2,k3⟩:=B;grind)
    have R:({ r with v:=e } : Row)=⟨e,r.ty,r.cells,r.fz,r.lst,false⟩:=by rw[<- ia z]
    rw[R];refine aN f ⟨bY blk d (blk y),?_,?_⟩
    ·show Inv _ _ _ _ _ _ _ (bY (bY h y none) d (some _)) _ _;refine j.weaken fun x v S =>?_;grind
    ·refine⟨.inr ⟨l,rfl⟩,fun U _ _ =>?_⟩;rw[aA];exact G.2 r I O
  ·split at b
   ·simp_all
   ·simp only[ae5]at b;subst b;exact aN f ⟨blk,k.weaken fun _ _ h =>.inl h,trivial⟩
 | sl nl tight n xs =>
  unfold dh at b;split at b
  ·simp_all
  ·rename_i W;cases W;split at b
   ·rename_i d τ l hτ;split at b
    ·rename_i el X;split at b
     ·rename_i φ hφ;simp only[ae5]at b;subst b;have Y:a.eval x=.slice none 0 0:=by
       have C:RP w (Own M h blk) (.sl true true 0 []) (a.eval x):=G;generalize a.eval x=u at *;cases C with
       | sl A c nl tight n xs us h1 h2 h3 h4 h5 h6 h7 h8=>simp_all
      have j:=k.VK (w':=w) (h1:=forget h none) (old:=none) (d:=d) (e:=e) (ty:=el) (lst:=true) (fz:=false) (go:=none) (cs:=[]) rfl rfl rfl (aeX _) (fun _ _ _=>rfl)
       (fun Q m=>by cases m) rfl (F d l) rfl
      refine aN f ⟨bY blk d none,?_,?_⟩
      ·refine j.weaken fun x v S =>?_;grind
      ·refine⟨.inr ⟨l,rfl⟩,fun U _ _ =>.inr ⟨aA _ _ _,rfl,none,Y⟩⟩
     ·cases b
    ·cases b
   ·cases b
  simp_all
 | _=>exact i (by simp only[dh,ae5]at b;exact b.symm)
def Wk (c:Inv N M L w0 blk V t h a w) {k:Nat} {q:Nat->Bool} {x:Operand} {E:cd} (f:o.op=.assign x) (i:∀d,o.dst=some d->js N V d e) (b:sM T q k e o.dst h (ev t x)=some E):dZ P o a w (bn N M L w0 V t h a e o.dst E):=by
 have l:=c.ev x;unfold sM at b;split at b
 ·rename_i d g;split at b
  ·rw[<- g]at b;exact Ca c f i b
  ·unfold mI at b;split at b
   ·rename_i n j m;simp only[ae5]at b;subst b;exact aN (v:=a.eval x) (w':=w) (by simp[execOp,f]) (bn.Kp c j (c.qN m (c.fF j) l).iQ)
   ·cases b
 ·rename_i g;rw[<- g]at b;exact Ca c f i b
def xn {b:Bool} {u:Value} {h:Nat->Option Row} (a:RT w M h blk V (.bool b) u):u=.bool b:=by
 have c:RP w M (.bool b) u:=a;cases c;rfl
def mD {k:IntKind} {n:Int} {u:Value} {h:Nat->Option Row} (a:RT w M h blk V (.int k n) u):u=.int k n:=by
 have b:RP w M (.int k n) u:=a;cases b;rfl
def DR {s:ByteArray} {u:Value} {h:Nat->Option Row} (a:RT w M h blk V (.str s) u):u=.string s:=by
 have b:RP w M (.str s) u:=a;cases b;rfl
def Io (d:Inv N M L w0 blk V t h a w) {c x y:Operand} {b:Bool} (g:o.op=.pick c x y) (i:ev t c=.bool b):dZ P o a w (bn N M L w0 V t h a e o.dst ⟨ev t (if b then x else y),[]⟩):=by
 refine aN (v:=a.eval (if b then x else y)) (w':=w) ?_ (bn.dO d (d.ev _));have f:=d.ev c;rw[i]at f;have j:=xn f;cases b<;>simp[execOp,g,j,asBool]
def rK (a:List Value) (g:(a.map oF).all bz=true) {w:World} {M:Nat->Prop} (j:Nat) (x:D) (b:(a.map oF)[j]? = some x):bz x=true∧RP w M x (a.toArray.getD j undef):=by
 have f:bz x=true:=by
  grind
 refine⟨f,?_⟩;rw[aeU]at b;cases c:a[j]? with
 | none=>simp[c]at b
 | some v =>
  simp only[c,Option.map_some,ae5]at b;subst b;have e:a.toArray.getD j undef=v:=by simp[c]
  rw[e];have:=VC w M (fun _=>none) (fun _=>none) (fun _ _=>True) v;generalize oF v=d at *;cases d<;>first|exact this|simp[bz]at f
def DQ {d e:Nat} {g:Nat×Nat} {o:Nat} {b:Nat->Nat->Prop} {c:Nat->Option Row} {a:Nat->Option (Nat×Nat)} (f:b d e) (h:a d=some g):RT w M c a b (.ptr d e o) (.pointer (some ⟨g.1,g.2+o,none⟩)) :=
 ⟨f,fun _ _ _=>⟨g,h,rfl⟩⟩
def Qd {hint:Nat->Option Nat} (l:iI P T) (m:Inv N M L w0 blk V t h a w) {b d:Nat} {τ:Ty} (n:o.op=.alloc b) (k:o.dst=some d) (p:T b=some τ) (q:js N V d e) (r:(τ.zero.map oF).all bz=true) :
  dZ P o a w (bn N M L w0 V t h a e o.dst ⟨match hint d with|some y =>.pm d e y|none =>.ptr d e 0,[(d,some ⟨e,b,τ.zero.map oF,false,false,false⟩)]⟩):=by
 obtain⟨z,c,f⟩:=jJ (l b τ p) w;have i:=m.alloc (d:=d) (e:=e) (ty:=b) (lst:=false) (cs:=τ.zero.map oF) (vs:=τ.zero.toArray) q (by simp) (fun j x s=>rK τ.zero r j x s);refine aN (v := .pointer (some ⟨w.heap.size,0,none⟩)) (w':=w.alloc (.cells τ.zero.toArray b)) ?_ ⟨bY blk d (some (w.heap.size,0)),?_,?_⟩
 ·simp[execOp,n,Instr.alloc,c,newVar,newRow,f]
 ·refine i.weaken fun x v u =>?_;grind
 ·cases hint d with
  | none=>exact DQ (g:=(w.heap.size,0)) (o:=0) (.inr ⟨k,rfl⟩) (aA _ _ _)
  | some y=>exact⟨.inr ⟨k,rfl⟩,fun _ _ _=>⟨(w.heap.size,0),aA _ _ _,rfl⟩⟩
def AX {a:List Nat} {x:Nat} (b:a.contains x=false):aW h (jw h a) x=h x:=by
 rw[AW,if_neg (by simpa using b)]
def Wm (i:Inv N M L w0 blk V t h a w) {b d:Nat} {x:Operand} {c:List D} {f:List Nat} (j:o.op=.box b x) (k:o.dst=some d) (l:js N V d e) (m:fC h (ev t x)=some (c,f)) :
  dZ P o a w (bn N M L w0 V t h a e o.dst ⟨.ptr d e 0,jw h f++[(d,some ⟨e,b,c,false,false,false⟩)]⟩):=by
 obtain⟨q,n⟩:=i.fC m (i.fF f) (i.ev x);have p:=(i.freeze f).alloc (d:=d) (e:=e) (ty:=b) (lst:=false) (cs:=c) (vs:=(a.eval x).cells) l (by omega) n;refine aN (v := .pointer (some ⟨w.heap.size,0,none⟩)) (w':=w.alloc (.cells (a.eval x).cells b)) ?_ ⟨bY blk d (some (w.heap.size,0)),?_,?_⟩
 ·simp[execOp,j,Instr.box,newVar,newRow]
 ·show Inv _ _ _ _ _ _ _ (aW h (jw h f++[(d,some ⟨e,b,c,false,false,false⟩)])) _ _;rw[gH];grind
 ·exact DQ (g:=(w.heap.size,0)) (o:=0) (.inr ⟨k,rfl⟩) (aA _ _ _)
def Inv.rowAt (f:Inv N M L w0 blk V t h a w) {x:Nat} {r:Row} {g:Nat×Nat} (i:h x=some r) (k:blk x=some g) (b:r.mp=false):At w (Own M h blk) g.1 g.2 r.cells:=by
 obtain⟨l,m,o,e⟩:=f.Ff i k b;intro j d c;have n:=(afp.1 c).1;exact⟨(e j d c).1,l.getD (g.2+j) undef,bd m (by omega),(e j d c).2⟩
def RP.acf {M':Nat->Prop} {a:List D} {u:Value} (f:RP w M' (.ip a) u):∃c,u=.pointer (some c)∧(a≠[]->∃b o,c=⟨b,o,none⟩∧At w M' b o a):=by
 cases f with
 | ip a c us h6 h7 h8 =>
  refine⟨c,rfl,fun d =>?_⟩;obtain⟨b,o,rfl,_,_,g⟩:=h6 d;exact⟨b,o,rfl,fun j x e=>⟨h8 x (afo e),us j,g j (afp.1 e).1,h7 j x e⟩⟩
def rZ (q:iI P T) (r:Inv N M L w0 blk V t h a w) {i:Nat} {p:Operand} {τ:Ty} {g c:Nat} {xs:List D} {d:D} (s:o.op=.load i p) (u:T i=some τ) (x:a.eval p=.pointer (some ⟨g,c,none⟩))
  (j:At w (Own M h blk) g c xs) (y:xs.length=τ.size) (k:j0 τ xs=some d):dZ P o a w (bn N M L w0 V t h a e o.dst ⟨d,[]⟩):=by
 obtain⟨f,l,z,A,B⟩:=j.adC;have m:τ.ds.tw=false->xs.length=1∧xs=[d]:=by
  intro n;simp only[j0,n,afv,if_false]at k;grind
 have b:=kO (q i τ u) w g c f (by rw[l,y]) z (fun n=>by simp_all);refine aN (v:=if τ.ds.tw then .agg f.toArray else f.getD 0 undef) (w':=w) ?_ (bn.dO r ?_)
 ·simp[execOp,s,Instr.loadAt,Instr.sureAddr,x,b]
 ·apply bQ;cases C:τ.ds.tw with
  | true =>
   simp only[j0,C,if_true,ae5]at k;subst k;exact .agg xs f l A B
  | false =>
   grind
def Kd (F:iI P T) (k:Inv N M L w0 blk V t h a w) {l:Nat} {p:Operand} {τ:Ty} {x c:Nat} {r:Row} {g:Nat×Nat} {d:D} (G:o.op=.load l p) (H:T l=some τ) (I:a.eval p=.pointer (some ⟨g.1,g.2+c,none⟩))
  (B:h x=some r) (m:r.mp=false) (J:r.fz=true) (K:r.lst=false) (C:blk x=some g) (O:c+τ.size<=r.cells.length) (b:aaF τ.ds.tw ((r.cells.drop c).take τ.size)=some d):dZ P o a w (bn N M L w0 V t h a e o.dst ⟨d,[]⟩):=by
 have f:((r.cells.drop c).take τ.size).length=τ.size:=by simp;omega
 generalize q:(r.cells.drop c).take τ.size=cs at b f;unfold aaF at b;split at b
 ·rename_i y v s z n;simp only[ae5]at b;have Q:τ.size=1:=by simp_all
  have A:r.cells[c]? = some (.ali y v s z n):=by
   have:((r.cells.drop c).take τ.size)[0]? = some (.ali y v s z n):=by rw[q];rfl
   grind
  obtain⟨u,R,S⟩:=k.ali x r g B J K C c _ (.buf y v s z n) A rfl;have i:=kO (F l τ H) w g.1 (g.2+c) [u] (by omega) (fun j v A=>by
   grind) (fun _=>rfl)
  refine aN (v:=if τ.ds.tw then .agg [u].toArray else [u].getD 0 undef) (w':=w) ?_ (bn.dO k ?_)
  ·simp[execOp,G,Instr.loadAt,Instr.sureAddr,I,i]
  ·cases U:τ.ds.tw with
   | false =>
    simp_all
   | true =>
    rw[U]at b;simp only[if_true]at b;subst b;obtain⟨_,Y,E,W⟩:=k.rowAt B C m c _ A;rw[R]at E;cases E;exact⟨u,rfl,W.sj rfl,S⟩
 ·cases b
def Ub (n:iI P T) (k:Inv N M L w0 blk V t h a w) {s:Nat} {p:Operand} {τ:Ty} {E:cd} (A:o.op=.load s p) (u:T s=some τ) (f:eM τ h (ev t p)=some E):dZ P o a w (bn N M L w0 V t h a e o.dst E):=by
 have D:=k.ev p;generalize ev t p=q at *;cases q with
 | ptr x v c =>
  simp only[eM]at f;split at f
  ·rename_i r F;split at f
   ·rename_i l;split at f
    ·rename_i d i;simp only[ae5]at f;subst f;obtain⟨y,H⟩:=cw F;obtain⟨g,I,B⟩:=D.2 r y H;have:=((k.rowAt y I (ia F)).drop c).take τ.size;exact rZ n k A u B this (by simp;omega) i
    ·cases f
   ·cases f
  ·cases f
 | ip xs =>
  simp only[eM]at f;split at f
  ·rename_i l;split at f
   ·rename_i d i;simp only[ae5]at f;subst f;obtain⟨R,G,J⟩:=RP.acf (M':=Own M h blk) D
    by_cases m:xs=[]
    ·subst m;have K:τ.size=0:=by simpa using l
     have z:τ.ds.tw=true:=by
      cases z:τ.ds.tw with
      | true=>rfl
      | false=>simp[j0,z]at i
     have C:=run_sizeOf (n s τ u) w;refine aN (v := .agg #[]) (w':=w) ?_ (bn.dO k ?_)
     ·simp[execOp,A,Instr.loadAt,Instr.sureAddr,G,loadVar,mu (n s τ u),z,C,K,loadCells,loadCellsFrom]
     ·simp only[j0,z,if_true,List.take_nil,ae5]at i;subst i;exact bQ (.agg [] [] rfl (fun j x O=>by simp at O) (fun x y=>by simp at y))
    ·obtain⟨b,c,rfl,Q⟩:=J m;exact rZ n k A u G (At.take Q _) (by simp;omega) i
   ·cases f
  ·cases f
 | _=>simp[eM]at f
def ze {h:Nat->Option Row} {x v:Nat} {r:Row} {y s n:Nat} (a:tx h x v=some (r,y,s,n)):h x=some r∧r.v=v∧r.mp=true∧r.cells=[.ph y s n]:=by
 unfold tx at a;grind
def Wp (X:iI P T) (z:Inv N M L w0 blk V t h a w) {I:Nat} {p:Operand} {τ:Ty} {x v y:Nat} {E:cd} (Y:o.op=.load I p) (Z:T I=some τ) (hp:RT w (Own M h blk) h blk V (.pm x v y) (a.eval p)) (i:yK τ h x v y (tx h x v)=some E):dZ P o a w (bn N M L w0 V t h a e o.dst E):=by
 cases J:tx h x v with
 | none=>rw[J]at i;cases i
 | some q =>
  obtain⟨R,B,s,n⟩:=q;rw[J]at i;simp only[yK]at i;obtain⟨S,hv,K,O⟩:=ze J;split at i
  ·rename_i r F;split at i
   ·rename_i m;obtain⟨rfl,c2,c3,c4,c5,c6⟩:=m;simp only[ae5]at i;subst i;obtain⟨g,hg,G⟩:=hp.2 R S hv;obtain⟨_,u,U,h2⟩:=z.pha x R g S K hg 0 _ _ _ (by rw[O];rfl);have k:=kO (X I τ Z) w g.1 (g.2+0) [u] (by simpa using c6.symm) (fun j v l=>by
     grind) (fun _=>rfl)
    have f:=z.fF [B];have hk:∀b,b<w.heap.size->¬Own M h blk b->b<w.heap.size∧¬Own M (aW h (jw h [B])) blk b∧w.heap[b]? = w.heap[b]?:=fun b U h2=>⟨U,fun hb=>h2 (f.le b hb),rfl⟩;have Q:RP w (Own M (aW h (jw h [B])) blk) (.sl false false n r.cells) u:=by
     rcases h2 r F with⟨C,c,N',aa,H,rfl,g2,g3,g4,g5⟩|⟨H,rfl,A,rfl⟩
     ·obtain⟨arr,k1,k2,W⟩:=z.Ff F H c3;refine .sl (some ⟨C.1,C.2,none⟩) c false false n _ (fun j=>arr.getD (C.2+j) undef) g3 g4 (fun h=>by cases h) (fun h=>by cases h) (fun h=>by cases h) (fun _=>⟨C.1,C.2,rfl,z.lt F H,f.no B (by simp) r C F H,fun j l=>bd k1 (by omega)⟩) (fun j d l=>(W j d l).2.keep hk) (fun d D =>?_);obtain⟨j,l⟩:=afi D;exact (W j d l).1
     ·have:=(z.rows B r F).2;rw[H]at this;have hc:r.cells=[]:=this;rw[hc];exact .sl A 0 false false 0 [] (fun _=>undef) (aeX _) (aeY _) (fun h=>by cases h) (fun _=>⟨rfl,rfl⟩) (fun h=>by cases h) (fun h=>absurd rfl h) (fun j d l=>by simp at l) (fun d D=>by simp at D)
    simp only[Nat.add_zero]at k G;refine aN (v:=if τ.ds.tw then .agg [u].toArray else [u].getD 0 undef) (w':=w) ?_ (bn.Kp z [B] ?_)
    ·simp[execOp,Y,Instr.loadAt,Instr.sureAddr,G,k]
    ·cases hA:τ.ds.tw with
     | false=>exact Q
     | true =>
      refine .agg [_] [u] rfl (fun j d l =>?_) (fun d D =>?_)
      ·grind
      ·simp only[afj]at D;subst D;rfl
   ·cases i
  ·cases i
def YB (A:iI P T) (n:Inv N M L w0 blk V t h a w) {D:Nat} {p:Operand} {τ:Ty} {E:cd} (B:o.op=.load D p) (C:T D=some τ) (b:qS τ h (ev t p)=some E):dZ P o a w (bn N M L w0 V t h a e o.dst E):=by
 have F:=n.ev p;have f:=Ub (P:=P) (o:=o) (e:=e) (E:=E) A n B C;generalize ev t p=q at *;cases q with
 | ptr x v c =>
  simp only[qS]at b;cases s:live h x v with
  | none=>rw[s]at b;cases b
  | some r =>
   rw[s]at b;simp only[sN]at b;split at b
   ·rename_i l;simp only[afx,afy]at l;split at b
    ·rename_i G;split at b
     ·rename_i d H;simp only[ae5]at b;subst b;obtain⟨z,I⟩:=cw s;obtain⟨g,J,k⟩:=F.2 r z I;exact Kd A n B C k z (ia s) l.1 l.2 J G H
     ·exact f b
    ·cases b
   ·exact f b
 | pm x v y =>
  simp only[qS]at b;split at b
  ·rename_i r s;split at b
   ·rename_i O Q K;split at b
    ·rename_i m;obtain⟨R,S,U,W⟩:=m;simp only[ae5]at b;subst b;obtain⟨z,I⟩:=cw s;obtain⟨g,J,k⟩:=F.2 r z I;obtain⟨u,Y,X⟩:=n.ali x r g z R S J 0 (.alm O Q) (.mp O Q) (by rw[K];rfl) rfl;have i:=kO (A D τ C) w g.1 (g.2+0) [u] (by simpa using U.symm) (fun j v Z=>by
      grind) (fun _=>rfl)
     refine aN (v:=u) (w':=w) ?_ (bn.dO n X);rw[W]at i;simp only[Nat.add_zero]at i k;simp[execOp,B,Instr.loadAt,Instr.sureAddr,k,i]
    ·cases b
   ·cases b
  ·exact Wp A n B C F b
 | _=>exact f b
def sH (a:Array Value) (b:List Value) (c j:Nat) (e:c+b.length<=a.size) :
  (a.toList.take c++b++a.toList.drop (c+b.length)).toArray.getD j undef=if j<c then a.getD j undef else if j<c+b.length then b.getD (j-c) undef else a.getD j undef:=by
 have d:min c a.size=c:=by omega
 simp only[ae1,List.getElem?_toArray,afz];grind
def mm {cells a:List D} {c j:Nat} (d:c+a.length<=cells.length):(putCells cells c a)[j]? = if j<c then cells[j]? else if j<c+a.length then a[j-c]? else cells[j]?:=by
 have b:min c cells.length=c:=by omega
 unfold putCells;grind
def jx {cells a:List D} {c:Nat} (b:c+a.length<=cells.length):(putCells cells c a).length=cells.length:=by
 simp[putCells];omega
def spliced {w:World} {M:Nat->Prop} {cells a:List D} {cur:Array Value} {e:List Value} {b c:Nat} (f:c+a.length<=cells.length) (g:e.length=a.length) (h:b+cells.length<=cur.size)
  (k:∀j d,cells[j]? = some d->bz d=true∧RP w M d (cur.getD (b+j) undef)) (l:∀j d,a[j]? = some d->bz d=true∧RP w M d (e.getD j undef)) (j:Nat) (d:D) (i:(putCells cells c a)[j]? = some d) :
  bz d=true∧RP w M d ((cur.toList.take (b+c)++e++cur.toList.drop (b+c+e.length)).toArray.getD (b+j) undef):=by
 rw[mm f]at i;rw[sH _ _ _ _ (by omega),g];grind
def Fe (b:Bool) (a:List D):(sk b a).length=a.length:=by cases b<;>simp[sk]
def Rk {w:World} {M:Nat->Prop} {c:List D} {e:List Value} {b:Bool} (f:∀j d,c[j]? = some d->bz d=true∧RP w M d (e.getD j undef)) (j:Nat) (d:D) (a:(sk b c)[j]? = some d):bz d=true∧RP w M d (e.getD j undef):=by
 cases b with
 | false=>exact f j d a
 | true =>
  simp only[sk,if_true,aeU,aeV]at a;obtain⟨x,g,rfl⟩:=a;obtain⟨h,i⟩:=f j x g;exact⟨by rw[mT];exact h,i.canon⟩
def Qk (U:iI P T) (m:Inv N M L w0 blk V t h a w) {B:Nat} {p x:Operand} {τ:Ty} {E:cd} (W:o.op=.store B p x) (X:T B=some τ) (f:gL τ h (ev t p) (ev t x)=some E):dZ P o a w (bn N M L w0 V t h a e o.dst E):=by
 have Y:=m.ev p;have Z:=m.ev x;generalize ev t p=q at *;generalize ev t x=z at *;cases q with
 | ptr y v c =>
  simp only[gL]at f;split at f
  ·rename_i r C;split at f
   ·rename_i A D hc;split at f
    ·rename_i l;obtain⟨c1,c2,c3,c4⟩:=l;simp only[ae5]at f;subst f;obtain⟨J,F⟩:=cw C;obtain⟨g,K,G⟩:=Y.2 r J F;have n:aW h (jw h D) y=some r:=by rw[AX c4];exact J
     have s:=m.freeze D;obtain⟨u1,O⟩:=m.fC hc (m.fF D) Z;obtain⟨b,Q,R,h5⟩:=s.Ff n K (ia C);have i:=run_storeCells_at P g.1 (g.2+c) r.ty (a.eval x).cells.toList 0 b w Q (by grind) (fun v F=>by
      obtain⟨j,u⟩:=afi F;have H:=(afp.1 u).1;simp only[Array.length_toList]at H;obtain⟨q1,S⟩:=O j _ (ae9 (by omega));have:(a.eval x).cells.getD j undef=v:=by simp_all
      rw[this]at S;exact S.sj q1)
     rw[afw]at i;have aa:(a.eval x).cells.toList.length=A.length:=by omega
     have k:(b.toList.take (g.2+c)++(a.eval x).cells.toList++b.toList.drop (g.2+c+(a.eval x).cells.toList.length)).toArray.size=b.size:=by
      simp;omega
     have ab:=Fe r.lst A;have hw:=s.write n c3 K (ia C) (cs:=putCells r.cells c (sk r.lst A)) Q k (by rw[k,jx (by omega)];exact R)
      (fun j d u=>spliced (by omega) (by omega) R h5 (Rk (fun j d u=>by simpa [List.getD] using O j d u)) j d u)
     refine .inr (.inl ⟨w.setRow g.1 (b.toList.take (g.2+c)++(a.eval x).cells.toList++b.toList.drop (g.2+c+(a.eval x).cells.toList.length)).toArray,?_,blk,?_,trivial⟩)
     ·have I:(a.eval x).cells.size=τ.size:=by omega
      simp[execOp,W,Instr.storeAt,Instr.sureAddr,G,storeVar,run_sizeOf (U B τ X),I,i]
     ·rw[gH];exact hw.weaken fun _ _ h =>.inl h
    ·cases f
   ·cases f
  ·cases f
 | _=>simp[gL]at f
def Ip (O:iI P T) (G:Inv N M L w0 blk V t h a w) {A:Nat} {p x:Operand} {τ:Ty} {y:Nat} {r:Row} {g:Nat×Nat} {c d:D} {i:Value} (Q:o.op=.store A p x) (R:T A=some τ) (S:τ.size=1) (c3:r.cells.length=1) (U:r.fz=false) (B:r.mp=false)
  (H:h y=some r) (u:blk y=some g) (C:a.eval p=.pointer (some ⟨g.1,g.2+0,none⟩)) (W:(a.eval x).cells = #[i]) (I:i.oneCell'=true) (X:alD c=some d) (Y:bz c=true) (Z:∀J M',RP J M' c i) (E:RT w (Own M h blk) h blk V d i) :
  dZ P o a w (bn N M L w0 V t h a e o.dst ⟨.und,[(y,some ⟨r.v,r.ty,[c],true,false,false⟩)]⟩):=by
 obtain⟨f,F,h4,h5⟩:=G.Ff H u B;have k:=run_storeCells_at P g.1 (g.2+0) r.ty [i] 0 f w F (by simp;omega) (fun v hv=>by
  simp_all)
 rw[afw]at k;have l:f.size=(f.toList.take (g.2+0)++[i]++f.toList.drop (g.2+0+[i].length)).toArray.size:=by simp;omega
 have n:(f.toList.take (g.2+0)++[i]++f.toList.drop (g.2+0+[i].length)).toArray.getD g.2 undef=i:=by
  simp only[ae1];grind
 generalize aa:(f.toList.take (g.2+0)++[i]++f.toList.drop (g.2+0+[i].length)).toArray=nv at k l n;have m:(w.setRow g.1 nv).heap[g.1]? = some (.cells nv r.ty (0,0)):=setRow_heap w g.1 f nv r.ty (0,0) F;have ab:(w.setRow g.1 nv).heap.size=w.heap.size:=by simp[World.setRow]
 have hheap:∀b,b≠g.1->(w.setRow g.1 nv).heap[b]? = w.heap[b]?:=by
  intro b K;simp only[World.setRow,ae6];grind
 have hw:=G.rewrite (fz:=true) (lst:=false) (cs:=[c]) (w':=w.setRow g.1 nv) H U rfl rfl rfl (by omega) (fun b _ K=>hheap b (K g u)) (by
  rw[u];refine⟨by simp[World.shape?,m,F,l],nv,m,by simp;omega,fun j d z =>?_⟩;grind) (fun _ _ g' q j c' d' z s=>by
  rw[u]at q;cases q;cases j with
  | zero =>
   simp only[List.getElem?_cons_zero,ae5]at z;subst z;rw[X]at s;cases s;refine⟨i,?_,E⟩;rw[afw,bd m (by omega),n]
  | succ j=>simp at z)
 refine .inr (.inl ⟨w.setRow g.1 nv,?_,blk,?_,trivial⟩)
 ·simp[execOp,Q,Instr.storeAt,Instr.sureAddr,C,storeVar,run_sizeOf (O A τ R),S,W,k]
 ·exact hw.weaken fun _ _ h =>.inl h
def Ue (hT:iI P T) (J:Inv N M L w0 blk V t h a w) (hP:∀x v,V x v->x<N∨2*PK<=x) {Y:Nat} {p x:Operand} {τ:Ty} {y i Z K:Nat} {r q:Row} {g:Nat×Nat} {k:Value} (ho:o.op=.store Y p x) (hτ:T Y=some τ) (c1:τ.size=1) (c3:r.cells.length=1) (c4:r.fz=false) (aa:r.mp=false)
  (hx:h y=some r) (ab:y<N) (hg:blk y=some g) (ad:a.eval p=.pointer (some ⟨g.1,g.2+0,none⟩)) (hu:(a.eval x).cells = #[k]) (aq:k.oneCell'=true) (G:h i=some q) (ae:q.fz=false) (au:q.lst=true) (ag:q.mp=false) (O:y≠i)
  (l:(∃m o' c N' t,blk i=some m∧k=.slice (some ⟨m.1,o',none⟩) K c∧(0<c∨0=0->o'=m.2+0∧c*Z+o'=N')∧K<=c∧c<=maxLen∧w.shape? m.1=some (t,N'))∨(blk i=none∧K=0∧∃A,k=.slice A 0 0)) :
  dZ P o a w (bn N M L w0 V t h a e o.dst ⟨.und,[(i,none),(PK+y,some ⟨0,q.ty,q.cells,false,true,false⟩),(y,some ⟨r.v,r.ty,[.ph (PK+y) Z K],false,false,true⟩)]⟩):=by
 obtain⟨f,h3,h4,h5⟩:=J.Ff hx hg aa;have u:=run_storeCells_at P g.1 (g.2+0) r.ty [k] 0 f w h3 (by simp;omega) (fun v hv=>by
  simp_all)
 rw[afw]at u;have B:f.size=(f.toList.take (g.2+0)++[k]++f.toList.drop (g.2+0+[k].length)).toArray.size:=by simp;omega
 have Q:(f.toList.take (g.2+0)++[k]++f.toList.drop (g.2+0+[k].length)).toArray.getD g.2 undef=k:=by
  simp only[ae1];grind
 generalize av:(f.toList.take (g.2+0)++[k]++f.toList.drop (g.2+0+[k].length)).toArray=nv at u B Q;have C:(w.setRow g.1 nv).heap[g.1]? = some (.cells nv r.ty (0,0)):=setRow_heap w g.1 f nv r.ty (0,0) h3;have aw:(w.setRow g.1 nv).heap.size=w.heap.size:=by simp[World.setRow]
 have hheap:∀b,b≠g.1->(w.setRow g.1 nv).heap[b]? = w.heap[b]?:=by
  intro b E;simp only[World.setRow,ae6];grind
 have ar:=J.big;have ax:PK=1000000:=rfl;have R:y≠PK+y:=by omega
 have ah:∀v,¬V (PK+y) v:=fun v hv=>by grind
 have F:=(J.rows i q G).2;have ai:∀b,Own M (forget h (some i)) blk b->Own M h blk b:=fun b E=>by
  rcases E with E|⟨z,r',m,S,aj,ak,al⟩
  ·exact .inl E
  ·simp only[forget]at S
   by_cases U:z=i
   ·subst U;rw[aA]at S;cases S
   ·rw[aC _ _ U]at S;exact .inr ⟨z,r',m,S,aj,ak,al⟩
 have hA:=J.VM (w':=w) (h1:=forget h (some i)) (old:=some i) (d:=PK+y) (r0:=⟨0,q.ty,q.cells,false,true,false⟩) (go:=blk i) (y0:=y) rfl rfl rfl (aeX _) (fun _ _ _=>rfl) (fun y' ay=>by simp_all) rfl rfl ab ah
  (fun r' W=>by
   simp only[forget]at W;rw[aC _ _ O,hx]at W;simp_all) (by
  cases E:blk i with
  | none=>rw[E]at F;exact F
  | some m =>
   obtain⟨an,k1,k2,k3⟩:=J.Ff G E ag;refine⟨.inr ⟨i,m,rfl,E,rfl⟩,an,k1,k2,fun j d I=>⟨(k3 j d I).1,(k3 j d I).2.keep fun b q1 q2=>⟨q1,?_,rfl⟩⟩⟩;rintro (hn|rfl)
   ·simp_all
   ·exact q2 (.inr ⟨i,q,m,G,ae,E,rfl⟩)) rfl
 have ao:bY (forget h (some i)) (PK+y) (some (⟨0,q.ty,q.cells,false,true,false⟩:Row)) y=some r:=by
  rw[aC _ _ R];simp only[forget];rw[aC _ _ O,hx]
 have H:bY blk (PK+y) (blk i) y=some g:=by rw[aC _ _ R,hg]
 have hB:=hA.kg (r0:=⟨r.v,r.ty,[.ph (PK+y) Z K],false,false,true⟩) (w':=w.setRow g.1 nv) ao c4 rfl rfl rfl rfl (by omega) (fun b _ E=>hheap b (E g H)) (by
  rw[H];refine⟨by simp[World.shape?,C,h3,B],.inr ⟨fun d hd=>by simp only[afj]at hd;subst hd;rfl,nv,C,by simp;omega,fun j d I =>?_⟩⟩;cases j with
  | zero=>simp only[List.getElem?_cons_zero,ae5]at I;subst I;trivial
  | succ j=>simp at I) (fun h=>by cases h) (fun _ m X j x' s n hc=>by
  rw[H]at X;cases X;cases j with
  | succ j=>simp at hc
  | zero =>
  simp only[List.getElem?_cons_zero,ae5,D.ph.injEq]at hc;obtain⟨rfl,rfl,rfl⟩:=hc;refine⟨⟨by omega,.inl rfl⟩,k,by rw[afw,bd C (by omega),Q],fun r' _ =>?_⟩;rw[aA];rcases l with⟨m,o',c,N',t,k0,k1,k2,k3,k4,k5⟩|l
  ·grind
  ·exact .inr l)
 refine .inr (.inl ⟨w.setRow g.1 nv,?_,bY blk (PK+y) (blk i),?_,trivial⟩)
 ·simp[execOp,ho,Instr.storeAt,Instr.sureAddr,ad,storeVar,run_sizeOf (hT Y τ hτ),c1,hu,u]
 ·exact hB.weaken fun _ _ h =>.inl h
def Wv (I:iI P T) (m:Inv N M L w0 blk V t h a w) (U:∀x v,V x v->x<N∨2*PK<=x) {W:Nat} {p x:Operand} {τ:Ty} {E:cd} (J:o.op=.store W p x) (K:T W=some τ) (b:gK τ h (ev t p) (ev t x)=some E):dZ P o a w (bn N M L w0 V t h a e o.dst E):=by
 have O:=m.ev p;have Q:=m.ev x;have s:=Qk (P:=P) (o:=o) (e:=e) (E:=E) I m J K;generalize ev t p=q at *;generalize ev t x=z at *;cases z with
 | box1 Z v1 s1 o1 n1 =>
  cases q with
  | ptr y v c =>
   simp only[gK]at b;split at b
   ·rename_i r j;split at b
    ·rename_i d;obtain⟨u,rfl,A,B,X⟩:=d;simp only[ae5]at b;subst b;obtain⟨l,C⟩:=cw j;obtain⟨g,D,i⟩:=O.2 r l C;obtain⟨Y,F,f,n⟩:=Q;exact Ip I m J K u A B (ia j) l D i (by rw[F];rfl) f rfl rfl (fun _ _ =>.ali _ _ _ _ _ _ f) (show RT w (Own M h blk) h blk V (.buf Z v1 s1 o1 n1) Y from n)
    ·cases b
   ·cases b
  | pm y v k =>
   simp only[gK]at b;split at b
   ·rename_i r q j G;split at b
    ·rename_i d;obtain⟨u,rfl,A,B,X,R,c7,c8,c9,rfl,aa⟩:=d;simp only[ae5]at b;subst b;obtain⟨l,C⟩:=cw j;obtain⟨H,S⟩:=cw G;obtain⟨g,D,i⟩:=O.2 r l C;obtain⟨Y,F,f,n⟩:=Q;exact Ue I m U J K u A B (ia j) l (by have:=U _ _ O.1;omega) D i (by rw[F];rfl) f H R c7 (ia G) c9 (n.2 q H S)
    ·cases b
   ·cases b
  | _=>simp[gK]at b
 | mp y1 v1 =>
  cases q with
  | pm y v c =>
   simp only[gK]at b;split at b
   ·rename_i r j;split at b
    ·rename_i d;obtain⟨u,c2,A,B,X,R⟩:=d;subst c2;simp only[ae5]at b;subst b;obtain⟨l,C⟩:=cw j;obtain⟨g,D,i⟩:=O.2 r l C;obtain⟨⟨ks,vs⟩,hm⟩:=Option.isSome_iff_exists.1 R;obtain⟨g2,_,_,_,_,_,_,F,_⟩:=m.N1 hm Q;exact Ip I m J K u A B (ia j) l D i (by rw[F];rfl) rfl rfl rfl (fun _ _ =>.alm _ _ _ rfl) (by simp_all)
    ·cases b
   ·cases b
  | _=>simp[gK]at b
 | _=>exact s b
end
section
variable {P:Program} {T:Nat->Option Ty} {N:Nat} {M:Nat->Prop} {L:jM} {w0:World} {blk:Nat->Option (Nat×Nat)} {V:Nat->Nat->Prop} {t:Nat->D} {h:Nat->Option Row} {a:Act} {w:World} {e:Nat} {o:Oper} {Γ:Env}
def gY {d:TypeDesc} {a:List (Nat×Nat)} (h:conv d=.struct a):∃F,d=.struct F∧(F.toList.map fun f=>(f.type,f.offset))=a:=by
 cases d<;>simp[conv]at h;exact⟨_,rfl,h⟩
def fS {d:TypeDesc} {e:Nat} (h:conv d=.slice e):d=.slice e:=by
 cases d<;>simp[conv]at h;rw[h]
def zM {d:TypeDesc} {n e:Nat} (h:conv d=.arr n e):d=.array n e:=by
 cases d<;>simp[conv]at h;rw[h.1,h.2]
def tj {d:TypeDesc} (h:conv d=.str):d=.string:=by
 cases d<;>simp[conv]at h;rfl
def xx {d:TypeDesc} (h:conv d=.bool):d=.bool:=by
 cases d<;>simp[conv]at h;rfl
def zN {d:TypeDesc} {k:IntKind} (h:conv d=.int k):d=.int k:=by
 cases d<;>simp[conv]at h;rw[h]
def under (b:iI P T) {a:Nat} {τ:Ty} (c:T a=some τ):∃d,P.underlying a=some d∧conv d=τ.ds:=by
 obtain⟨d,i,z,e,f,_⟩:=(b a τ c).get;exact⟨d,e,f⟩
def M5 {F:Array Field} {c:List (Nat×Nat)} (g:(F.toList.map fun f=>(f.type,f.offset))=c) {i d a:Nat} (b:c[i]? = some (d,a)):∃f,F[i]? = some f∧f.type=d∧f.offset=a:=by
 rw[<- g,aeU]at b;cases e:F[i]? with
 | none=>simp[e]at b
 | some f=>simp[e]at b;exact⟨f,rfl,b.1,b.2⟩
def RP.S1 {e:Nat->Prop} {a:List D} {g:Addr} {us:Nat->Value} (k:Nat) (h:a≠[]->∃b o,g=⟨b,o,none⟩∧b<w.heap.size∧¬e b∧∀j,j<a.length->w.cell? ⟨b,o+j,none⟩=some (us j))
  (i:∀j x,a[j]? = some x->RP w e x (us j)) (h8:∀x∈a,bz x=true):RP w e (.ip (a.drop k)) (.pointer (some (g.add k))):=by
 refine .ip _ _ (fun j=>us (k+j)) (fun f =>?_) (fun j x d =>?_) (fun x l=>h8 x (afB l))
 ·have c:a≠[]:=by rintro rfl;simp at f
  obtain⟨b,o,rfl,m,n,p⟩:=h c;refine⟨b,o+k,qI _ _ _,m,n,fun j d =>?_⟩;rw[afg]at d;rw[afh];exact p (k+j) (by omega)
 ·rw[afd]at d;exact i _ _ d
def Ws (i:Inv N M L w0 blk V t h a w) {x:Operand} {E:cd} (k:o.op=.nilCheck x) (b:uA h (ev t x)=some E):dZ P o a w (bn N M L w0 V t h a e o.dst E):=by
 have f:=i.ev x;generalize u:ev t x=q at *;cases q with
 | ptr y v c =>
  simp only[uA]at b;split at b
  ·rename_i r m;simp only[ae5]at b;subst b;obtain⟨n,p⟩:=rn m;obtain⟨g,z,d⟩:=f.2 r n p;refine aN (v := .pointer (some ⟨g.1,g.2+c,none⟩)) (w':=w) ?_ (bn.dO i ?_)
   ·simp[execOp,k,d]
   ·rw[<- d];exact f
  ·cases b
 | ip xs =>
  simp only[uA,ae5]at b;subst b;have j:=f;obtain⟨s,l,_⟩:=RP.acf (M':=Own M h blk) f;refine aN (v := .pointer (some s)) (w':=w) ?_ (bn.dO i ?_)
  ·simp[execOp,k,l]
  ·rw[<- l];exact j
 | _=>simp[uA]at b
def Ek (R:iI P T) (H:Inv N M L w0 blk V t h a w) {x:Operand} {S i:Nat} {τ:Ty} {E:cd} (W:o.op=.fieldAddr S x i) (X:T S=some τ) (b:fE T τ h i (ev t x)=some E) :
  dZ P o a w (bn N M L w0 V t h a e o.dst E):=by
 have D:=H.ev x;have z:∀(I:Addr) (fs:List (Nat×Nat)) (p j:Nat) (φ:Ty),τ.ds=.struct fs->fs[i]? = some (p,j)->T p=some φ->φ.size≠0->a.eval x=.pointer (some I) ->
   (execOp a.eval o).run P w=.ok (.value (.pointer (some (I.add j)))) w:=by
  intro I fs p j φ l A B C G;obtain⟨d,Y,U⟩:=under R X;rw[l]at U;obtain⟨F,rfl,Z⟩:=gY U;obtain⟨f,hf,rfl,rfl⟩:=M5 Z A;have J:=run_sizeOf (P:=P) (R _ _ B) w;simp[execOp,W,Instr.fieldAt,run_underlying Y,hf,G,Instr.sureAddr,fieldPlace,J,C]
 generalize hq:ev t x=q at *;cases q with
 | ptr y v c =>
  simp only[fE]at b;split at b
  ·rename_i r fs K l;split at b
   ·rename_i p j A;split at b
    ·rename_i φ B;split at b
     ·cases b
     ·rename_i C;simp only[ae5]at b;subst b;obtain⟨O,G⟩:=rn K;obtain⟨g,Q,m⟩:=D.2 r O G;refine aN (z _ fs p j φ l A B C m) (bn.dO H ⟨D.1,fun r' h1 h2=>⟨g,Q,by rw[qI,afh]⟩⟩)
    ·cases b
   ·cases b
  ·cases b
 | pm y v k =>
  simp only[fE]at b;split at b
  ·rename_i q fs K l;split at b
   ·rename_i p A;split at b
    ·rename_i φ B;split at b
     ·cases b
     ·rename_i C;simp only[ae5]at b;subst b;obtain⟨ry,y',s,n⟩:=q;obtain⟨O,G,_,_⟩:=ze K;obtain⟨g,Q,m⟩:=D.2 ry O G;refine aN (z _ fs p 0 φ l A B C m) (bn.dO H ⟨D.1,fun r' h1 h2=>⟨g,Q,by rw[qI,afw]⟩⟩)
    ·cases b
   ·cases b
  ·cases b
 | ip xs =>
  simp only[fE]at b;split at b
  ·rename_i fs l;split at b
   ·rename_i p j A;split at b
    ·rename_i φ B;split at b
     ·cases b
     ·rename_i C;simp only[ae5]at b;subst b;have m:RP w (Own M h blk) (.ip xs) (a.eval x):=D;generalize hu:a.eval x=u at *;cases m with
      | ip xs I us h6 h7 h8=>exact aN (z _ fs p j φ l A B C rfl) (bn.dO H (bQ (RP.S1 j h6 h7 h8)))
    ·cases b
   ·cases b
  ·cases b
 | _=>simp[fE]at b
def vk (g:iI P T) {x h:Operand} {j el n c:Nat} {τ φ:Ty} {k:IntKind} {i:Int} {l:Addr} (p:o.op=.indexAddr j x h) (q:T j=some τ) (b:τ.ds=.slice el) (r:T el=some φ)
  (s:0<=i∧i<n) (t:a.eval x=.slice (some l) n c) (e:a.eval h=.int k i):(execOp a.eval o).run P w=.ok (.value (.pointer (some (l.add (i.toNat*φ.size))))) w:=by
 obtain⟨d,u,m⟩:=under g q;rw[b]at m;have:=fS m;subst this;have f:=run_sizeOf (P:=P) (g _ _ r) w;simp only[execOp,p,Instr.indexAt,t,e,asIntOf,aft,Sem.run_pure,Result.andThen_ok,run_underlying u];rw[if_pos s];simp[f]
def Dd (f:iI P T) {x g:Operand} {h el n:Nat} {τ φ:Ty} {k:IntKind} {i:Int} {j:Addr} (m:o.op=.indexAddr h x g) (p:T h=some τ) (b:τ.ds=.arr n el) (q:T el=some φ)
  (r:0<=i∧i<n) (s:a.eval x=.pointer (some j)) (c:a.eval g=.int k i):(execOp a.eval o).run P w=.ok (.value (.pointer (some (j.add (i.toNat*φ.size))))) w:=by
 obtain⟨d,t,l⟩:=under f p;rw[b]at l;have:=zM l;subst this;have e:=run_sizeOf (P:=P) (f _ _ q) w;simp only[execOp,m,Instr.indexAt,s,c,asIntOf,aft,Sem.run_pure,Result.andThen_ok,run_underlying t,Instr.sureAddr];rw[if_pos r];simp[e]
def El (G:iI P T) (p:Inv N M L w0 blk V t h a w) {x F:Operand} {U:Nat} {τ:Ty} {E:cd} (H:o.op=.indexAddr U x F) (I:T U=some τ) (d:cy T τ h (ev t x) (ev t F)=some E) :
  dZ P o a w (bn N M L w0 V t h a e o.dst E):=by
 have B:=p.ev x;have J:=p.ev F;generalize ev t x=q at *;generalize ev t F=z at *;cases z with
 | int k i =>
  have j:=mD J;cases q with
  | sl nl tight n xs =>
   simp only[cy]at d;split at d
   ·rename_i el f;split at d
    ·rename_i φ C;split at d
     ·rename_i l;simp only[ae5]at d;subst d;have m:RP w (Own M h blk) (.sl nl tight n xs) (a.eval x):=B;generalize Y:a.eval x=u at *;cases m with
      | sl A c nl tight n xs us W X h3 h4 h5 h6 h7 h8 =>
       cases A with
       | none=>have:=(h4 rfl).1;omega
       | some ad=>exact aN (vk G H I f C l Y j) (bn.dO p (bQ (RP.S1 _ (fun K=>by
         obtain⟨b,o,Z,D⟩:=h6 K;cases Z;exact⟨b,o,rfl,D⟩) h7 h8)))
     ·cases d
    ·cases d
   ·cases d
  | buf y v s c n =>
   simp only[cy]at d;split at d
   ·rename_i r el O f;split at d
    ·rename_i φ C;split at d
     ·rename_i l;obtain⟨hs,l⟩:=l;simp only[ae5]at d;subst d;obtain⟨Q,R⟩:=rn O;rcases B.2 r Q R with⟨g,o',c',N',t',g0,g1,g2,g3,_⟩|⟨_,h0,_⟩
      ·have S:=(g2 (.inl (by omega))).1;subst S;exact aN (vk G H I f C l g1 j) (bn.dO p ⟨B.1,fun r' W X=>⟨g,g0,by rw[qI,hs,afh]⟩⟩)
      ·omega
     ·cases d
    ·cases d
   ·cases d
  | ptr y v c =>
   simp only[cy]at d;split at d
   ·rename_i r n el O f;split at d
    ·rename_i φ C;split at d
     ·rename_i l;simp only[ae5]at d;subst d;obtain⟨Q,R⟩:=cw O;obtain⟨g,hg,m⟩:=B.2 r Q R;exact aN (Dd G H I f C l m j) (bn.dO p ⟨B.1,fun r' W X=>⟨g,hg,by rw[qI,afh]⟩⟩)
     ·cases d
    ·cases d
   ·cases d
  | _=>simp[cy]at d
 | _=>cases q<;>simp[cy]at d
end
section
variable {P:Program} {T:Nat->Option Ty} {N:Nat} {M:Nat->Prop} {L:jM} {w0:World} {blk:Nat->Option (Nat×Nat)} {V:Nat->Nat->Prop} {t:Nat->D} {h:Nat->Option Row} {a:Act} {w:World} {e:Nat} {o:Oper} {Γ:Env}
def O6 (g:iI P T) {m a:Nat} {φ:Ty} (h:T m=some φ) {e:List D} {b:List Value} {d:D} {n:Nat->Prop} (p:b.length=e.length) (o:∀j x,e[j]? = some x->RP w n x (b.getD j undef)) (h3:∀x∈e,bz x=true)
  (c:Tq φ e a=some d):∃v,(part m b.toArray a).run P w=.ok v w∧RP w n d v:=by
 unfold Tq at c;split at c
 ·rename_i i;split at c
  ·rename_i q;simp only[ae5]at c;subst c;refine⟨.agg (b.toArray.extract a (a+φ.size)),by simp[part,mu (g _ _ h),i,run_sizeOf (g _ _ h)],?_⟩;have r:b.toArray.extract a (a+φ.size)=((b.drop a).take φ.size).toArray:=by
    apply Array.ext';simp[Array.toList_extract,List.extract]
   rw[r];refine .agg _ _ (by simp[p]) (fun j x f =>?_) (fun x s=>h3 x (afB (afD s)));rw[dt]at f;split at f
   ·rename_i k;have:=o _ x f;have t:((b.drop a).take φ.size).getD j undef=b.getD (a+j) undef:=by
     simp only[afz,dt,if_pos k]
    rw[t];exact this
   ·cases f
  ·cases c
 ·rename_i i;have l:φ.ds.tw=false:=by simpa using i
  have u:=(afp.1 c).1;have y:=o a d c;refine⟨b.getD a undef,?_,y⟩;have:b.toArray[a]? = some (b.getD a undef):=by
   simp[List.getD,ae9 (show a<b.length by omega)]
  simp[part,mu (g _ _ h),l,this]
def Qg (m:iI P T) (n:Inv N M L w0 blk V t h a w) {x:Operand} {p i:Nat} {τ:Ty} {E:cd} (s:o.op=.field p x i) (y:T p=some τ) (b:zY T τ i (ev t x)=some E):dZ P o a w (bn N M L w0 V t h a e o.dst E):=by
 have z:=n.ev x;generalize ev t x=q at *;cases q with
 | agg xs =>
  simp only[zY]at b;split at b
  ·rename_i J c;split at b
   ·rename_i K A B;split at b
    ·rename_i φ C;split at b
     ·rename_i d D;simp only[ae5]at b;subst b;have g:RP w (Own M h blk) (.agg xs) (a.eval x):=z;generalize G:a.eval x=u at *;cases g with
      | agg xs us h1 h2 h3 =>
       obtain⟨v,j,k⟩:=O6 m C h1 h2 h3 D;obtain⟨O,l,r⟩:=under m y;rw[c]at r;obtain⟨F,rfl,H⟩:=gY r;obtain⟨f,I,rfl,rfl⟩:=M5 H B;refine aN (v:=v) (w':=w) ?_ (bn.dO n (bQ k));simp[execOp,s,Instr.field,run_underlying l,I,G,asAgg,j]
     ·cases b
    ·cases b
   ·cases b
  ·cases b
 | _=>simp[zY]at b
def Qh (r:iI P T) (l:Inv N M L w0 blk V t h a w) {x m:Operand} {D:Nat} {τ:Ty} {E:cd} (F:o.op=.index D x m) (I:T D=some τ) (c:lu T τ (ev t x) (ev t m)=some E) :
  dZ P o a w (bn N M L w0 V t h a e o.dst E):=by
 have G:=l.ev x;have y:=l.ev m;generalize ev t x=q at *;generalize ev t m=z at *;obtain⟨U,g,p⟩:=under r I;cases z with
 | int k i =>
  have j:=mD y;cases q with
  | str s =>
   have J:=DR G;simp only[lu]at c;split at c
   ·rename_i f;rw[f]at p;have:=tj p;subst this;split at c
    ·rename_i K;split at c
     ·rename_i b O;simp only[ae5]at c;subst c;refine aN (v := .int .u8 b.toNat) (w':=w) ?_ (bn.dO l (bQ (.int _ _)));simp only[execOp,F,Instr.index,j,J,asIntOf,aft,Sem.run_pure,Result.andThen_ok,run_underlying g];rw[if_pos K,O];rfl
     ·cases c
    ·cases c
   ·cases c
  | agg xs =>
   simp only[lu]at c;split at c
   ·rename_i n el f;rw[f]at p;have:=zM p;subst this;split at c
    ·rename_i φ H;split at c
     ·rename_i Q;split at c
      ·rename_i d R;simp only[ae5]at c;subst c;have A:RP w (Own M h blk) (.agg xs) (a.eval x):=G;generalize S:a.eval x=u at *;cases A with
       | agg xs us h1 h2 h3 =>
        obtain⟨v,B,C⟩:=O6 r H h1 h2 h3 R;refine aN (v:=v) (w':=w) ?_ (bn.dO l (bQ C));simp only[execOp,F,Instr.index,j,S,asIntOf,aft,Sem.run_pure,Result.andThen_ok,run_underlying g];rw[if_pos Q];simp[run_sizeOf (r _ _ H),B]
      ·cases c
     ·cases c
    ·cases c
   ·cases c
  | _=>simp[lu]at c
 | _=>cases q<;>simp[lu]at c
def nT {d:D} {n:Nat} (h:rp d=some n):∃k,d=.int k n:=by
 cases d with
 | int k i =>
  simp only[rp]at h;split at h
  ·simp only[ae5]at h;exact⟨k,by rw[<- h];congr 1;omega⟩
  ·cases h
 | _=>simp[rp]at h
def run_sliceBound (k:IntKind) (n y:Nat) (c:BoundsCode) (a:n<=y):(Instr.sliceBound (.int k n) y c).run P w=.ok n w:=by
 have b:(n:Int)<=(y:Int):=by omega
 simp[Instr.sliceBound,asIntOf,b]
def u4 (b:Bool) {n cap l k:Nat} {f g:Option D} {vlo vhi:Option Value} (A:n<=cap) (c:yE n f g=some (l,k))
  (o:∀d,f=some d->∃v,vlo=some v∧∀k n,d=.int k n->v=.int k n) (h:f=none->vlo=none)
  (p:∀d,g=some d->∃v,vhi=some v∧∀k n,d=.int k n->v=.int k n) (i:g=none->vhi=none) :
  (Instr.sliceBounds b n cap vlo vhi none).run P w=.ok (l,k,cap) w∧l<=k∧k<=n:=by
 unfold yE at c;split at c
 ·rename_i j m r s;split at c
  ·rename_i a;simp only[ae5,Prod.mk.injEq]at c;obtain⟨rfl,rfl⟩:=c;refine⟨?_,a.1,a.2⟩;have t:(g=none∧vhi=none∧j=n)∨∃q,vhi=some (.int q (j:Nat)):=by
    cases g with
    | none=>simp at r;exact .inl ⟨rfl,i rfl,r.symm⟩
    | some d =>
     obtain⟨q,rfl⟩:=nT r;obtain⟨v,u,e⟩:=p _ rfl;exact .inr ⟨q,by rw[u,e _ _ rfl]⟩
   have x:(f=none∧vlo=none∧m=0)∨∃q,vlo=some (.int q (m:Nat)):=by
    cases f with
    | none=>simp at s;exact .inl ⟨rfl,h rfl,s.symm⟩
    | some d =>
     obtain⟨q,rfl⟩:=nT s;obtain⟨v,u,e⟩:=o _ rfl;exact .inr ⟨q,by rw[u,e _ _ rfl]⟩
   rcases t with⟨_,rfl,rfl⟩|⟨y,rfl⟩<;>rcases x with⟨_,rfl,rfl⟩|⟨z,rfl⟩
   ·simp[Instr.sliceBounds]
   ·simp[Instr.sliceBounds,run_sliceBound z m _ _ a.1]
   ·simp[Instr.sliceBounds,run_sliceBound y j cap _ (by omega)]
   ·simp[Instr.sliceBounds,run_sliceBound y j cap _ (by omega),run_sliceBound z m _ _ a.1]
  ·cases c
 ·cases c
def O2 (b:Bool) {n cap l k m:Nat} {e:Option D} {u:D} {vlo:Option Value} {vhi x:Value} {q:IntKind} (a:yE n e (some u)=some (l,k)) (A:x=.int q m) (f:m<=cap) (g:k<=m)
  (i:∀d,e=some d->∃v,vlo=some v∧∀k n,d=.int k n->v=.int k n) (h:e=none->vlo=none)
  (j:∀k n,u=.int k n->vhi=.int k n):(Instr.sliceBounds b n cap vlo (some vhi) (some x)).run P w=.ok (l,k,m) w∧l<=k∧k<=n:=by
 unfold yE at a;split at a
 ·rename_i y o B p;split at a
  ·rename_i c;simp only[ae5,Prod.mk.injEq]at a;obtain⟨rfl,rfl⟩:=a;refine⟨?_,c.1,c.2⟩;obtain⟨z,rfl⟩:=nT B;have r:=j _ _ rfl;subst r A;have s:(e=none∧vlo=none∧o=0)∨∃q,vlo=some (.int q (o:Nat)):=by
    cases e with
    | none=>simp at p;exact .inl ⟨rfl,h rfl,p.symm⟩
    | some d =>
     obtain⟨q,rfl⟩:=nT p;obtain⟨v,C,t⟩:=i _ rfl;exact .inr ⟨q,by rw[C,t _ _ rfl]⟩
   rcases s with⟨_,rfl,rfl⟩|⟨E,rfl⟩
   ·simp[Instr.sliceBounds,run_sliceBound q m cap _ f,run_sliceBound z y m _ g]
   ·simp[Instr.sliceBounds,run_sliceBound q m cap _ f,run_sliceBound z y m _ g,run_sliceBound E o _ _ c.1]
  ·cases a
 ·cases a
def Inv.evo (c:Inv N M L w0 blk V t h a w) (x:Option Operand):(∀d,x.map (Am.ev t)=some d->∃v,x.map a.eval=some v∧∀k n,d=.int k n->v=.int k n)∧(x.map (Am.ev t)=none->x.map a.eval=none):=by
 cases x with
 | none=>exact⟨fun d b=>by simp at b,fun _=>rfl⟩
 | some x =>
  refine⟨fun d b=>⟨a.eval x,rfl,fun k n e =>?_⟩,fun b=>by simp at b⟩;simp only[Option.map_some,ae5]at b;have:=c.ev x;rw[b,e]at this;exact mD this
def RP.cut {r:Nat->Prop} {A:Option Addr} {c n l k m s:Nat} {nl tight d a:Bool} {g:List D} (t:RP w r (.sl nl tight n g) (.slice A n c)) (u:l<=k) (v:k<=n) (y:k<=m) (z:m<=c) (B:a=true->m=k) (i:d=true->nl=true∧tight=true∧a=true) :
  RP w r (.sl d a (k-l) ((g.drop (l*s)).take ((k-l)*s))) (.slice (if m=l then A else A.map (·.add (l*s))) (k-l) (m-l)):=by
 cases t with
 | sl A c nl tight n g us h1 h2 h3 h4 h5 h6 h7 h8 =>
  refine .sl _ _ d a _ _ (fun j=>us (l*s+j)) (by omega) (by omega) (fun h =>?_) (fun h =>?_) (fun o=>by rw[B o]) (fun f =>?_) (fun j x e =>?_) (fun x C=>h8 x (afB (afD C)))
  ·obtain⟨E,F,G⟩:=i h;obtain⟨rfl,rfl⟩:=(h3 E).1 F;refine⟨fun _=>⟨by simp,by omega⟩,fun q=>by rw[G]at q;cases q⟩
  ·have H:A=none:=by
    cases A with
    | none=>rfl
    | some ad=>split at h<;>simp at h
   have:=h4 H;omega
  ·have p:g≠[]:=by rintro rfl;simp at f
   have I:l<k:=by
    rcases afE l k with h'|h'
    ·exact h'
    ·have:k-l=0:=by omega
     simp[this]at f
   obtain⟨b,J,rfl,K,L,M⟩:=h6 p;rw[if_neg (by omega)];refine⟨b,J+l*s,by simp[qI],K,L,fun j e =>?_⟩;simp only[aff,afg]at e;have:=M (l*s+j) (by omega);rw[<- afh]at this;exact this
  ·rw[dt]at e;split at e
   ·exact h7 _ x e
   ·cases e
def Qj (W:iI P T) (I:Inv N M L w0 blk V t h a w) {x:Operand} {X hi mx:Option Operand} {ty:Nat} {τ:Ty} {E:cd} (Y:o.op=.slice ty x X hi mx) (hτ:T ty=some τ)
  (b:gJ T τ h (ev t x) (X.map (ev t)) (hi.map (ev t)) (mx.map (ev t))=some E):dZ P o a w (bn N M L w0 V t h a e o.dst E):=by
 have Z:=I.ev x;obtain⟨j,p⟩:=I.evo X;obtain⟨z,J⟩:=I.evo hi;obtain⟨ag,S⟩:=I.evo mx;generalize ev t x=q at *;obtain⟨dd,B,U⟩:=under W hτ;have an:X.map a.eval=X.map a.eval:=rfl;cases q with
 | str s =>
  have hs:=DR Z;simp only[gJ]at b;split at b
  ·rename_i l k C f Q;rw[C]at U;have:=tj U;subst this;simp only[ae5]at b;subst b;obtain⟨d,_,_⟩:=u4 (P:=P) (w:=w) false (aeX _) Q j p z J;have i:=S f;refine aN (v := .string (s.extract l k)) (w':=w) ?_ (bn.dO I (bQ (.str _)));simp only[execOp,Y,Instr.sliceAt,aft,run_underlying B,Result.andThen_ok,Instr.slice,hs,i];simp[d]
  ·cases b
 | sl nl tight n xs =>
  have D:RP w (Own M h blk) (.sl nl tight n xs) (a.eval x):=Z;have ah:∃A c,a.eval x=.slice A n c∧n<=c∧(tight=true->c=n):=by
   generalize a.eval x=u at *;cases D with
   | sl A c nl tight n xs us h1 h2 h3 h4 h5 h6 h7 h8=>exact⟨A,c,rfl,h1,h5⟩
  obtain⟨A,c,hu,ai,K⟩:=ah;rw[hu]at D;simp only[gJ]at b;split at b
  ·rename_i el C;rw[C]at U;have:=fS U;subst this;split at b
   ·rename_i φ l k hφ Q;split at b
    ·rename_i f;simp only[ae5]at b;subst b;obtain⟨d,F,G⟩:=u4 (P:=P) (w:=w) true ai Q j p z J;have i:=S f;refine aN (v := .slice (if c=l then A else A.map (·.add (l*φ.size))) (k-l) (c-l)) (w':=w) ?_ (bn.dO I (bQ (D.cut F G (by omega) (aeX _) (fun ht =>?_) (fun R =>?_))))
     ·simp only[execOp,Y,Instr.sliceAt,aft,run_underlying B,Result.andThen_ok,Instr.slice,hu,i];simp[d,run_sizeOf (W _ _ hφ)]
     ·simp only[afx,beq_iff_eq]at ht;rw[K ht.1,ht.2]
     ·simp only[afx]at R;refine⟨R.1,R.2,?_⟩;have ao:c=0∧n=0:=by
       cases D with
       | sl A c nl tight n xs us h1 h2 h3 h4 h5 h6 h7 h8=>have:=((h3 R.1).1 R.2).2;omega
      simp only[afx,beq_iff_eq];exact⟨R.2,by omega⟩
    ·rename_i md f;split at b
     ·rename_i m hd hm aa;split at b
      ·rename_i H;simp only[ae5]at b;subst b;obtain⟨q,rfl⟩:=nT hm;obtain⟨vm,aj,ab⟩:=ag _ f;obtain⟨vh,ak,ad⟩:=z _ aa;rw[aa]at Q;obtain⟨d,F,G⟩:=O2 (P:=P) (w:=w) true (cap:=c) Q (ab _ _ rfl) (by omega) H.1 j p ad;refine aN (v := .slice (if m=l then A else A.map (·.add (l*φ.size))) (k-l) (m-l)) (w':=w) ?_ (bn.dO I (bQ (D.cut F G H.1 (by omega) (fun ht=>by simpa using ht) (fun R=>by cases R))));simp only[execOp,Y,Instr.sliceAt,aft,run_underlying B,Result.andThen_ok,Instr.slice,hu,aj,ak];simp[d,run_sizeOf (W _ _ hφ)]
      ·cases b
     ·cases b
   ·cases b
  ·cases b
 | buf y v s c0 n =>
  simp only[gJ]at b;split at b
  ·rename_i r el hl C f;rw[C]at U;have:=fS U;subst this;split at b
   ·rename_i φ l k hφ Q;split at b
    ·rename_i hs;obtain⟨hs,aq⟩:=hs;simp only[ae5]at b;subst b;obtain⟨hx,hv⟩:=cw hl;have i:=S f;rcases Z.2 r hx hv with⟨g,o',c,N',t',g0,g1,g2,g3,g4,g5⟩|⟨g0,g1,A,g2⟩
     ·obtain⟨d,F,G⟩:=u4 (P:=P) (w:=w) true g3 Q j p z J;refine aN (v := .slice (if c=l then (some ⟨g.1,o',none⟩) else (some ⟨g.1,o'+l*φ.size,none⟩)) (k-l) (c-l)) (w':=w) ?_ (bn.dO I ⟨Z.1,fun r' h1 h2 =>.inl ?_⟩)
      ·simp only[execOp,Y,Instr.sliceAt,aft,run_underlying B,Result.andThen_ok,Instr.slice,g1,i];simp[d,run_sizeOf (W _ _ hφ),qI]
      ·by_cases ae:c=l
       ·rw[if_pos ae];refine⟨g,o',c-l,N',t',g0,rfl,fun hh =>?_,by omega,by omega,g5⟩;rcases hh with hh|hh
        ·omega
        ·have O:l*s=0:=by omega
         have:l=0:=by
          rcases Nat.mul_eq_zero.1 O with h'|h'
          ·exact h'
          ·omega
         subst this;obtain⟨q1,q2⟩:=g2 (.inr (by omega));rw[Nat.sub_zero,O];exact⟨by omega,q2⟩
       ·rw[if_neg ae];refine⟨g,o'+l*φ.size,c-l,N',t',g0,rfl,fun hh =>?_,by omega,by omega,g5⟩;obtain⟨q1,q2⟩:=g2 (.inl (by omega));have ar:l*s<=c*s:=afF _ (by omega);rw[hs,Nat.sub_mul];exact⟨by omega,by omega⟩
     ·subst g1;obtain⟨d,F,G⟩:=u4 (P:=P) (w:=w) (cap:=0) true (aeX _) Q j p z J;have al:k=0:=by omega
      have O:l=0:=by omega
      subst al O;refine aN (v := .slice A 0 0) (w':=w) ?_ (bn.dO I ⟨Z.1,fun r' h1 h2 =>.inr ⟨g0,rfl,A,rfl⟩⟩);simp only[execOp,Y,Instr.sliceAt,aft,run_underlying B,Result.andThen_ok,Instr.slice,g2,i];simp[d,run_sizeOf (W _ _ hφ)]
    ·cases b
   ·cases b
  ·cases b
 | _=>simp[gJ]at b
end
section
variable {P:Program} {T:Nat->Option Ty} {N:Nat} {M:Nat->Prop} {L:jM} {w0:World} {blk:Nat->Option (Nat×Nat)} {V:Nat->Nat->Prop} {t:Nat->D} {h:Nat->Option Row} {a:Act} {w:World} {e:Nat} {o:Oper} {Γ:Env}
def Pg (b us:Array Value) (a:Nat) (d:a+us.size<=b.size) :
  us.zipIdx.foldl (fun cs (p:Value×Nat)=>cs.setIfInBounds (a+p.2) p.1) b=(b.toList.take a++us.toList++b.toList.drop (a+us.toList.length)).toArray:=by
 have key:∀(l:List Value) (k:Nat) (c:Array Value),a+k+l.length<=c.size ->
   (l.zipIdx k).foldl (fun cs (p:Value×Nat)=>cs.setIfInBounds (a+p.2) p.1) c=(c.toList.take (a+k)++l++c.toList.drop (a+k+l.length)).toArray:=by
  intro l
  induction l with
  | nil=>intro k c _;simp
  | cons v l e =>
   intro k c f;simp only[List.zipIdx_cons,List.foldl_cons];simp only[List.length_cons]at f;rw[e (k+1) _ (by simp;omega)];have:=list_seg_step c.toList (a+k) v l (by simp;omega);simp only[Array.toList_setIfInBounds];congr 1
 have:=key us.toList 0 b (by simp;omega);rw[afw]at this;rw[<- this,<- Array.foldl_toList,Array.toList_zipIdx]
def XO {w:World} {M:Nat->Prop} {cells e:List D} {a:Array Value} {f:List Value} {c:Nat} (g:c+e.length<=cells.length) (h:f.length=e.length) (k:cells.length<=a.size)
  (l:∀j d,cells[j]? = some d->bz d=true∧RP w M d (a.getD j undef)) (m:∀j d,e[j]? = some d->bz d=true∧RP w M d (f.getD j undef)) (j:Nat) (d:D) (i:(putCells cells c e)[j]? = some d) :
  bz d=true∧RP w M d ((a.toList.take c++f++a.toList.drop (c+f.length)).toArray.getD j undef):=by
 have:=spliced (cur:=a) (b:=0) g h (by omega) (fun j d i=>by rw[afH];exact l j d i) m j d i;simp only[afH]at this;exact this
def Ml {w:World} {M:Nat->Prop} {a:List D} {f:Nat->Value} (c:∀(j:Nat) d,a[j]? = some d->bz d=true∧RP w M d (f j)) (j:Nat) (d:D) (b:(a.map canon)[j]? = some d):bz d=true∧RP w M d (f j):=by
 rw[aeU,aeV]at b;obtain⟨x,e,rfl⟩:=b;obtain⟨g,h⟩:=c j x e;exact⟨by rw[mT];exact g,h.canon⟩
def Inv.jf (q:Inv N M L w0 blk V t h a w) {f:Nat->Option (Nat×Nat)} {r:Nat->Prop} : ∀ {parts:List (Nat×Operand)} {cells c:List D} {o:List Nat} {cur:Array Value},
  jf h f cells (parts.map fun p=>(p.1,Am.ev t p.2))=some (c,o)->pT M h blk o r->cells.length=cur.size->(∀j d,cells[j]? = some d->bz d=true∧RP w r d (cur.getD j undef)) ->
  ∃b,Instr.fill f cur (parts.map fun p=>(p.1,a.eval p.2))=some b∧c.length=b.size∧c.length=cells.length∧∀j d,c[j]? = some d->bz d=true∧RP w r d (b.getD j undef)
 | [],cells,c,o,cur,e,s,m,u=>by
  simp only[afI,Am.jf,ae5,Prod.mk.injEq]at e;obtain⟨rfl,rfl⟩:=e;exact⟨cur,rfl,m,rfl,u⟩
 | (i,x)::parts,cells,c,o,cur,e,s,m,u=>by
  simp only[ae2,Am.jf]at e;split at e
  ·rename_i g n z B C E;split at e
   ·rename_i F;split at e
    ·rename_i A G H;simp only[ae5,Prod.mk.injEq]at e;obtain⟨rfl,rfl⟩:=e;obtain⟨I,J⟩:=q.fC E s.left (q.ev x);have v:(a.eval x).cells.toList.length=z.length:=by simp only[Array.length_toList];exact I
     have k:g+z.length<=cells.length:=by omega
     obtain⟨b,K,O,P,Q⟩:=q.jf (cur:=(cur.toList.take g++(a.eval x).cells.toList++cur.toList.drop (g+(a.eval x).cells.toList.length)).toArray) H s.right
      (by rw[jx k];simp;omega)
      (fun j d y=>XO k v (by omega) u (fun j d y=>by simpa [List.getD] using J j d y) j d y)
     refine⟨b,?_,O,by rw[P,jx k],Q⟩;rw[<- K];simp only[ae2,Instr.fill,C];have l:(decide ((a.eval x).cells.size≠n)||decide (g+(a.eval x).cells.size>cur.size))=false:=by simp;omega
     rw[if_neg (by simpa using l)];congr 1;exact Pg cur (a.eval x).cells g (by omega)
    ·cases e
   ·cases e
  ·cases e
def nn (b:iI P T):∀(F:List Field),(∀f∈F,(T f.type).isSome=true)->(F.mapM fun f=>(do pure (f.offset,<- Go.sizeOf f.type):Sem (Nat×Nat))).run P w=.ok (F.map fun f=>(f.offset,((T f.type).map (·.size)).getD 0)) w
 | [],_=>by simp
 | f::F,hF=>by
  have c:=hF f (by simp);cases a:T f.type with
  | none=>simp[a]at c
  | some φ =>
   have d:=nn b F (fun g e=>hF g (by simp[e]));simp only[List.mapM_cons,aft,run_sizeOf (b _ _ a),Result.andThen_ok,Sem.run_pure,ae2,a,Option.map_some,Option.getD_some];rw[d];rfl
def yH (n:iI P T) (q:Inv N M L w0 blk V t h a w) {r:Nat} {parts:Array (Nat×Operand)} {τ:Ty} {E:cd} (S:o.op=.build r parts) (I:T r=some τ) (k:gI T τ h (parts.toList.map fun p=>(p.1,ev t p.2))=some E) :
  dZ P o a w (bn N M L w0 V t h a e o.dst E):=by
 obtain⟨Z,s,J⟩:=under n I;unfold gI at k;split at k
 ·rename_i U u;rw[u]at J;obtain⟨F,rfl,K⟩:=gY J;split at k
  ·rename_i b;simp only[afx]at b;split at k
   ·rename_i x m W;simp only[ae5]at k;subst k;obtain⟨z,y,A⟩:=jJ (n r τ I) w;obtain⟨c,O,i2,i3,Q⟩:=q.jf W (q.fF m) (cur:=τ.zero.toArray) (by simp) (fun j d l=>rK τ.zero b.2 j d l);have g:∀f∈F.toList,(T f.type).isSome=true:=by
     intro f B;have:=b.1;rw[ae7]at this;exact this (f.type,f.offset) (by rw[<- K];exact aeW.2 ⟨f,B,rfl⟩)
    have C:(fun i=>(F.map fun f=>(f.offset,((T f.type).map (·.size)).getD 0))[i]?)=fieldAt T U:=by
     funext i;simp only[fieldAt,<- K,aeU,Array.getElem?_map];rw[afK];cases D:F[i]? with
     | none=>rfl
     | some f =>
      have:=g f (by simpa using afL D);cases R:T f.type with
      | none=>simp[R]at this
      | some φ=>simp[R]
    refine aN (v := .agg c) (w':=w) ?_ ?_
    ·have X:=nn (P:=P) (w:=w) n F.toList g;have G:(F.mapM fun f=>(do pure (f.offset,<- Go.sizeOf f.type):Sem (Nat×Nat))).run P w=.ok (F.map fun f=>(f.offset,((T f.type).map (·.size)).getD 0)) w:=by
      rw[afM,Sem.run_map,X];simp only[Result.andThen_ok];congr 1;apply Array.ext';simp
     rw[<- C]at O;simp only[execOp,S,Instr.build,aft,y,Result.andThen_ok,run_underlying s,G,A,afN];rw[O];rfl
    ·have:(⟨.agg x,jw h m⟩:cd)=⟨.agg x,jw h m⟩:=rfl;have H:c=c.toList.toArray:=by simp
     rw[H];refine bn.Kp q m (.agg x _ (by simp;omega) (fun j d l =>?_) (fun d Y =>?_))
     ·have:=(Q j d l).2;simpa [List.getD] using this
     ·obtain⟨j,l⟩:=afi Y;exact (Q j d l).1
   ·cases k
  ·cases k
 ·cases k
def Wl (C:iI P T) (H:Inv N M L w0 blk V t h a w) {q:Nat->Bool} {ty:Nat} {parts:Array (Nat×Operand)} {τ:Ty} {E:cd} (ho:o.op=.build ty parts) (I:T ty=some τ) (k:qP q T τ h o.dst (parts.toList.map fun p=>(p.1,ev t p.2))=some E) :
  dZ P o a w (bn N M L w0 V t h a e o.dst E):=by
 unfold qP at k;split at k
 ·split at k
  ·exact yH C H ho I k
  ·split at k
   ·rename_i fs x v s o' n J b;split at k
    ·rename_i y;obtain⟨k1,k2,k3,k4⟩:=y;simp only[ae5]at k;subst k;obtain⟨dd,K,hc⟩:=under C I;rw[J]at hc;obtain⟨F,rfl,hF⟩:=gY hc;obtain⟨u,O,B⟩:∃u,parts.toList=[u]∧(u.1,ev t u.2)=(0,D.buf x v s o' n):=by
      cases m:parts.toList with
      | nil=>rw[m]at b;cases b
      | cons u l =>
       rw[m]at b;simp only[ae2,afk,List.map_eq_nil_iff]at b;exact⟨u,by rw[b.2],b.1⟩
     simp only[Prod.mk.injEq]at B;have Z:=H.ev u.2;rw[B.2]at Z;have Q:∃r,oS h x v=some r:=by
      simp only[alive]at k1;exact Option.isSome_iff_exists.1 k1
     obtain⟨r,Q⟩:=Q;obtain⟨hx,hv⟩:=rn Q;obtain⟨A,c,hu⟩:∃A c,a.eval u.2=.slice A n c:=by
      rcases Z.2 r hx hv with⟨g,ag,c,N',t',g0,g1,_⟩|⟨_,g1,A,g2⟩
      ·exact⟨_,_,g1⟩
      ·subst g1;exact⟨_,_,g2⟩
     obtain⟨z,R,S⟩:=jJ (C ty τ I) w;have j:∀f∈F.toList,(T f.type).isSome=true:=by
      intro f U;rw[ae7]at k2;exact k2 (f.type,f.offset) (by rw[<- hF];exact aeW.2 ⟨f,U,rfl⟩)
     have m:(fun i=>(F.map fun f=>(f.offset,((T f.type).map (·.size)).getD 0))[i]?)=fieldAt T fs:=by
      funext i;simp only[fieldAt,<- hF,aeU,Array.getElem?_map];rw[afK];cases W:F[i]? with
      | none=>rfl
      | some f =>
       have:=j f (by simpa using afL W);cases hφ:T f.type with
       | none=>simp[hφ]at this
       | some φ=>simp[hφ]
     have i1:Instr.fill (fieldAt T fs) τ.zero.toArray (parts.toList.map fun p=>(p.1,a.eval p.2))=some #[a.eval u.2]:=by
      rw[O];simp only[ae2,afI,Instr.fill,B.1,k3,hu];obtain⟨G,X⟩:∃G,τ.zero=[G]:=by
       match ad:τ.zero,k4 with
       | [G],_=>exact⟨G,rfl⟩
      rw[X];rfl
     refine aN (v := .agg #[a.eval u.2]) (w':=w) ?_ (bn.dO H ⟨_,rfl,by rw[hu];rfl,Z⟩);have hm:=nn (P:=P) (w:=w) C F.toList j;have Y:(F.mapM fun f=>(do pure (f.offset,<- Go.sizeOf f.type):Sem (Nat×Nat))).run P w=.ok (F.map fun f=>(f.offset,((T f.type).map (·.size)).getD 0)) w:=by
      rw[afM,Sem.run_map,hm];simp only[Result.andThen_ok];congr 1;apply Array.ext';simp
     rw[<- m]at i1;simp only[execOp,ho,Instr.build,aft,R,Result.andThen_ok,run_underlying K,Y,S,afN];rw[i1];rfl
    ·cases k
   ·rename_i fs x v s o' n J b;split at k
    ·rename_i y;obtain⟨k1,k2,k3,k4⟩:=y;simp only[ae5]at k;subst k;obtain⟨dd,K,hc⟩:=under C I;rw[J]at hc;obtain⟨F,rfl,hF⟩:=gY hc;obtain⟨u,O,B⟩:∃u,parts.toList=[u]∧(u.1,ev t u.2)=(0,D.box1 x v s o' n):=by
      cases m:parts.toList with
      | nil=>rw[m]at b;cases b
      | cons u l =>
       rw[m]at b;simp only[ae2,afk,List.map_eq_nil_iff]at b;exact⟨u,by rw[b.2],b.1⟩
     simp only[Prod.mk.injEq]at B;have Z:=H.ev u.2;rw[B.2]at Z;obtain⟨u',hu,aa,ae⟩:=Z;obtain⟨z,R,S⟩:=jJ (C ty τ I) w;have j:∀f∈F.toList,(T f.type).isSome=true:=by
      intro f U;rw[ae7]at k2;exact k2 (f.type,f.offset) (by rw[<- hF];exact aeW.2 ⟨f,U,rfl⟩)
     have m:(fun i=>(F.map fun f=>(f.offset,((T f.type).map (·.size)).getD 0))[i]?)=fieldAt T fs:=by
      funext i;simp only[fieldAt,<- hF,aeU,Array.getElem?_map];rw[afK];cases W:F[i]? with
      | none=>rfl
      | some f =>
       have:=j f (by simpa using afL W);cases hφ:T f.type with
       | none=>simp[hφ]at this
       | some φ=>simp[hφ]
     have i1:Instr.fill (fieldAt T fs) τ.zero.toArray (parts.toList.map fun p=>(p.1,a.eval p.2))=some #[u']:=by
      rw[O];simp only[ae2,afI,Instr.fill,B.1,k3,hu];obtain⟨G,X⟩:∃G,τ.zero=[G]:=by
       match ad:τ.zero,k4 with
       | [G],_=>exact⟨G,rfl⟩
      rw[X];rfl
     refine aN (v := .agg #[u']) (w':=w) ?_ (bn.dO H ⟨u',rfl,aa,ae⟩);have hm:=nn (P:=P) (w:=w) C F.toList j;have Y:(F.mapM fun f=>(do pure (f.offset,<- Go.sizeOf f.type):Sem (Nat×Nat))).run P w=.ok (F.map fun f=>(f.offset,((T f.type).map (·.size)).getD 0)) w:=by
      rw[afM,Sem.run_map,hm];simp only[Result.andThen_ok];congr 1;apply Array.ext';simp
     rw[<- m]at i1;simp only[execOp,ho,Instr.build,aft,R,Result.andThen_ok,run_underlying K,Y,S,afN];rw[i1];rfl
    ·cases k
   ·unfold cE at k;split at k
    ·rename_i cs hw hb;simp only[ae5]at k;subst k;refine (yH (e:=e) C H ho I hb).mono fun v w' hA =>?_;obtain⟨ab,h1,h2⟩:=hA;exact⟨ab,h1,bQ (RP.iQ (d := .agg cs) h2)⟩
    ·cases k
 ·exact yH C H ho I k
def w9 (zs:List Value) (n:Nat) (j:Nat) (b:j<n*zs.length):(((Array.range (n*zs.length)).map fun i=>zs.toArray[i % zs.toArray.size]!).getD j undef)=zs.getD (j % zs.length) undef:=by
 have c:0<zs.length:=by
  rcases afe zs.length with a|a
  ·rw[a]at b;omega
  ·exact a
 have d:j % zs.length<zs.length:=afO _ c;simp[b,d,List.getD]
def Dw (a:List D):∀(n j:Nat) (d:D),(n9 n a)[j]? = some d->j<n*a.length∧a[j % a.length]? = some d
 | 0,j,d,h=>by simp[n9]at h
 | n+1,j,d,h=>by
  have e:n9 (n+1) a=a++n9 n a:=by simp[n9,List.replicate_succ]
  rw[e]at h
  by_cases b:j<a.length
  ·rw[afQ b]at h;refine⟨?_,by rw[afR b];exact h⟩;rw[afS];omega
  ·rw[afT (by omega)]at h;obtain⟨f,c⟩:=Dw a n (j-a.length) d h;refine⟨by rw[afS];omega,?_⟩;rw[Nat.mod_eq_sub_mod (by omega)];exact c
def sd (n:Nat) (a:List D):(n9 n a).length=n*a.length:=by
 simp[n9]
def ue {d e s n c:Nat} {g:Nat×Nat} {f:Nat} {b:Array Value} {h:Nat->Nat->Prop} {i:Nat->Option Row} {a:Nat->Option (Nat×Nat)} (j:h d e) (k:a d=some g) (l:w.heap[g.1]? = some (.cells b f (0,0))) (m:n<=c) (o:c<=maxLen) (p:c*s+g.2=b.size) :
  RT w M i a h (.buf d e s 0 n) (.slice (some ⟨g.1,g.2,none⟩) n c) :=
 ⟨j,fun _ _ _ =>.inl ⟨g,g.2,c,b.size,f,k,rfl,fun _=>⟨rfl,p⟩,m,o,by simp[World.shape?,l]⟩⟩
def Rq (n:Nat) (a:List D):n9 n (a.map canon)=(n9 n a).map canon:=by simp[n9,List.map_flatten]
def CY (u:iI P T) (y:Inv N M L w0 blk V t h a w) {A b d:Nat} {parts:Array (Nat×Operand)} {τ:Ty} {E:cd} (Y:o.op=.buildSlice A b parts) (R:o.dst=some d) (Z:js N V d e) (hτ:T A=some τ)
  (c:ef T τ h e d b (parts.toList.map fun p=>(p.1,ev t p.2))=some E):dZ P o a w (bn N M L w0 V t h a e o.dst E):=by
 obtain⟨dd,B,S⟩:=under u hτ;unfold ef at c;split at c
 ·rename_i el C;rw[C]at S;have:=fS S;subst this;split at c
  ·rename_i φ U;split at c
   ·rename_i k;obtain⟨c1,c2,c3,D⟩:=k;split at c
    ·rename_i F s hf;split at c
     ·rename_i aa;simp only[ae5]at c;subst c;obtain⟨z,G,H⟩:=jJ (u el φ U) w;have n:(b*φ.size=0->((Array.range (b*φ.size)).map fun i=>φ.zero.toArray[i % φ.zero.toArray.size]!) = #[]):=by intro m;simp[m]
      obtain⟨cur',I,i2,i3,i4⟩:=y.jf hf (y.fF s) (cur:=(Array.range (b*φ.size)).map fun i=>φ.zero.toArray[i % φ.zero.toArray.size]!)
       (by rw[sd];simp[D]) (fun j x J=>by
        obtain⟨W,X⟩:=Dw _ _ _ _ J;simp only[afq]at W X;rw[<- D,w9 φ.zero b j W];have:=rK (w:=w) (M:=Own M (aW h (jw h s)) blk) φ.zero c3 _ x X;simpa [List.getD] using this)
      have K:=(y.freeze s).alloc (d:=d) (e:=e) (ty:=el) (lst:=true) (cs:=F.map canon) (vs:=cur') Z (by rw[afq];omega) (fun j x J=>Ml (f:=fun j=>cur'.getD j undef) i4 j x J);refine aN (v := .slice (some ⟨w.heap.size,0,none⟩) b b) (w':=w.alloc (.cells cur' el)) ?_ ⟨bY blk d (some (w.heap.size,0)),?_,?_⟩
      ·have q:¬b*φ.size>2 ^ 24:=by omega
       simp only[execOp,Y,Instr.buildSlice,aft,run_underlying B,Result.andThen_ok,run_sizeOf (u _ _ U),if_neg q]
       by_cases m:b*φ.size=0
       ·have l:=n m;rw[l]at I;have O:((Array.range (b*φ.size)).map fun i=>(#[]:Array Value)[i % (#[]:Array Value).size]!) = #[]:=by simp[m]
        simp only[if_pos m,aft,Sem.run_pure,Result.andThen_ok,afN];rw[O,I];simp[newRow]
       ·simp only[if_neg m,aft,G,Result.andThen_ok,Sem.run_pure,H,afN];rw[I];simp[newRow]
      ·show Inv _ _ _ _ _ _ _ (aW h (jw h s++[(d,some ⟨e,el,F.map canon,false,true,false⟩)])) _ _;rw[gH];refine K.weaken fun x v Q =>?_;rcases Q with Q|⟨rfl,rfl⟩
       ·exact .inl Q
       ·exact .inr ⟨R,rfl⟩
      ·have r:cur'.size=b*φ.size:=by
        rw[<- i2,i3,sd];simp[D]
       refine ue (g:=(w.heap.size,0)) (.inr ⟨R,rfl⟩) (aA _ _ _) (heap_alloc_new w _) (aeX _) ?_ (by rw[r];simp);have:b<=b*φ.size:=Nat.le_mul_of_pos_right _ c2;simp only[maxLen];omega
     ·cases c
    ·cases c
   ·cases c
  ·cases c
 ·cases c
def xD {a:Nat->Prop} {d:D} {n:Nat} {u:Value} (b:rp d=some n) (c:RT w a h blk V d u):∃k,u=.int k n:=by
 obtain⟨k,rfl⟩:=nT b;exact⟨k,mD c⟩
def Uc (O:iI P T) (y:Inv N M L w0 blk V t h a w) {u d:Nat} {l c:Operand} {τ:Ty} {E:cd} (Z:o.op=.makeSlice u l c) (Q:o.dst=some d) (hV:js N V d e) (hτ:T u=some τ)
  (b:sa T τ e d (ev t l) (ev t c)=some E):dZ P o a w (bn N M L w0 V t h a e o.dst E):=by
 have A:=y.ev l;have B:=y.ev c;obtain⟨dd,C,R⟩:=under O hτ;unfold sa at b;split at b
 ·rename_i el D;rw[D]at R;have:=fS R;subst this;split at b
  ·rename_i φ n k hφ hn hk;split at b
   ·rename_i q;obtain⟨F,S,c3,c4,c5,U⟩:=q;simp only[ae5]at b;subst b;obtain⟨q1,hl⟩:=xD hn A;obtain⟨q2,G⟩:=xD hk B;obtain⟨d',i,z,g1,g2,g3,W,g5,g6,g7⟩:=(O el φ hφ).get;have hb:(i.bytes:Int)*(k:Int)<=281474976710656:=by
     have:((i.bytes*k:Nat):Int)<=281474976710656:=by
      rw[g5,afU];omega
     rwa [afV]at this
    have r:(k:Int)<=9223372036854775807:=by
     simp only[maxLen]at S;omega
    have p:=run_make (P:=P) w u el i z C g3 g6 q1 q2 n k (by omega) (by omega) hb r;simp only[Int.toNat_natCast]at p;have m:∀j x,(n9 n (φ.zero.map oF))[j]? = some x->bz x=true∧RP w (Own M h blk) x ((madeCells z.cells (k*i.size)).getD j undef):=by
     intro j x H;obtain⟨X,Y⟩:=Dw _ _ _ _ H;simp only[afq]at X Y;have I:j<k*φ.zero.length:=ae0 X (afF _ F);have:=rK (w:=w) (M:=Own M h blk) φ.zero c5 _ x Y;refine⟨this.1,?_⟩;have he:(madeCells z.cells (k*i.size)).getD j undef=φ.zero.toArray.getD (j % φ.zero.length) undef:=by
      rw[g7,W,<- U];have:=w9 φ.zero k j I;simpa [madeCells,List.getD] using this
     rw[he];exact this.2
    have s:(madeCells z.cells (k*i.size)).size=k*φ.size:=by simp[madeCells,W]
    have J:=y.alloc (d:=d) (e:=e) (ty:=el) (lst:=true) (cs:=n9 n ((φ.zero.map oF).map canon)) (vs:=madeCells z.cells (k*i.size)) hV (by rw[sd,s];simp only[afq,U];exact afF _ F) (fun j x H=>Ml (f:=fun j=>(madeCells z.cells (k*i.size)).getD j undef) m j x (by rw[<- Rq];exact H));refine aN (v := .slice (some ⟨w.heap.size,0,none⟩) n k) (w':=w.alloc (.cells (madeCells z.cells (k*i.size)) el)) ?_ ⟨bY blk d (some (w.heap.size,0)),?_,?_⟩
    ·simp[execOp,Z,hl,G,p]
    ·refine J.weaken fun x v K =>?_;rcases K with K|⟨rfl,rfl⟩
     ·exact .inl K
     ·exact .inr ⟨Q,rfl⟩
    ·exact ue (g:=(w.heap.size,0)) (.inr ⟨Q,rfl⟩) (aA _ _ _) (heap_alloc_new w _) F S (by rw[s];simp)
   ·cases b
  ·cases b
 ·cases b
def XD {a:BinOp} {ty:Nat} {k:IntKind} {x y:Int} {d:D} (c:lL a=false) (h:iB a k x y=some d):∃v,(binOp a ty (.int k x) (.int k y)).run P w=.ok v w∧RP w M d v:=by
 cases a with
 | shl=>simp[lL]at c
 | shr=>simp[lL]at c
 | quo =>
  simp only[iB]at h;split at h
  ·cases h
  ·rename_i b;simp only[ae5]at h;subst h;exact⟨_,by simp[binOp,Op.intDiv,b],.int _ _⟩
 | rem =>
  simp only[iB]at h;split at h
  ·cases h
  ·rename_i b;simp only[ae5]at h;subst h;exact⟨_,by simp[binOp,Op.intDiv,b],.int _ _⟩
 | add=>simp only[iB,ae5]at h;subst h;exact⟨_,by simp[binOp,Op.intArith],.int _ _⟩
 | sub=>simp only[iB,ae5]at h;subst h;exact⟨_,by simp[binOp,Op.intArith],.int _ _⟩
 | mul=>simp only[iB,ae5]at h;subst h;exact⟨_,by simp[binOp,Op.intArith],.int _ _⟩
 | and=>simp only[iB,ae5]at h;subst h;exact⟨_,by simp[binOp,Op.intBits,D0],.int _ _⟩
 | or=>simp only[iB,ae5]at h;subst h;exact⟨_,by simp[binOp,Op.intBits,D0],.int _ _⟩
 | xor=>simp only[iB,ae5]at h;subst h;exact⟨_,by simp[binOp,Op.intBits,D0],.int _ _⟩
 | andNot=>simp only[iB,ae5]at h;subst h;exact⟨_,by simp[binOp,Op.intBits,D0],.int _ _⟩
 | eql=>simp only[iB,ae5]at h;subst h;exact⟨_,by simp[binOp,Op.intCmp],.bool _⟩
 | neq=>simp only[iB,ae5]at h;subst h;exact⟨_,by simp[binOp,Op.intCmp],.bool _⟩
 | lss=>simp only[iB,ae5]at h;subst h;exact⟨_,by simp[binOp,Op.intCmp],.bool _⟩
 | leq=>simp only[iB,ae5]at h;subst h;exact⟨_,by simp[binOp,Op.intCmp],.bool _⟩
 | gtr=>simp only[iB,ae5]at h;subst h;exact⟨_,by simp[binOp,Op.intCmp],.bool _⟩
 | geq=>simp only[iB,ae5]at h;subst h;exact⟨_,by simp[binOp,Op.intCmp],.bool _⟩
def Rt {a:BinOp} {ty:Nat} {k k':IntKind} {x y:Int} {d:D} (b:lL a=true) (h:zp a k x y=some d):∃v,(binOp a ty (.int k x) (.int k' y)).run P w=.ok v w∧RP w M d v:=by
 unfold zp at h;split at h
 ·cases h
 ·rename_i c;cases a<;>simp only[lL,afv]at b<;>simp only[ae5]at h<;>subst h<;>exact⟨_,by simp[binOp,Op.shift,c],.int _ _⟩
def XF {a:BinOp} {ty:Nat} {x y:ByteArray} {d:D} (h:Hw a x y=some d):∃v,(binOp a ty (.string x) (.string y)).run P w=.ok v w∧RP w M d v:=by
 cases a with
 | add =>
  simp only[Hw]at h;split at h
  ·cases h
  ·rename_i b;simp only[ae5]at h;subst h;refine⟨_,?_,.str _⟩;simp only[binOp,Op.stringOp];rw[if_neg b];rfl
 | eql=>simp only[Hw,ae5]at h;subst h;exact⟨_,by simp[binOp,Op.stringOp],.bool _⟩
 | neq=>simp only[Hw,ae5]at h;subst h;exact⟨_,by simp[binOp,Op.stringOp],.bool _⟩
 | lss=>simp only[Hw,ae5]at h;subst h;exact⟨_,by simp[binOp,Op.stringOp],.bool _⟩
 | leq=>simp only[Hw,ae5]at h;subst h;exact⟨_,by simp[binOp,Op.stringOp],.bool _⟩
 | gtr=>simp only[Hw,ae5]at h;subst h;exact⟨_,by simp[binOp,Op.stringOp],.bool _⟩
 | geq=>simp only[Hw,ae5]at h;subst h;exact⟨_,by simp[binOp,Op.stringOp],.bool _⟩
 | _=>simp[Hw]at h
end
end Go.Proofs.YtekhokjkphgphaaGreat.Am
