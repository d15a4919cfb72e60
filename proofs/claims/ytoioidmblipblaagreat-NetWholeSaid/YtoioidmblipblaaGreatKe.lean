import Derived.Test.YtoioidmblipblaaGreatKd
set_option linter.unusedSimpArgs false
set_option linter.unusedVariables false
noncomputable section
open Go.Proofs.Tryz
namespace Go.Proofs.YtoioidmblipblaaGreat.Am
open Go.RowKit Go.Proofs.YtoioidmblipblaaGreat.P
def FD {α:Type} (e:jf α):jf (List α):=⟨fun l=>[.nx l.length (ab e l)],1,fun _=>rfl,by decide,fun x y h=>by
 simp only[ag0,D.nx.injEq,and_true]at h;exact tD e _ _ h.2⟩
theorem uZ {α:Type} (e:jf α) (l:List α):(FD e).cells l=[.nx l.length (ab e l)]:=ajz
theorem xK {α:Type} (e:jf α):(FD e).size=1:=ajz
section
variable {α:Type} (E:jf α) {l:List α} {i:Int} {x x':α}
theorem Ko (cs:List D) (o:Nat) (d:D) (h:o<cs.length):(putCells cs o [d]).length=cs.length:=by
 simp[putCells];omega
theorem Kp (cs:List D) (o:Nat) (d O:D) (h:o<cs.length):putCells (putCells cs o [d]) o [O]=putCells cs o [O]:=by
 unfold putCells;have h1:(cs.take o).length=o:=by simp;omega
 have h2:(cs.take o++[d]++cs.drop (o+[d].length)).take o=cs.take o:=by
  rw[ah0,ah4 (by omega),ah5 (by omega)]
 have h3:(cs.take o++[d]++cs.drop (o+[d].length)).drop (o+[O].length)=cs.drop (o+[O].length):=by
  rw[ah1 (by simp;omega),aiu (by simp;omega),air];rfl
 rw[h2,h3]
theorem Ka (fo:Nat) (h:P.idx l i=some x) (O:fo+1<=E.size):i.toNat*E.size+fo<(ab E l).length:=by
 have:=sd E h;rw[bR];omega
theorem YV (fo:Nat) (d U:D) (h:P.idx l i=some x) (X:E.cells x'=putCells (E.cells x) fo [U]) (O:fo+1<=E.size):putCells (putCells (ab E l) (i.toNat*E.size+fo) [d]) (i.toNat*E.size+fo) [U]=ab E (l.set i.toNat x'):=by
 rw[Kp _ _ _ _ (Ka E fo h O)];exact fW E fo [U] h X O
theorem aa8 (fo:Nat) (d:D) (h:P.idx l i=some x) (O:fo+1<=E.size):i.toNat*E.size+fo+1<=(putCells (ab E l) (i.toNat*E.size+fo) [d]).length:=by
 rw[Ko _ _ _ (Ka E fo h O)];exact Ka E fo h O
end
theorem IM {t s nv n o:Nat} {fz:Bool} {cs xs cs':List D} : zN t s nv fz cs o (some ⟨nv,t,cs',fz,true,false⟩) (some (.nx n xs))=[.nr t s nv (putCells cs o [.nx n cs'])]:=by
 simp[zN,Iu]
theorem IL {t s nv n o:Nat} {fz:Bool} {cs xs:List D} : zN t s nv fz cs o none (some (.nx n xs))=[.nr t s nv (putCells cs o [.und])]:=ajz
theorem aa0 {α:Type} {E:jf α} {T:Nat->Option Ty} {el B ty' s f:Nat} {φ:Ty} {k:IntKind} {n:Int} {z:α} {m:List α} (Y:T el=some φ) (Z:lM φ f=E.cells z) (hs:φ.size=E.size) (hd:(φ.zero.map lN).all fa=true) (hl:φ.zero.length=φ.size) (hn:YE ((φ.zero.map lN).drop f).head? = true) (hB:φ.bytes=B) (h:H5 B n n z=some m)
  : ∀(b c:Nat) (z0:List Value) (q:Bool) (e d:Nat),d<1000000->yM T ⟨.slice el,b,c,z0,q⟩ e d ty' s f (.int k n) (.int k n)=some ⟨.buf d e φ.size 0 m.length,[(d,some ⟨e,el,[.nr ty' s (4*e+2) (ab E m)],false,true,true⟩)]⟩:=by
 intro b c z0 q e d U;obtain⟨h1,h2,h3,h4,h5⟩:=mk_one E h;have O:nc (.int k n)=some n.toNat:=by simp[nc,h1]
 have X:=E.pos;unfold yM;simp only[Y,O];rw[if_pos ⟨agC _,by rw[h2];exact h3,by rw[h2,hB];exact h5,by omega,hd,hl,by rw[cv];exact U,hn⟩,Z,h2,h4]
theorem GU {k:IntKind} {n:Int} : fa (.int k n)=true:=ajz
theorem CT {b:Bool} : fa (.bool b)=true:=ajz
theorem GV {b:ByteArray} : fa (.str b)=true:=ajz
theorem L2 {a b:Bool} {n:Nat} {xs:List D} : fa (.sl a b n xs)=true:=ajz
def e9 {α β:Type} (A:jn α) (F:α->Option β) (R:β->Nat×Nat×Nat×Nat×Nat×List D):List D->Option (Nat×Nat×Nat×Nat×Nat×List D):=fun ds=>open Classical in if h:∃a,A.ds a=ds then (F (Classical.choose h)).map R else none
theorem Yw {α β:Type} {A:jn α} {F:α->Option β} {R:β->Nat×Nat×Nat×Nat×Nat×List D} {ds:List D} {q:Nat×Nat×Nat×Nat×Nat×List D} (h:e9 A F R ds=some q):∃a r,ds=A.ds a∧F a=some r∧q=R r:=by
 unfold e9 at h;split at h
 ·rename_i he;rw[agA]at h;obtain⟨r,h1,h2⟩:=h;exact⟨_,r,(Classical.choose_spec he).symm,h1,h2.symm⟩
 ·cases h
structure FOk (P:Program) (f:FuncId) (p:List D->Option (Nat×Nat×Nat×Nat×Nat×List D)):Prop where
 callable:dX P f
 calls:∀args ty t s S n cs,p args=some (ty,t,s,S,n,cs)->Jn P f args ty t s S n cs
theorem FOk.of {P:Program} {T:Nat->Option Ty} {Γ:Env} (X:ig P T) (Y:bH P Γ) (hm:P.follows .mixedOrders=true) {α β:Type} {A:jn α} {F:α->Option β} {R:β->Nat×Nat×Nat×Nat×Nat×List D} {f:FuncId} {fn:Func} (U:P.funcs[f]? = some fn) (O:(match fn.body with|some c=>codeOk c|none=>true)=true)
  (Z:(fn.name == "runtime.NumGoroutine")=false∧fn.body.isNone=false) (hn:∀a,(A.ds a).length<=fn.ntmps) (h:∀a r,F a=some r->KR T Γ FU fn (A.ds a)=some (R r)):FOk P f (e9 A F R) where
 callable:=⟨fn,U,Z⟩
 calls args ty t s S n cs hg:=by
  obtain⟨a,r,rfl,hr,he⟩:=Yw hg;exact KS X Y hm U O (hn a) ((h a r hr).trans (by rw[he]))
def ada {α β γ:Type} (ty t s:Nat) (O:jf γ) (A:jn α) (F:γ->α->Option (γ×β)) (R:β->D):Nat->Nat->Nat->Nat->List D->List D->Option (D×List D):=fun ty' U X o cs args =>
 open Classical in if h:∃p:List D×List D×γ×α,ty'=ty∧U=t∧X=s∧cs=p.1++(O.cells p.2.2.1++p.2.1)∧o=p.1.length∧args=A.ds p.2.2.2 then
  (F (Classical.choose h).2.2.1 (Classical.choose h).2.2.2).map fun r=>(R r.2,(Classical.choose h).1++(O.cells r.1++(Classical.choose h).2.1)) else none
theorem VJ {α β γ:Type} {ty t s:Nat} {O:jf γ} {A:jn α} {F:γ->α->Option (γ×β)} {R:β->D} {ty' X Y o:Nat} {cs args:List D} {d:D} {cs':List D} (h:ada ty t s O A F R ty' X Y o cs args=some (d,cs')) :
  ty'=ty∧X=t∧Y=s∧∃pre post x a r,cs=pre++(O.cells x++post)∧o=pre.length∧args=A.ds a∧F x a=some r∧d=R r.2∧cs'=pre++(O.cells r.1++post):=by
 unfold ada at h;split at h
 ·rename_i he;obtain⟨h1,h2,h3,h4,h5,h6⟩:=Classical.choose_spec he;rw[agA]at h;obtain⟨r,Z,U⟩:=h;simp only[Prod.mk.injEq]at U;exact⟨h1,h2,h3,_,_,_,_,r,h4,h5,h6,Z,U.1.symm,U.2.symm⟩
 ·cases h
structure NOk (P:Program) (f:FuncId) (p:Nat->Nat->Nat->Nat->List D->List D->Option (D×List D)):Prop where
 callable:dX P f
 calls:∀ty t s o cs args d cs',p ty t s o cs args=some (d,cs')->Jo P f ty t s o cs args d cs'
theorem NOk.of {P:Program} {T:Nat->Option Ty} {Γ:Env} (Y:ig P T) (Z:bH P Γ) (hm:P.follows .mixedOrders=true) {α β γ:Type} {ty t s:Nat} {O:jf γ} {A:jn α} {F:γ->α->Option (γ×β)} {R:β->D} {f:FuncId} {fn:Func} (X:P.funcs[f]? = some fn) (U:(match fn.body with|some c=>codeOk c|none=>true)=true)
  (hc:(fn.name == "runtime.NumGoroutine")=false∧fn.body.isNone=false) (hn:∀a,(A.ds a).length+1<=fn.ntmps) (h:∀pre post x a x' r,F x a=some (x',r)->R4 T Γ FU fn ty t s pre.length (pre++(O.cells x++post)) (A.ds a)=some (R r,pre++(O.cells x'++post))):NOk P f (ada ty t s O A F R) where
 callable:=⟨fn,X,hc⟩
 calls ty' t' s' o cs args d cs' hg:=by
  obtain⟨rfl,rfl,rfl,pre,post,x,a,r,rfl,rfl,rfl,hr,rfl,rfl⟩:=VJ hg;exact KT Y Z hm X U (hn a) (h pre post x a r.1 r.2 hr)
theorem HC {α:Type} {l:List α} : (adZ l).length=l.length:=ag6 ..
section
variable {pre l:List D} {k m:Nat}
end
theorem NI {τ:Ty} {h:Nat->Option Row} {x v o:Nat} : nD τ h x v o none=none:=ajz
theorem Tq {d:D} {l:List D} : (d::l).head? = some d:=ajz
theorem T7 {r:Row} {f:Row->Option Row} : (some r).bind f=f r:=ajz
theorem T6 {f:Row->Option Row} : (none:Option Row).bind f=none:=ajz
theorem LR {x o:Nat} : clP x o none=none:=ajz
theorem Lf {q:Option (List D×List Nat)} : caC none q=none:=ajz
theorem Gx {Γ:Env} {h:Nat->Option Row} {e g:Nat} {dst:Option Nat} : aaB Γ h e dst g none=none:=ajz
theorem aae {o:Nat} {cs:List D} : mD 0 o cs=cs:=Jj o cs
theorem abB {x o n:Nat} (h:n<1000000):(NK x o=n)=False:=by
 have:=eS x o;have:=cv;exact propext ⟨fun e=>by omega,fun e=>e.elim⟩
theorem WB {x o n:Nat} (h:n<1000000):(n=NK x o)=False:=by
 have:=eS x o;have:=cv;exact propext ⟨fun e=>by omega,fun e=>e.elim⟩
theorem vn:type_of% (ai @IL<|ai @HC<|ai @IM<|ai @abB<|ai @WB<|ai @VB.eq_1<|ai @LR<|ai @Lf<|ai @Gx<|ai @aae<|ai @T7<|ai @T6<|ai @NI<|ai @Tq<|ai @uZ<|ai @GU<|ai @CT<|ai @GV<|ai @L2<|@xK):=⟨@IL,@HC,@IM,@abB,@WB,@VB.eq_1,@LR,@Lf,@Gx,@aae,@T7,@T6,@NI,@Tq,@uZ,@GU,@CT,@GV,@L2,@xK⟩
end Go.Proofs.YtoioidmblipblaaGreat.Am
namespace Go.Proofs.YtoioidmblipblaaGreat.P
def Vt {α:Type} (c:α->α->Int) (x:α):List α->List α
 | []=>[x]
 | y::l=>if c x y<=0 then x::y::l else y::Vt c x l
def nJ {α:Type} (c:α->α->Int):List α->List α
 | []=>[]
 | x::l=>Vt c x (nJ c l)
theorem zt {α:Type} (c:α->α->Int) (x:α):∀l:List α,(Vt c x l).Perm (x::l)
 | []=>aiM _
 | y::l=>by
  unfold Vt;split
  ·exact aiM _
  ·exact ((zt c x l).cons y).trans (List.Perm.swap x y l)
theorem gY {α:Type} (c:α->α->Int):∀l:List α,(nJ c l).Perm l
 | []=>aiM _
 | x::l=>(zt c x _).trans ((gY c l).cons x)
theorem mo {α:Type} (c:α->α->Int) (l:List α):(nJ c l).length=l.length:=(gY c l).length_eq
structure WO {α:Type} (c:α->α->Int):Prop where
 total:∀x y,c x y<=0∨c y x<=0
 neg:∀x y,c x y<0↔0<c y x
 trans:∀x y z,c x y<=0->c y z<=0->c x z<=0
theorem AP {α:Type} {c:α->α->Int} (h:WO c) (x:α):∀l:List α,l.Pairwise (fun x y=>c x y<=0)->(Vt c x l).Pairwise (fun x y=>c x y<=0)
 | [],_=>List.pairwise_singleton _ _
 | y::l,hs=>by
  unfold Vt;obtain⟨h1,h2⟩:=ail.1 hs;split
  ·rename_i U;refine ail.2 ⟨fun z O =>?_,hs⟩;rcases agJ.1 O with rfl|O
   ·exact U
   ·exact h.trans _ _ _ U (h1 z O)
  ·rename_i U;have X:c y x<=0:=(h.total x y).resolve_left U;refine ail.2 ⟨fun z O =>?_,AP h x l h2⟩;rcases agJ.1 ((zt c x l).mem_iff.1 O) with rfl|O
   ·exact X
   ·exact h1 z O
theorem ly {α:Type} {c:α->α->Int} (h:WO c):∀l:List α,(nJ c l).Pairwise (fun x y=>c x y<=0)
 | []=>List.Pairwise.nil
 | x::l=>AP h x _ (ly h l)
theorem mO {α:Type} {c:α->α->Int} : ∀ {l m:List α},l.Perm m->(∀x∈l,∀y∈l,c x y<=0->c y x<=0->x=y)->l.Pairwise (fun x y=>c x y<=0)->m.Pairwise (fun x y=>c x y<=0)->l=m
 | [],m,O,_,_,_=>(List.Perm.nil_eq O)
 | x::l,[],O,_,_,_=>absurd O.symm (by intro h;have:=h.length_eq;simp at this)
 | x::l,y::m,O,ha,Y,hm=>by
  obtain⟨Z,l2⟩:=ail.1 Y;obtain⟨m1,m2⟩:=ail.1 hm;have U:x=y:=by
   by_cases he:x=y
   ·exact he
   ·have X:y∈l:=by
     have:y∈x::l:=O.mem_iff.2 aid;rcases agJ.1 this with h|h
     ·exact absurd h.symm he
     ·exact h
    have hx:x∈m:=by
     have:x∈y::m:=O.mem_iff.1 aid;rcases agJ.1 this with h|h
     ·exact absurd h he
     ·exact h
    exact ha x aid y (aie _ X) (Z y X) (m1 x hx)
  subst U;rw[mO ((List.perm_cons x).1 O) (fun a h1 b h2=>ha a (aie _ h1) b (aie _ h2)) l2 m2]
open Classical in
def A7 {α:Type} (c:α->α->Int) (l:List α):Option (List α×Unit):=if l.length<4611686018427387904∧∀x∈l,∀y∈l,c x y=0->x=y then some (nJ c l,()) else none
end Go.Proofs.YtoioidmblipblaaGreat.P
namespace Go.Proofs.YtoioidmblipblaaGreat.Am
open Go.RowKit Go.Proofs.YtoioidmblipblaaGreat.P
def WV (O:Bool) (us:List Value):Value:=if O then .agg us.toArray else us.getD 0 undef
def IsV {α:Type} (E:jf α) (w:World) (M:Nat->Prop) (x:α) (us:List Value):Prop:=us.length=E.size∧∀j d,(E.cells x)[j]? = some d->ba d=true∧RP w M d (us.getD j undef)
def adM {α:Type} (P:Program) (g:FuncId) (O:Bool) (E:jf α) (c:α->α->Int):Prop:=∀(w:World) (M:Nat->Prop) (x y:α) (U X:List Value),(∀b,M b->b<w.heap.size)->IsV E w M x U->IsV E w M y X ->
 Calls P g #[WV O U,WV O X] w fun e w'=>e=.returned (.int .i64 (c x y))∧∃q os,w'=Go.Sort.grow (w.drewN q) os
def abG (P:Program) (f g:FuncId) (Z:Bool) (k:Nat):Prop:=∀(β:Type) (_:Inhabited β) (enc:β->List Value) (O:β->β->Int),(∀x,(enc x).length=k)->(∀x,∀v∈enc x,v.oneCell'=true)->Go.Sort.SWO (ltOf O)->∀(blk off cap:Nat) (d:Array β) (w:World),
 (∀(m:Nat) (os:Array Obj) (U:Array β),U.size=d.size->∀x y:β,Calls P g #[WV Z (enc x),WV Z (enc y)] (sortWorldK enc k w blk off m U os) fun e w'=>e=.returned (.int .i64 (O x y))∧∃q X,w'=Go.Sort.grow ((sortWorldK enc k w blk off m U os).drewN q) X) ->
 Go.Sort.HoldsK enc k w blk off d->blk<w.heap.size->d.size<4611686018427387904 ->
 Calls P f #[.slice (some ⟨blk,off,none⟩) d.size cap,.func (.func g) #[] #[]] w fun e w'=>e=.returned (.tuple #[])∧∃Y n os,Go.Sort.PermIn 0 d.size d Y∧Go.Sort.SortedIn (ltOf O) 0 d.size Y∧w'=sortWorldK enc k w blk off n Y os
theorem Ta {α:Type} (E:jf α) {l:List α} {i j:Nat} {x:α} (U:l[i]? = some x) (X:j<E.size):(ab E l)[i*E.size+j]? = (E.cells x)[j]?:=by
 have h1:((ab E l).drop (i*E.size))[j]? = (ab E l)[i*E.size+j]?:=agT;have h2:l.drop i=x::l.drop (i+1):=by
  obtain⟨O,rfl⟩:=ag5.1 U;exact aiF O
 rw[<- h1,u3,h2,bj,ahg (by rw[E.len];exact X)]
section
variable {β:Type} [Inhabited β] {enc:β->List Value} {k:Nat}
theorem Kq {w:World} {b off:Nat} {d:Array β} {cs:Array Value} {ty:Nat} {fr:Nat×Nat} (h:w.heap[b]? = some (.cells cs ty fr)):(Go.Sort.putRowK enc k w b off d).heap[b]? = some (.cells (Go.Sort.putCells id off (Go.Sort.flatK enc k d) cs) ty fr):=by
 simp[Go.Sort.putRowK,Go.Sort.putRow,Go.Sort.mapBlock,agM,h,Go.Sort.onCells]
theorem BE {w:World} {b c off:Nat} {d:Array β} (h:c≠b):(Go.Sort.putRowK enc k w b off d).heap[c]? = w.heap[c]?:=by
 simp[Go.Sort.putRowK,Go.Sort.putRow,Go.Sort.mapBlock,agM,Ne.symm h]
theorem v8 {w:World} {b c off m:Nat} {d:Array β} {os:Array Obj} (O:c<w.heap.size) (h:c≠b):(sortWorldK enc k w b off m d os).heap[c]? = w.heap[c]?:=by
 unfold sortWorldK;rw[Go.Sort.heap_grow_old _ _ (by simpa [Go.Sort.putRowK,Go.Sort.ahead] using O),BE h];rfl
theorem nH {w:World} {b off m:Nat} {d:Array β} {os:Array Obj} : w.heap.size<=(sortWorldK enc k w b off m d os).heap.size:=by
 simp[sortWorldK,Go.Sort.putRowK,Go.Sort.ahead]
theorem F7 {w:World} {b off m:Nat} {d:Array β} {os:Array Obj} {cs:Array Value} {ty:Nat} {fr:Nat×Nat} (h:w.heap[b]? = some (.cells cs ty fr)):(sortWorldK enc k w b off m d os).heap[b]? = some (.cells (Go.Sort.putCells id off (Go.Sort.flatK enc k d) cs) ty fr):=by
 have O:=(agG.1 h).1;unfold sortWorldK;rw[Go.Sort.heap_grow_old _ _ (by simpa [Go.Sort.putRowK,Go.Sort.ahead] using O)];exact Kq h
theorem F4 {off:Nat} {d:Array β} {cs:Array Value} {j:Nat} (O:j<cs.size):(Go.Sort.putCells id off (Go.Sort.flatK enc k d) cs).getD j undef=if off<=j∧j<off+d.size*k then (enc d[(j-off) / k]!)[(j-off) % k]! else cs.getD j undef:=by
 have h1:(Go.Sort.putCells id off (Go.Sort.flatK enc k d) cs)[j]? = some (if off<=j∧j<off+d.size*k then (enc d[(j-off) / k]!)[(j-off) % k]! else cs[j]):=by
  simp only[Go.Sort.putCells,Array.getElem?_mapIdx,ahP O,Option.map_some,Go.Sort.size_flatK];congr 1;split
  ·rename_i U;rw[Go.Sort.get_flatK _ _ _ _ (by omega)];rfl
  ·rfl
 rw[agH,h1];simp[agH,O]
end
theorem adx {α β:Type} {c:α->α->Int} (h:WO c) (f:β->α):Go.Sort.SWO (ltOf fun x y=>c (f x) (f y)) where
 irrefl x:=by
  simp only[ltOf,decide_eq_false_iff_not];intro X;have:=(h.neg _ _).1 X;omega
 trans x y z h1 h2:=by
  simp only[ltOf,decide_eq_true_eq]at h1 h2 ⊢
  by_cases h3:c (f x) (f z)<0
  ·exact h3
  ·have O:c (f z) (f x)<=0:=by
    have:=(h.neg (f z) (f x));rcases aiN (c (f z) (f x)) 0 with q|q|q
    ·omega
    ·omega
    ·exact absurd ((h.neg (f x) (f z)).2 q) h3
   have U:=h.trans _ _ _ O (Int.le_of_lt h1);have Y:=(h.neg _ _).1 h2;omega
 ntrans x y z h1 h2:=by
  simp only[ltOf,decide_eq_false_iff_not]at h1 h2 ⊢;intro h3;have O:c (f y) (f x)<=0:=by
   by_cases q:0<c (f y) (f x)
   ·exact absurd ((h.neg _ _).2 q) h1
   ·omega
  have U:c (f z) (f y)<=0:=by
   by_cases q:0<c (f z) (f y)
   ·exact absurd ((h.neg _ _).2 q) h2
   ·omega
  have Y:=h.trans _ _ _ U O;have Z:=(h.neg _ _).1 h3;omega
theorem EP {β:Type} [Inhabited β] {d O:Array β} (h:Go.Sort.PermIn 0 d.size d O):O.toList.Perm d.toList:=by
 obtain⟨h1,-,h2⟩:=h;have U:(d.extract 0 d.size)=d:=by simp
 have X:(O.extract 0 d.size)=O:=by rw[<- h1];simp
 rwa [U,X]at h2
theorem Y9 {α:Type} {E:jf α} {c:α->α->Int} {P:Program} {f g:FuncId} {fn:Func} {ag:Bool} {ty:Nat} {F:List α->Option (List α×Unit)} (hf:P.funcs[f]? = some fn) (hc:(fn.name == "runtime.NumGoroutine")=false∧fn.body.isNone=false)
  (hF:∀l,F l=A7 c l) (h0:∀p cap w,Calls P f #[.slice p 0 cap,.func (.func g) #[] #[]] w fun e w'=>e=.returned (.tuple #[])∧w'=w) (hO:WO c) (hcmp:adM P g ag E c) (hS:abG P f g ag E.size) :
  bW P f (mkW ty E (dS (aFn g)) (fun l (_:Unit)=>F l) (fun _:Unit =>.clean (.tup []))) where
 callable:=⟨fn,hf,hc⟩
 calls lent la rk out hg:=by
  obtain⟨pre,l,post,a,l',r,rfl,rfl,hr,rfl,rfl⟩:=N9 hg;rw[hF]at hr;unfold A7 at hr
  by_cases Z:l.length<4611686018427387904∧∀x∈l,∀y∈l,c x y=0->x=y
  ·rw[if_pos Z]at hr;obtain⟨hlen,hanti⟩:=Z;obtain rfl:nJ c l=l':=congrArg Prod.fst (Option.some.inj hr);intro w M go u0 vs hM aS hz aU hrow aB aa;have aL:vs = #[.func (.func g) #[] #[]]:=by
    have h1:=aa.1;have h2:=aa.2 0 (.fn g) rfl;have h3:vs.size=1:=h1;cases hv:vs.getD 0 undef<;>rw[hv]at h2<;>cases h2;apply Array.ext
    ·simp[h3]
    ·intro i i1 i2;have:i=0:=by omega
     subst this;simpa [Array.getD,h3] using hv
   subst aL
   by_cases hl:l=[]
   ·subst hl;have hu:∃p cp,u0=.slice p 0 cp:=by
     rcases aB.2 ⟨0,0,[],false,false,false⟩ rfl rfl with⟨g',o',cp,N,t,k0,k1,k2,k3,k4,k5⟩|k0
     ·exact⟨_,_,k1⟩
     ·obtain⟨_,_,A,k1⟩:=k0;exact⟨_,_,k1⟩
    obtain⟨p,cp,rfl⟩:=hu;refine (h0 p cp w).mono fun e w' ⟨he,hw⟩ =>?_;subst hw;exact⟨.tuple #[],he,⟨rfl,rfl,rfl,agC _,fun _ _ _=>rfl⟩,⟨rfl,rfl,⟨rfl,rfl⟩,fun g' ak=>rfl,hrow⟩,.tup [] [] rfl (fun j x O=>by simp at O)⟩
   ·have hk:=E.pos;have an:0<l.length:=aiA.2 hl;cases go with
    | none =>
     have aM:pre++(ab E l++post)=[]:=hrow;have:=congrArg List.length aM;rw[ahO,ahO,bR,ag3]at this;have:=Nat.mul_pos an hk;omega
    | some go =>
     obtain⟨cs,h1,h2,h3⟩:=hrow;simp only[ahO,bR]at h2;generalize au:(fun b=>M b∨sW (some go) b)=M' at h3 aa ⊢;have aC:M' go.1:=by rw[<- au];exact .inr ⟨go,rfl,rfl⟩
     have aD:go.1<w.heap.size:=(agG.1 h1).1;have av:∀b,M' b->b<w.heap.size:=by
      intro b hb;rw[<- au]at hb;rcases hb with hb|⟨g',ak,rfl⟩
      ·exact hM b hb
      ·cases ak;exact aD
     rcases aB.2 ⟨0,0,[],false,false,false⟩ rfl rfl with⟨g',o',cp,N,t,k0,k1,k2,k3,k4,k5⟩|⟨k0,_⟩;rotate_left
     ·cases k0
     cases k0;obtain⟨rfl,k6⟩:=k2 (.inl (by omega));subst k1;have aE:∀i,i<l.length->i*E.size+E.size<=l.length*E.size:=by
      intro i hi;have:=ahp E.size (show i+1<=l.length from hi)
      rwa [ahB]at this
     have U:∀i (hi:i<l.length),IsV E w M' l[i] ((List.range E.size).map fun j=>cs.getD (go.2+pre.length+(i*E.size+j)) undef):=by
      intro i hi;refine⟨by simp,fun j d O =>?_⟩;have aF:j<E.size:=by
       have:=(ag5.1 O).1
       rwa [E.len]at this
      have hd:(pre++(ab E l++post))[pre.length+(i*E.size+j)]? = some d:=by
       have:=aE i hi;rw[ahh (by omega),ah2,ahg (by rw[bR];omega),Ta E (agP hi) aF,O]
      have:=h3 _ _ hd;rw[<- agX]at this;simpa [List.getD,aF] using this
     let β:={ p:α×List Value // IsV E w M' p.1 p.2 }
     let enc:β->List Value:=fun p=>p.1.2
     let dl:List β:=List.ofFn fun i:Fin l.length=>(⟨(l[i.1],_),U i.1 i.2⟩:β)
     have ae:dl.length=l.length:=by simp[dl]
     have aG:∀i (hi:i<l.length),dl[i]? = some ⟨(l[i],_),U i hi⟩:=by
      intro i hi;simp[dl,hi]
     have aH:Inhabited β:=⟨⟨(l[0],_),U 0 an⟩⟩;have aI:dl.map (fun p=>p.1.1)=l:=by
      apply aiO;intro i
      by_cases hi:i<l.length
      ·rw[agz,aG i hi,agP hi];rfl
      ·rw[aij (by simp[ae];omega),aij (by omega)]
     have ah:∀x:β,(enc x).length=E.size:=fun x=>x.2.1;have aJ:∀x:β,∀v∈enc x,v.oneCell'=true:=by
      intro x v hv;obtain⟨j,O⟩:=agY hv;have aw:=(ag5.1 O).1;rw[ah]at aw;obtain⟨p1,p2⟩:=x.2.2 j _ (agP (by rw[E.len];exact aw));have:x.1.2.getD j undef=v:=by simp only[ahf];rw[show x.1.2[j]? = some v from O];rfl
      rw[this]at p2;exact p2.qe p1
     have X:∀ {m:Nat} {dk:Array β} {os:Array Obj} {d:D} {u:Value},RP w M' d u->RP (sortWorldK enc E.size w go.1 (go.2+pre.length) m dk os) M' d u:=by
      intro m dk os d u hu;refine hu.keep fun b q1 q2=>⟨agF q1 nH,q2,?_⟩;exact v8 q1 (fun e=>q2 (e ▸ aC))
     have hH:Go.Sort.HoldsK enc E.size w go.1 (go.2+pre.length) dl.toArray:=by
      intro j O;simp only[Go.Sort.size_flatK,ahY,ae]at O;refine⟨?_,by simp[World.frozen?,h1]⟩;have hq:j / E.size<l.length:=aiz (by rwa [ahC]);have ad:j % E.size<E.size:=ahy _ hk;have ax:j / E.size*E.size+j % E.size=j:=by rw[ahC];exact aiP j E.size
      rw[Go.Sort.get_flatK _ _ _ _ (by simpa [ae] using O),aT h1 (j:=go.2+pre.length+j) (by omega)];have e1:(dl.toArray)[j / E.size]! = ⟨(l[j / E.size],_),U _ hq⟩:=by
       have h5:=aG _ hq;rw[getElem!_pos dl.toArray (j / E.size) (by simpa [ae] using hq)];have:=(ag5.1 h5).2;simpa using this
      rw[e1];show some _=some (((List.range E.size).map fun j'=>cs.getD (go.2+pre.length+(j / E.size*E.size+j')) undef)[j % E.size]!);rw[getElem!_pos _ _ (by simpa using ad)];simp[ax]
     have aN:=adx hO (fun p:β=>p.1.1);have ai:=hS β aH enc (fun x y=>c x.1.1 y.1.1) ah aJ aN go.1 (go.2+pre.length) cp dl.toArray w (fun m os dk aV x y=>hcmp _ M' x.1.1 y.1.1 x.1.2 y.1.2 (fun b hb=>agF (av b hb) nH) ⟨x.2.1,fun j d O=>⟨(x.2.2 j d O).1,X (x.2.2 j d O).2⟩⟩ ⟨y.2.1,fun j d O=>⟨(y.2.2 j d O).1,X (y.2.2 j d O).2⟩⟩) hH aD (by simpa [ae] using hlen);have ay:dl.toArray.size=l.length:=by simp[ae]
     rw[ay]at ai;refine ai.mono fun e w' ⟨he,Y,n,os,aj,az,hw⟩ =>?_;subst hw;have al:=EP (by rw[ay];exact aj);have ao:Y.size=l.length:=by have:=aj.1;rw[this,ay]
     have aO:Y.toList.map (fun p=>p.1.1)=nJ c l:=by
      have aA:(Y.toList.map (fun p=>p.1.1)).Perm l:=by
       have:=al.map (fun p:β=>p.1.1)
       rwa [show dl.toArray.toList.map (fun p:β=>p.1.1)=l from aI]at this
      refine mO (aA.trans (gY c l).symm) (fun x hx y hy h4 h5=>hanti x (aA.mem_iff.1 hx) y (aA.mem_iff.1 hy) ?_) ?_ (ly hO l)
      ·have:=hO.neg x y;have:=hO.neg y x;omega
      ·rw[aiQ];rw[aiR];intro i j hi O aP;simp only[Array.length_toList]at hi O;have:=az i j (agD _) aP (by omega);simp only[ltOf,decide_eq_false_iff_not]at this;rw[getElem!_pos Y j (by omega),getElem!_pos Y i (by omega)]at this;simp only[Array.getElem_toList];have h6:=hO.neg Y[j].1.1 Y[i].1.1;omega
     have aq:(sortWorldK enc E.size w go.1 (go.2+pre.length) n Y os).heap[go.1]? = some (.cells (Go.Sort.putCells id (go.2+pre.length) (Go.Sort.flatK enc E.size Y) cs) ty (0,0)):=F7 h1;have ar:(Go.Sort.putCells id (go.2+pre.length) (Go.Sort.flatK enc E.size Y) cs).size=cs.size:=by simp[Go.Sort.putCells]
     refine⟨.tuple #[],he,⟨rfl,rfl,rfl,nH,fun k hk hn=>v8 hk (fun e=>hn ⟨go,rfl,e⟩)⟩,⟨rfl,rfl,⟨rfl,rfl⟩,fun g' ak =>?_,?_⟩,.tup [] [] rfl (fun j x O=>by simp at O)⟩
     ·cases ak;simp[World.shape?,aq,h1,ar]
     ·refine⟨_,aq,?_,fun j d O =>?_⟩
      ·simp only[ahO,bR,mo,ar];exact h2
      ·have aw:j<pre.length+(l.length*E.size+post.length):=by
        have:=(ag5.1 O).1;simpa [bR,mo] using this
       show _∧RP _ (fun b=>M b∨sW (some go) b) d _;rw[au,F4 (by omega),ao]
       by_cases aQ:pre.length<=j∧j<pre.length+l.length*E.size
       ·rw[if_pos (by omega)];have e1:go.2+j-(go.2+pre.length)=j-pre.length:=by omega
        rw[e1];have hq:(j-pre.length) / E.size<l.length:=aiz (by rw[ahC];omega);have ad:(j-pre.length) % E.size<E.size:=ahy _ hk;have ax:(j-pre.length) / E.size*E.size+(j-pre.length) % E.size=j-pre.length:=by rw[ahC];exact aiP _ _
        rw[ahh aQ.1,ahg (by rw[bR,mo];omega),<- ax,<- aO,Ta E (x:=(Y[(j-pre.length) / E.size]!).1.1) (by
         rw[agz,agP (by simpa [ao] using hq),getElem!_pos Y _ (by omega)];simp) ad]at O
        obtain⟨p1,p2⟩:=(Y[(j-pre.length) / E.size]!).2.2 _ _ O;refine⟨p1,X ?_⟩;have e2:(enc Y[(j-pre.length) / E.size]!)[(j-pre.length) % E.size]! = (Y[(j-pre.length) / E.size]!).1.2.getD ((j-pre.length) % E.size) undef:=by
         rw[getElem!_pos _ _ (by rw[ah];exact ad)];simp only[ahf];rw[agP (by have:=(Y[(j-pre.length) / E.size]!).2.1;omega)];rfl
        rw[e2];exact p2
       ·rw[if_neg (by omega)];have aK:(pre++(ab E l++post))[j]? = some d:=by
         by_cases aR:j<pre.length
         ·rw[ahg aR]at O ⊢;exact O
         ·rw[ahh (by omega),ahh (by rw[bR,mo];omega),bR,mo]at O;rw[ahh (by omega),ahh (by rw[bR];omega),bR];exact O
        exact⟨(h3 j d aK).1,X (h3 j d aK).2⟩
  ·rw[if_neg Z]at hr;cases hr
end Go.Proofs.YtoioidmblipblaaGreat.Am
namespace Go.Proofs.YtoioidmblipblaaGreat.P
def jm {α:Type} (f g:α->Int) (x y:α):Int:=if Go.Lib.compareInt (f x) (f y)≠0 then Go.Lib.compareInt (f x) (f y) else Go.Lib.compareInt (g x) (g y)
theorem zW {α:Type} {f g:α->Int} {x y:α} : jm f g x y<0↔f x<f y∨(f x=f y∧g x<g y):=by
 unfold jm Go.Lib.compareInt
 repeat' split
 all_goals omega
theorem zX {α:Type} {f g:α->Int} {x y:α} : 0<jm f g x y↔f y<f x∨(f x=f y∧g y<g x):=by
 unfold jm Go.Lib.compareInt
 repeat' split
 all_goals omega
theorem uq {α:Type} {f g:α->Int} {x y:α} : jm f g x y<=0↔f x<f y∨(f x=f y∧g x<=g y):=by
 have h1:=@zW α f g x y;have h2:=@zX α f g x y;omega
theorem RE {α:Type} {f g:α->Int} {x y:α} : jm f g x y=0↔f x=f y∧g x=g y:=by
 have h1:=@zW α f g x y;have h2:=@zX α f g x y;omega
theorem rm {α:Type} (f g:α->Int):WO (jm f g) where
 total x y:=by rw[uq,uq];omega
 neg x y:=by rw[zW,zX];omega
 trans x y z h1 h2:=by rw[uq]at *;omega
end Go.Proofs.YtoioidmblipblaaGreat.P
namespace Go.Proofs.YtoioidmblipblaaGreat.Am
open Go.RowKit Go.Lib Go.Sort Go.Shelf Go.Proofs.YtoioidmblipblaaGreat.P
theorem aa3 (x:Int) (w:World):Calls prog 118 #[.int .i64 x] w fun e w'=>e=.returned (.bool false)∧w'=w:=by
 go_enter func118,ntmps118
 go_wp2
 go_ret
 exact⟨by simp,rfl⟩
theorem LZ (x y:Int) (w:World):Calls prog 76 #[.int .i64 x,.int .i64 y] w fun e w'=>e=.returned (.int .i64 (Lib.compareInt x y))∧w'=w:=by
 go_enter func76,ntmps76
 go_wp2_with (go_at_call 118;refine (aa3 _ _).mono ?_;rintro e w' ⟨rfl,hw⟩;rw[hw])
 all_goals (go_ret;refine⟨?_,rfl⟩;unfold Lib.compareInt;(repeat' split)<;>first|rfl|(exfalso;omega))
theorem adh (b off cap:Nat) (x y r:Int) (hr:r=if x≠0 then x else y) (w:World) (h0:w.cell? ⟨b,off,none⟩=some (.int .i64 x)) (h1:w.cell? ⟨b,off+1,none⟩=some (.int .i64 y)):Calls prog 75 #[.slice (some ⟨b,off,none⟩) 2 cap] w fun e w'=>e=.returned (.int .i64 r)∧w'=w:=by
 go_enter func75,ntmps75
 go_wp2
 refine wp_loop_rounds 3 ?_;repeat any_goals (rw[rounds_succ];go_wp2)
 all_goals (go_ret;refine⟨?_,rfl⟩;subst hr;simp_all)
theorem Fv (W:World) (A B:Obj) (q:Nat):({ ((W.alloc A).alloc B) with drawn:=q } : World).heap[W.heap.size]? = some A∧({ ((W.alloc A).alloc B) with drawn:=q } : World).heap[W.heap.size+1]? = some B:=by
 constructor
 ·show ((W.heap.push A).push B)[W.heap.size]? = some A;simp[Array.getElem?_push]
 ·show ((W.heap.push A).push B)[W.heap.size+1]? = some B;rw[Array.getElem?_push,if_pos (by simp)]
theorem WU (w:World) (x y:Value) (t:TypeId):(w.alloc (.cells #[x,y] t)).cell? ⟨w.heap.size,0,none⟩=some x∧(w.alloc (.cells #[x,y] t)).cell? ⟨w.heap.size,0+1,none⟩=some y:=by
 have h:(w.alloc (.cells #[x,y] t)).heap[w.heap.size]? = some (.cells #[x,y] t):=by
  show (w.heap.push _)[w.heap.size]? = _;simp
 exact⟨aT h (j:=0) (by simp),aT h (j:=0+1) (by simp)⟩
theorem Z5 (W:World) (A B:Obj):({ ((W.alloc A).alloc B) with drawn:=((W.alloc A).alloc B).drawn+1 } : World)=grow (W.drewN 1) #[A,B]:=by
 rw[alloc_eq_grow,alloc_eq_grow,grow_grow];rfl
theorem OU {P:Program} {id:Nat} {Q:Exit->Act->World->Prop} {a:Act} {w O:World} {l:List Oper} (n:Nat) (hw:O = { w with drawn:=w.drawn+1 }) (hm:P.follows .mixedOrders=true) (U:Region.lexTailB .any l.toArray n=true)
  (h:wpStill P l.toArray O (fun X=>wpList P l.toArray Q (l.drop n) X O) (l.take n) a):(Code.region id l.toArray true).wp P Q a w:=by
 subst hw;exact wp_region_still_tail n hm U h
set_option maxRecDepth 100000 in
theorem Lb (f1 t1 f2 t2:Int) (a b c d a' b' c' d':Value) (W:World) (h1:∀v∈[a,b,c,d],v.oneCell'=true) (h2:∀v∈[a',b',c',d'],v.oneCell'=true) :
  Calls prog 43 #[.agg #[.int .i64 f1,.int .i64 t1,a,b,c,d],.agg #[.int .i64 f2,.int .i64 t2,a',b',c',d']] W fun e w'=>e=.returned (.int .i64 (if Lib.compareInt f1 f2≠0 then Lib.compareInt f1 f2 else Lib.compareInt t1 t2))∧∃q os',w'=grow (W.drewN q) os':=by
 have hcon:=fun x y W'=>LZ x y W';have hor:=fun b off cap x y r hr W' h0 h1=>adh b off cap x y r hr W' h0 h1;generalize hr:(if Lib.compareInt f1 f2≠0 then Lib.compareInt f1 f2 else Lib.compareInt t1 t2)=r;obtain⟨w1,hw1⟩:∃w1:World,w1 = { ((W.alloc (Obj.cells #[.int .i64 f1,.int .i64 t1,a,b,c,d] 65)).alloc (Obj.cells #[.int .i64 f2,.int .i64 t2,a',b',c',d'] 65)) with drawn:=((W.alloc (Obj.cells #[.int .i64 f1,.int .i64 t1,a,b,c,d] 65)).alloc (Obj.cells #[.int .i64 f2,.int .i64 t2,a',b',c',d'] 65)).drawn+1 }:=⟨_,rfl⟩;have hg:∃q os,w1=grow (W.drewN q) os:=⟨_,_,hw1.trans (Z5 _ _ _)⟩;have hA:w1.heap[W.heap.size]? = some (Obj.cells #[.int .i64 f1,.int .i64 t1,a,b,c,d] 65):=by rw[hw1];exact (Fv _ _ _ _).1
 have hB:w1.heap[W.heap.size+1]? = some (Obj.cells #[.int .i64 f2,.int .i64 t2,a',b',c',d'] 65):=by rw[hw1];exact (Fv _ _ _ _).2
 have c1:w1.cell? ⟨W.heap.size,0,none⟩=some (.int .i64 f1):=aT hA (j:=0) (by simp);have c2:w1.cell? ⟨W.heap.size,1,none⟩=some (.int .i64 t1):=aT hA (j:=1) (by simp);have c3:w1.cell? ⟨W.heap.size+1,0,none⟩=some (.int .i64 f2):=aT hB (j:=0) (by simp);have c4:w1.cell? ⟨W.heap.size+1,1,none⟩=some (.int .i64 t2):=aT hB (j:=1) (by simp);clear hA hB
 go_enter func43,ntmps43
 go_wp2
 refine OU 10 hw1 (by kernel_rfl) (by kernel_rfl) ?_;clear hw1;simp only[List.take_succ_cons,List.take_zero,aiD,ah6]
 iterate 4 still_step
 still_call (hcon _ _ _)
 iterate 4 still_step
 still_call (hcon _ _ _)
 apply wpStill_nil;generalize Lib.compareInt f1 f2=r1 at *;generalize Lib.compareInt t1 t2=r2 at *
 go_wp2_with (go_at_call 75;refine (hor _ _ _ _ _ _ hr.symm _ (WU _ _ _ _).1 (WU _ _ _ _).2).mono ?_;rintro e w' ⟨rfl,rfl⟩)
 go_ret
 obtain⟨q,os,hq⟩:=hg;exact⟨rfl,q,_,by rw[hq,alloc_eq_grow,grow_grow]⟩
theorem Y5 {α:Type} {E:jf α} (h6:E.size=6) {f g:α->Int} (h0:∀x,(E.cells x)[0]? = some (.int .i64 (f x))) (h1:∀x,(E.cells x)[1]? = some (.int .i64 (g x))) {w:World} {M:Nat->Prop} {x:α} {us:List Value} (h:IsV E w M x us) :
  ∃a b c d,us=[.int .i64 (f x),.int .i64 (g x),a,b,c,d]∧∀v∈[a,b,c,d],v.oneCell'=true:=by
 obtain⟨X,U⟩:=h;rw[h6]at X
 match us,X with
 | [a0,Y,a2,a3,a4,a5],_ =>
  have e0:a0=.int .i64 (f x):=by
   have:=(U 0 _ (h0 x)).2;simp at this;cases this;rfl
  have e1:Y=.int .i64 (g x):=by
   have:=(U 1 _ (h1 x)).2;simp at this;cases this;rfl
  have hlen:=E.len x;rw[h6]at hlen;have O:∀j,j<6->([a0,Y,a2,a3,a4,a5].getD j undef).oneCell'=true:=fun j hj=>by
   obtain⟨p1,p2⟩:=U j _ (agP (by omega));exact p2.qe p1
  subst e0 e1;refine⟨a2,a3,a4,a5,rfl,fun v Z =>?_⟩;simp only[agJ,ahL,or_false]at Z;rcases Z with rfl|rfl|rfl|rfl
  ·exact O 2 (by decide)
  ·exact O 3 (by decide)
  ·exact O 4 (by decide)
  ·exact O 5 (by decide)
theorem U6 {α:Type} {E:jf α} (h6:E.size=6) {f g:α->Int} (O:∀x,(E.cells x)[0]? = some (.int .i64 (f x))) (h1:∀x,(E.cells x)[1]? = some (.int .i64 (g x))):adM prog 43 true E (jm f g):=by
 intro w M x y ux uy hM U X;obtain⟨a,b,c,d,rfl,p⟩:=Y5 h6 O h1 U;obtain⟨Y,Z,c',d',rfl,q⟩:=Y5 h6 O h1 X;exact Lb _ _ _ _ a b c d Y Z c' d' w p q
theorem V1 {P:Program} {ρ:Go.Shelf.Ren} (L:SlLaysF0.n6 P ρ) {k g:Nat} (Y:∀w,(isAgg (ρ.t 24)).run P w=.ok true w) (Z:∀w,(Go.sizeOf (ρ.t 24)).run P w=.ok k w) (eg:∀args w,(callFunc g args).run P w=.ok (.enter g args) w):abG P (ρ.f 6) g true k :=
 fun β aa enc cf hk h1 hO blk off cap d w O hH hblk U=>AnyQ.slices_SortFunc L k Y Z enc hk h1 cf hO g #[] blk off cap d w eg (fun m os dk X x y=>by simpa [WV] using O m os dk X x y) hH hblk U
theorem Kk {α:Type} {E:jf α} (h6:E.size=6) {f g:α->Int} (O:∀x,(E.cells x)[0]? = some (.int .i64 (f x))) (h1:∀x,(E.cells x)[1]? = some (.int .i64 (g x))) (ty:Nat) :
  bW prog 42 (mkW ty E (dS (aFn 43)) (fun l (_:Unit)=>A7 (jm f g) l) (fun _:Unit =>.clean (.tup []))) :=
 Y9 (F:=A7 (jm f g)) func42 ⟨rfl,rfl⟩ (fun _=>rfl) (fun p cap w=>AnyF.slices_SortFunc_none Tryz.Zj p cap _ w) (rm f g) (U6 h6 O h1)
  (by rw[h6];exact V1 Tryz.Zj isAgg65 sizeOf65 (enters_of func43 (by kernel_rfl) rfl))
end Go.Proofs.YtoioidmblipblaaGreat.Am
namespace Go.Proofs.YtoioidmblipblaaGreat.Am
open Go.RowKit Go.Proofs.YtoioidmblipblaaGreat.P
def kq:Nat->Code->Code
 | 0,.seq a _=>a
 | k+1,.seq a b =>.seq a (kq k b)
 | _,c=>c
def zV:Nat->Code->Code
 | 0,.seq _ b=>b
 | k+1,.seq _ b=>zV k b
 | _,_ =>.skip
def spine:Nat->Code->Bool
 | 0,.seq _ _=>true
 | k+1,.seq _ b=>spine k b
 | _,_=>false
def W9 (fn:Func):Code:=match fn.body with|some c=>c|none =>.skip
theorem JV (a b:Code):kq 0 (.seq a b)=a:=rfl
theorem JU (k:Nat) (a b:Code):kq (k+1) (.seq a b)=.seq a (kq k b):=rfl
section
variable {P:Program} {T:Nat->Option Ty} {N:Nat} {M:Nat->Prop} {L:jg} {w0:World} {Γ:Env}
theorem AO (hT:ig P T) (hΓ:bH P Γ) (hm:P.follows .mixedOrders=true) {F:Nat} {Q:Exit->Act->World->Prop} : ∀(k:Nat) (c:Code) (s:St) (x:Ex) (Y:St) (a:Act) (w:World),spine k c=true->fQ T Γ N F (kq k c) s=some (x,Y)->codeOk (kq k c)=true->Holds N M L w0 s a w ->
  (x=.normal->∀U w',Holds N M L w0 Y U w'->(zV k c).wp P Q U w')->(x ≠ .normal->∀U w',Holds N M L w0 Y U w'->Q (Dv x) U w')->c.wp P Q a w
 | 0,.seq b c,s,x,Y,a,w,_,Z,X,hH,h1,h2=>by
  refine wp_seq (iH hT hΓ hm b s x Y _ a w Z X hH fun U w' O =>?_);cases x with
  | normal=>exact h1 rfl U w' O
  | exit n=>exact h2 (by intro h;cases h) U w' O
  | ret=>exact h2 (by intro h;cases h) U w' O
 | k+1,.seq b c,s,x,Y,a,w,hs,Z,X,hH,h1,h2=>by
  simp only[kq,codeOk,ahd]at X;simp only[kq,fQ,adD]at Z;apply wp_seq;split at Z
  ·rename_i s1 aa;exact iH hT hΓ hm b s .normal s1 _ a w aa X.1 hH fun U w' O=>AO hT hΓ hm k c s1 x Y U w' hs Z X.2 O h1 h2
  ·rename_i r hne;refine iH hT hΓ hm b s x Y _ a w Z X.1 hH fun U w' O =>?_;cases x with
   | normal=>exact absurd Z (fun h=>hne Y h)
   | exit n=>exact h2 (by intro h;cases h) U w' O
   | ret=>exact h2 (by intro h;cases h) U w' O
end
def wC (T:Nat->Option Ty) (rs:List ResultVar) (r:RK×Option Row) (J:(Nat->D)->(Nat->Option Row)->Nat->Prop):Kt:=fun x t h e =>
 match x with
 | .normal=>J t h e
 | .ret=>fF .clean T none rs ⟨t,EH h,e⟩=some r
 | .exit _=>False
section
variable {T:Nat->Option Ty} {Γ:Env} {n F k:Nat} {rs:List ResultVar} {r:RK×Option Row} {J:(Nat->D)->(Nat->Option Row)->Nat->Prop} {t:Nat->D} {h:Nat->Option Row} {e:Nat}
theorem FP:wC T rs r J .normal t h e=J t h e:=ajz
theorem Dz:wC T rs r J .ret t h e=(fF .clean T none rs ⟨t,EH h,e⟩=some r):=ajz
def R3 (T:Nat->Option Ty) (Γ:Env) (F k:Nat) (fn:Func) (args:List D) (K:Kt):Prop:=∃c,fn.body=some c∧∃x s,fQ T Γ fn.ntmps F (kq k c) (b7 none args)=some (x,s)∧K x s.t s.h s.e
theorem Wj {fn:Func} {c:Code} {args:List D} (O:fn.body=some c) (U:fn.ntmps=n) (X:fn.results=rs.toArray) (hw:dh T Γ n F [.code (kq k c)] (wC T rs r J) .normal (FI args) TS 0):R3 T Γ F k fn args (wC T fn.results.toList r J):=by
 obtain⟨x,s,h1,h2⟩:=KU _ _ _ _ _ (show PW T Γ n F (kq k c) (FI args) TS 0 (wC T rs r J) from hw);refine⟨c,O,x,s,?_,?_⟩
 ·rw[U];exact h1
 ·rw[X];exact h2
end
section
variable {P:Program} {T:Nat->Option Ty} {Γ:Env}
theorem Px {n:Nat} {args:List D} {w:World} {M:Nat->Prop} {vs:Array Value} (hM:∀b,M b->b<w.heap.size) (O:xo w M args vs) (hn:args.length<=n) (Y:n<=PK):Holds n M none w (b7 none args) { tmps:=vs++Array.replicate (n-vs.size) undef,defers:=[] } w:=by
 have hI:Inv n M none w (fun _=>none) (fun x v=>x<n∧v<0) (b7 none args).t (b7 none args).h { tmps:=vs++Array.replicate (n-vs.size) undef,defers:=[] } w:={
  tab:=fun b U=>(O.tab b U).less fun b U=>by
   rcases U with U|⟨x,r,g,X,_⟩
   ·exact U
   ·cases X
  below:=ey.refl _ _
  mlt:=hM
  lent:=fun b U=>absurd U pT
  pin:=fun go hg=>by cases hg
  defers:=rfl
  tsz:=by have:=O.1;simp;omega
  slots:=fun i=>by
   simp only[b7];rcases uj (n:=n) (i:=i) O.1 with he|he
   ·rw[he]
    by_cases Z:i<args.length
    ·have h1:=O.2 i _ (agP Z);have e1:args.getD i .und=args[i]:=by simp[List.getD,Z]
     rw[e1];exact bz (h1.less fun b U=>by
      rcases U with U|⟨x,r,g,X,_⟩
      ·exact U
      ·cases X)
    ·have e1:args.getD i .und=.und:=by simp[List.getD,aij (aip Z)]
     rw[e1];trivial
   ·rw[he];trivial
  rows:=fun x r X=>by cases X
  inj:=fun x y r s g g' X=>by cases X
  big:=Y
  pha:=fun y r g hy=>by cases hy
  ali:=fun y r g hy=>by cases hy }
 exact⟨_,⟨(by rw[Cb (fun k r hk=>by cases hk)];exact hI.weaken fun x v X=>absurd X.2 (Nat.not_lt_zero _)),fun x r ty s nv cs X=>by cases X⟩⟩
theorem Hp (hT:ig P T) {fn:Func} {M:Nat->Prop} {w w':World} {s:St} {a':Act} {rk:RK} (hH:Holds fn.ntmps M none w s a' w') (U:fF .clean T none fn.results.toList ⟨s.t,EH s.h,s.e⟩=some (rk,none)) :
  a'.defers=[]∧∃v,(results fn a'.tmps).run P w'=.ok v w'∧(∃v',Ending.returned v=.returned v'∧Below w.heap.size w w'∧s3 w w' M (fun _=>False) v' rk):=by
 obtain⟨blk',aa⟩:=hH;obtain⟨sE,X⟩:∃sE:St,sE=⟨s.t,EH s.h,s.e⟩:=⟨_,rfl⟩;have O:Inv fn.ntmps M none w blk' (VE fn.ntmps s.e [] s.h) sE.t sE.h a' w':=by rw[X];exact aa.inv
 rw[<- X]at U;have Y:Below w.heap.size w w':=O.below.below (fun b hb=>absurd hb pT);refine⟨O.defers,?_⟩;simp only[fF,pf,jI]at U;split at U<;>try (cases U;done)
 rename_i ds fr o Z ho;split at U<;>try (cases U;done)
 simp only[agL,Prod.mk.injEq]at U;obtain⟨rfl,_⟩:=U;obtain⟨v,ab,ad⟩:=qo (P:=P) hT O Z (O.acd fr);exact⟨v,ab,v,rfl,Y,ad⟩
def K3 (P:Program) (fn:Func) (c:Code) (rk:RK) (J:(Nat->D)->(Nat->Option Row)->Nat->Prop):Prop:=∀(w0:World) (M:Nat->Prop) (s:St) (a:Act) (w:World),J s.t s.h s.e->Holds fn.ntmps M none w0 s a w ->
 c.wp P (bodyPost P fn fun e w'=>∃v,e=.returned v∧Below w0.heap.size w0 w'∧s3 w0 w' M (fun _=>False) v rk) a w
theorem bW.front (Z:ig P T) (hΓ:bH P Γ) (hm:P.follows .mixedOrders=true) {α β:Type} {A:jn α} {F:α->Option β} {R:β->RK} {f:FuncId} {fn:Func} {c:Code} {k:Nat} {J:β->(Nat->D)->(Nat->Option Row)->Nat->Prop} (hf:P.funcs[f]? = some fn) (hb:fn.body=some c) (O:(codeOk (kq k c)&&spine k c)=true)
  (hc:(fn.name == "runtime.NumGoroutine")=false∧fn.body.isNone=false) (hn:∀a,(A.ds a).length<=fn.ntmps) (Y:fn.ntmps<=1000000) (h:∀a r,F a=some r->R3 T Γ FU k fn (A.ds a) (wC T fn.results.toList (R r,none) (J r))) (ht:∀r,K3 P fn (zV k c) (R r) (J r)):bW P f (dW A F R) where
 calls lent la rk out hg:=by
  obtain⟨rfl,rfl,a,r,rfl,hr,rfl⟩:=qY hg;rw[ahd]at O;intro w M vs hM U;obtain⟨c',X,x,s,h1,h2⟩:=h a r hr;rw[hb]at X;cases X;apply calls_of_wp hf hb;refine AO Z hΓ hm k c (b7 none (A.ds a)) x s _ _ O.2 h1 O.1 (Px hM U (hn a) (by rw[cv];exact Y)) ?_ ?_
  ·rintro rfl a' w' hH;exact ht r w M s a' w' h2 hH
  ·intro hx a' w' hH;cases x with
   | normal=>exact absurd rfl hx
   | exit n=>exact h2.elim
   | ret=>exact Hp Z hH h2
 callable:=⟨fn,hf,hc⟩
end
end Go.Proofs.YtoioidmblipblaaGreat.Am
namespace Go.Proofs.YtoioidmblipblaaGreat.P
open Go.RowKit
structure aD where
 aj:Int
 aa:(List Int)
structure aw where
 cu:aD
 ct:aD
structure fA where
 bU:Int
 aF:Int
structure bL where
 cD:Int
 jh:Int
 e8:aw
structure fP where
 az:Int
 aN:(List bL)
structure Sq where
 QA:Int
 acU:Int
structure fI where
 bf:Int
 aQ:Int
 aF:Int
structure s6 where
 bf:Int
 aQ:Int
 aF:Int
 Dw:ByteArray
structure fH where
 ah:(List fI)
 aJ:(List s6)
 aA:(List (List aw))
structure bE where
 ak:fH
 aK:(List fA)
 az:(List Int)
structure bP where
 au:(List Int)
 ao:(List bE)
def uf (U:(List Int)):(Int)->Option ((Int)⊕((Int)))
 | O =>
  if decide (O>0) then
   (P.idx U (IntKind.i64.wrap (O-1))).bind fun X =>
   if (X==0) then
    some (.inl (IntKind.i64.wrap (O-1)))
   else
    some (.inr O)
  else
   some (.inr O)
def gO (U:(List Int)):Option ((List Int)) :=
 (aS (uf U) (U.length:Int)).bind fun O =>
 (Fc U 0 O).bind fun X =>
 (mh 8 [] X).bind fun _ =>
 some X
def fe (U:Int) (X:(List Int)):Option (aD) :=
 (gO X).bind fun O =>
 if ((O.length:Int)==0) then
  some (aD.mk 0 ([]))
 else
  some (aD.mk U O)
def ve:(Int×(List Int))->Option ((Int×(List Int))⊕(((List Int))))
 | (O,U) =>
  if (O != 0) then
   (Ed .i64 O 1048576).bind fun X =>
   if decide (X<0) then
    (mh 8 U [IntKind.i64.wrap (0-X)]).bind fun Y =>
    (yS .i64 O 1048576).bind fun Z =>
    some (.inl (Z,Y))
   else
    (mh 8 U [X]).bind fun aa =>
    (yS .i64 O 1048576).bind fun ab =>
    some (.inl (ab,aa))
  else
   some (.inr U)
def ue (X:Int):Option (aD) :=
 if (X==0) then
  some (aD.mk 0 ([]))
 else
  (if decide (X<0) then
   some (-1)
  else
   some 1).bind fun O =>
  (aS (ve) (X,[])).bind fun U =>
  (fe O U).bind fun Y =>
  some Y
def oe (U:aD):(Int)->Option ((Int)⊕((Unit)⊕(Bool)))
 | O =>
  if decide (O<(U.aa.length:Int)) then
   (P.idx U.aa O).bind fun X =>
   if decide (X<0) then
    some (.inr (.inr false))
   else
    if decide (X>=1048576) then
     some (.inr (.inr false))
    else
     some (.inl (IntKind.i64.wrap (O+1)))
  else
   some (.inr (.inl ()))
def cY (O:aD):Option (Bool) :=
 (aS (oe O) 0).bind fun q=>match q with
 | (.inl _) =>
  (if decide (O.aj<(-1)) then
   some true
  else
   if decide (O.aj>1) then
    some true
   else
    some (!(((O.aa.length:Int)==0)==(O.aj==0)))).bind fun U =>
  if U then
   some false
  else
   if ((O.aa.length:Int)==0) then
    some true
   else
    (P.idx O.aa (IntKind.i64.wrap ((O.aa.length:Int)-1))).bind fun X =>
    some (X != 0)
 | (.inr Y) =>
  some Y
def ql (O:aD):Option (aD) :=
 (cY O).bind fun U =>
 if (!U) then
  some (aD.mk 0 ([]))
 else
  (fe (IntKind.i64.wrap (0-O.aj)) O.aa).bind fun X =>
  some X
def iy (O:(List Int)) (U:Int):Option (Int) :=
 if decide (U<(O.length:Int)) then
  (P.idx O U).bind fun X =>
  some X
 else
  some 0
def oo (p0:(List Int)) (p1:(List Int)) (U:Int):(Int×Int×(List Int))->Option ((Int×Int×(List Int))⊕(((List Int))))
 | (X,O,Y) =>
  (if decide (O<(p1.length:Int)) then
   some true
  else
   some (decide (X>0))).bind fun Z =>
  if Z then
   (P.idx Y (IntKind.i64.wrap (U+O))).bind fun aa =>
   (P.idx p0 U).bind fun ab =>
   (iy p1 O).bind fun ad =>
   (Ed .i64 (IntKind.i64.wrap ((IntKind.i64.wrap (aa+(IntKind.i64.wrap (ab*ad))))+X)) 1048576).bind fun ae =>
   (yS .i64 (IntKind.i64.wrap ((IntKind.i64.wrap (aa+(IntKind.i64.wrap (ab*ad))))+X)) 1048576).bind fun ag =>
   some (.inl (ag,IntKind.i64.wrap (O+1),(Y.set (IntKind.i64.wrap (U+O)).toNat ae)))
  else
   some (.inr Y)
def oh (Y:(List Int)) (Z:(List Int)):(Int×(List Int))->Option ((Int×(List Int))⊕(((List Int))))
 | (O,U) =>
  if decide (O<(Y.length:Int)) then
   (aS (oo Y Z O) (0,0,U)).bind fun X =>
   some (.inl (IntKind.i64.wrap (O+1),X))
  else
   some (.inr U)
def jS (U:(List Int)) (X:(List Int)):Option ((List Int)) :=
 (H5 8 (IntKind.i64.wrap ((U.length:Int)+(X.length:Int))) (IntKind.i64.wrap ((U.length:Int)+(X.length:Int))) 0).bind fun Z =>
 (aS (oh U X) (0,Z)).bind fun O =>
 (gO O).bind fun Y =>
 some Y
def qm (Y:(List Int)) (Z:(List Int)):(Int)->Option ((Int)⊕((Unit)⊕(Bool)))
 | O =>
  if decide (O>=0) then
   (iy Y O).bind fun U =>
   (iy Z O).bind fun X =>
   if (U != X) then
    some (.inr (.inr (decide (U<X))))
   else
    some (.inl (IntKind.i64.wrap (O-1)))
  else
   some (.inr (.inl ()))
def nn (O:(List Int)) (U:(List Int)):Option (Bool) :=
 (aS (qm O U) (IntKind.i64.wrap ((if (U.length:Int)>(O.length:Int) then (U.length:Int) else (O.length:Int))-1))).bind fun q=>match q with
 | (.inl _) =>
  some false
 | (.inr X) =>
  some X
def og (p0:(List Int)) (p1:(List Int)):(Int×Int×(List Int))->Option ((Int×Int×(List Int))⊕(((List Int))))
 | (U,O,X) =>
  if decide (O<(p0.length:Int)) then
   (P.idx p0 O).bind fun Y =>
   (iy p1 O).bind fun Z =>
   if decide ((IntKind.i64.wrap ((IntKind.i64.wrap (Y-Z))-U))<0) then
    (mh 8 X [IntKind.i64.wrap ((IntKind.i64.wrap ((IntKind.i64.wrap (Y-Z))-U))+1048576)]).bind fun aa =>
    some (.inl (1,IntKind.i64.wrap (O+1),aa))
   else
    (mh 8 X [IntKind.i64.wrap ((IntKind.i64.wrap (Y-Z))-U)]).bind fun ab =>
    some (.inl (0,IntKind.i64.wrap (O+1),ab))
  else
   some (.inr X)
def jR (X:(List Int)) (Y:(List Int)):Option ((List Int)) :=
 (aS (og X Y) (0,0,[])).bind fun O =>
 (gO O).bind fun U =>
 some U
def np (p1:(List Int)) (Y:(List Int)):(Int×Int)->Option ((Int×Int)⊕((Int)))
 | (U,O) =>
  if decide ((IntKind.i64.wrap (O-U))>1) then
   (yS .i64 (IntKind.i64.wrap (U+O)) 2).bind fun X =>
   (jS p1 ([X])).bind fun Z =>
   (nn Y Z).bind fun aa =>
   if aa then
    some (.inl (U,X))
   else
    some (.inl (X,O))
  else
   some (.inr U)
def qn (p0:(List Int)) (p1:(List Int)):((List Int)×Int×(List Int))->Option (((List Int)×Int×(List Int))⊕(((List Int)×(List Int))))
 | (Y,O,X) =>
  if decide (O>=0) then
   (P.idx p0 O).bind fun aa =>
   (mh 8 [aa] Y).bind fun ab =>
   (gO ab).bind fun Z =>
   (aS (np p1 Z) (0,1048576)).bind fun U =>
   (P.idx X O).bind fun ah =>
   (gO ([U])).bind fun ad =>
   (jS p1 ad).bind fun ae =>
   (jR Z ae).bind fun ag =>
   some (.inl (ag,IntKind.i64.wrap (O-1),(X.set (O).toNat U)))
  else
   some (.inr (Y,X))
def pD (X:(List Int)) (Z:(List Int)):Option ((List Int)×(List Int)) :=
 (H5 8 (X.length:Int) (X.length:Int) 0).bind fun x1 =>
 (aS (qn X Z) ([],IntKind.i64.wrap ((X.length:Int)-1),x1)).bind fun q=>match q with
 | (O,U) =>
  (gO U).bind fun Y =>
  some (Y,O)
def pC:((List Int)×(List Int))->Option (((List Int)×(List Int))⊕(((List Int))))
 | (U,O) =>
  if decide ((O.length:Int)>0) then
   (pD U O).bind fun X =>
   some (.inl (O,X.2))
  else
   some (.inr U)
def qk (Y:aD) (Z:aD):Option (aD×Int) :=
 (cY Y).bind fun r1 =>
 (if (!r1) then
  some true
 else
  (cY Z).bind fun X =>
  some (!X)).bind fun O =>
 if O then
  some ((aD.mk 0 ([])),1)
 else
  (aS (pC) (Y.aa,Z.aa)).bind fun U =>
  (fe 1 U).bind fun r9 =>
  some (r9,0)
def A3 (p0:(List Int)) (p1:(List Int)):(Int×Int×(List Int))->Option ((Int×Int×(List Int))⊕(((List Int))))
 | (U,O,Y) =>
  (if decide (O<(p0.length:Int)) then
   some true
  else
   if decide (O<(p1.length:Int)) then
    some true
   else
    some (decide (U>0))).bind fun X =>
  if X then
   (iy p0 O).bind fun Z =>
   (iy p1 O).bind fun aa =>
   (Ed .i64 (IntKind.i64.wrap ((IntKind.i64.wrap (Z+aa))+U)) 1048576).bind fun ab =>
   (mh 8 Y [ab]).bind fun ad =>
   (yS .i64 (IntKind.i64.wrap ((IntKind.i64.wrap (Z+aa))+U)) 1048576).bind fun ae =>
   some (.inl (ae,IntKind.i64.wrap (O+1),ad))
  else
   some (.inr Y)
def q9 (X:(List Int)) (Y:(List Int)):Option ((List Int)) :=
 (aS (A3 X Y) (0,0,[])).bind fun O =>
 (gO O).bind fun U =>
 some U
def od (Y:aD) (O:aD):Option (aD×aD×Int) :=
 (cY Y).bind fun r1 =>
 (if (!r1) then
  some true
 else
  (cY O).bind fun ab =>
  some (!ab)).bind fun U =>
 if U then
  some ((aD.mk 0 ([])),(aD.mk 0 ([])),1)
 else
  if (O.aj==0) then
   some ((aD.mk 0 ([])),(aD.mk 0 ([])),15)
  else
   (pD Y.aa O.aa).bind fun Z =>
   (if decide ((IntKind.i64.wrap (Y.aj*O.aj))>=0) then
    some true
   else
    some ((Z.2.length:Int)==0)).bind fun X =>
   if X then
    (fe (IntKind.i64.wrap (Y.aj*O.aj)) Z.1).bind fun r8 =>
    (fe Y.aj Z.2).bind fun r9 =>
    some (r8,r9,0)
   else
    (q9 Z.1 ([1])).bind fun ad =>
    (fe (-1) ad).bind fun ae =>
    (jR O.aa Z.2).bind fun ag =>
    (fe O.aj ag).bind fun ah =>
    some (ae,ah,0)
def sn (p0:aD) (p1:aD):Option (aw×Int) :=
 (cY p0).bind fun r1 =>
 (if (!r1) then
  some true
 else
  (cY p1).bind fun ae =>
  some (!ae)).bind fun Z =>
 if Z then
  some ((aw.mk (aD.mk 0 ([])) (aD.mk 0 ([]))),1)
 else
  if (p1.aj==0) then
   some ((aw.mk (aD.mk 0 ([])) (aD.mk 0 ([]))),15)
  else
   (if decide (p1.aj<0) then
    (ql p0).bind fun ab =>
    (ql p1).bind fun ad =>
    some (ab.aj,ab.aa,ad.aj,ad.aa)
   else
    some (p0.aj,p0.aa,p1.aj,p1.aa)).bind fun q=>match q with
   | (O,U,X,Y) =>
    (qk (aD.mk O U) (aD.mk X Y)).bind fun r6 =>
    (od (aD.mk O U) r6.1).bind fun r7 =>
    (od (aD.mk X Y) r6.1).bind fun r8 =>
    some ((aw.mk r7.1 r8.1),0)
def xf (U:Int) (X:Int):Option (aw×Int) :=
 (ue U).bind fun Y =>
 (ue X).bind fun Z =>
 (sn Y Z).bind fun O =>
 some (O.1,O.2)
def xX:Option (aw) :=
 (xf 1 2).bind fun O =>
 some O.1
def lH (O:Int):Option (aw) :=
 (xf O 1).bind fun U =>
 some U.1
def A2 (X:aD) (Y:aD):(Int)->Option ((Int)⊕((Unit)⊕(Bool)))
 | O =>
  if decide (O<(X.aa.length:Int)) then
   (P.idx X.aa O).bind fun Z =>
   (P.idx Y.aa O).bind fun U =>
   if (Z != U) then
    some (.inr (.inr false))
   else
    some (.inl (IntKind.i64.wrap (O+1)))
  else
   some (.inr (.inl ()))
def yr (U:aD) (X:aD):Option (Bool) :=
 (if (U.aj != X.aj) then
  some true
 else
  some ((U.aa.length:Int) != (X.aa.length:Int))).bind fun O =>
 if O then
  some false
 else
  (aS (A2 U X) 0).bind fun q=>match q with
  | (.inl _) =>
   some true
  | (.inr Y) =>
   some Y
def qh (U:aD) (X:aD):Option (Int) :=
 (cY U).bind fun Z =>
 (if (!Z) then
  some true
 else
  (cY X).bind fun r9 =>
  if (!r9) then
   some true
  else
   (yr U X).bind fun Y =>
   some Y).bind fun O =>
 if O then
  some 0
 else
  if (U.aj != X.aj) then
   if decide (U.aj<X.aj) then
    some (-1)
   else
    some 1
  else
   (nn U.aa X.aa).bind fun r6 =>
   if (r6==(decide (U.aj>0))) then
    some (-1)
   else
    some 1
def re (U:aw):Option (Bool) :=
 (cY U.cu).bind fun X =>
 (if (!X) then
  some true
 else
  (cY U.ct).bind fun Y =>
  if (!Y) then
   some true
  else
   some (decide (U.ct.aj<1))).bind fun O =>
 if O then
  some false
 else
  (qk U.cu U.ct).bind fun Z =>
  (ue 1).bind fun r5 =>
  (qh Z.1 r5).bind fun r6 =>
  some (r6==0)
def vd (U:aD) (X:aD):Option (aD×Int) :=
 (cY U).bind fun Y =>
 (if (!Y) then
  some true
 else
  (cY X).bind fun Z =>
  some (!Z)).bind fun O =>
 if O then
  some ((aD.mk 0 ([])),1)
 else
  (jS U.aa X.aa).bind fun r4 =>
  (fe (IntKind.i64.wrap (U.aj*X.aj)) r4).bind fun r5 =>
  some (r5,0)
def BZ (O:aD) (U:aD):Option (aD×Int) :=
 (cY O).bind fun r1 =>
 (if (!r1) then
  some true
 else
  (cY U).bind fun Z =>
  some (!Z)).bind fun X =>
 if X then
  some ((aD.mk 0 ([])),1)
 else
  (if (O.aj==0) then
   some true
  else
   if (U.aj==0) then
    some true
   else
    some (O.aj==U.aj)).bind fun Y =>
  if Y then
   (q9 O.aa U.aa).bind fun r6 =>
   (fe (j0 .or .i64 O.aj U.aj) r6).bind fun r7 =>
   some (r7,0)
  else
   (nn O.aa U.aa).bind fun r8 =>
   if r8 then
    (jR U.aa O.aa).bind fun ab =>
    (fe U.aj ab).bind fun ad =>
    some (ad,0)
   else
    (jR O.aa U.aa).bind fun ae =>
    (fe O.aj ae).bind fun ag =>
    some (ag,0)
def B0 (X:aD) (O:aD):Option (aD×Int) :=
 (cY O).bind fun Y =>
 if (!Y) then
  some ((aD.mk 0 ([])),1)
 else
  (ql O).bind fun Z =>
  (BZ X Z).bind fun U =>
  some (U.1,U.2)
def B1 (U:aw) (X:aw):Option (aw×Int) :=
 (re U).bind fun r1 =>
 (if (!r1) then
  some true
 else
  (re X).bind fun Y =>
  some (!Y)).bind fun O =>
 if O then
  some ((aw.mk (aD.mk 0 ([])) (aD.mk 0 ([]))),1)
 else
  (vd U.cu X.ct).bind fun r4 =>
  (vd X.cu U.ct).bind fun r5 =>
  (vd U.ct X.ct).bind fun r6 =>
  (B0 r4.1 r5.1).bind fun r7 =>
  (sn r7.1 r6.1).bind fun Z =>
  some (Z.1,Z.2)
def kP (X:Int) (U:aw):Option (bP) :=
 (lH 1).bind fun O =>
 (B1 O U).bind fun Y =>
 some (bP.mk ([20,10]) ([(bE.mk (fH.mk ([(fI.mk 1 0 0),(fI.mk 0 0 0)]) ([(s6.mk 0 0 0 (ByteArray.mk #[]))]) ([[O,O]])) ([(fA.mk 1 X)]) ([0])),(bE.mk (fH.mk ([(fI.mk 1 0 0)]) ([(s6.mk 0 0 0 (ByteArray.mk #[])),(s6.mk 2 0 0 (ByteArray.mk #[104,101,97,116]))]) ([[U],[Y.1]])) ([(fA.mk 0 20)]) ([1]))]))
def dT (O:Int) (U:Int) (X:Int):Option (Bool) :=
 if decide (O>=U) then
  some (decide (O<=X))
 else
  some false
def kO (U:(List Int)):(Int)->Option ((Int)⊕((Int)))
 | O =>
  if decide (O>0) then
   (P.idx U (IntKind.i64.wrap (O-1))).bind fun X =>
   if (X==0) then
    some (.inl (IntKind.i64.wrap (O-1)))
   else
    some (.inr O)
  else
   some (.inr O)
def ec (U:(List Int)):Option ((List Int)) :=
 (aS (kO U) (U.length:Int)).bind fun O =>
 (Fc U 0 O).bind fun X =>
 some X
def da (U:Int) (X:(List Int)):Option (aD) :=
 (ec X).bind fun O =>
 if ((O.length:Int)==0) then
  some (aD.mk 0 ([]))
 else
  some (aD.mk U O)
def uU:(Int×(List Int))->Option ((Int×(List Int))⊕(((List Int))))
 | (O,U) =>
  if decide (O>0) then
   (mh 8 U [IntKind.i64.wrap (j0 .and .u64 O 1048575)]).bind fun Y =>
   (BL .u64 O 20).bind fun X =>
   some (.inl (X,Y))
  else
   some (.inr U)
def rK (Y:Int):Option (aD) :=
 (if decide (Y<0) then
  some ((-1),IntKind.u64.wrap (0-(IntKind.u64.wrap Y)))
 else
  some (1,IntKind.u64.wrap Y)).bind fun q=>match q with
 | (O,U) =>
  (aS (uU) (U,[])).bind fun X =>
  (da O X).bind fun Z =>
  some Z
def jt (O:Int):Option (aw) :=
 (rK O).bind fun U =>
 (rK 1).bind fun X =>
 some (aw.mk U X)
def nS (U:aD):(Int)->Option ((Int)⊕((Unit)⊕(Bool)))
 | O =>
  if decide (O<(U.aa.length:Int)) then
   (P.idx U.aa O).bind fun X =>
   if decide (X<0) then
    some (.inr (.inr false))
   else
    if decide (X>1048575) then
     some (.inr (.inr false))
    else
     some (.inl (IntKind.i64.wrap (O+1)))
  else
   some (.inr (.inl ()))
def cX (O:aD):Option (Bool) :=
 (aS (nS O) 0).bind fun q=>match q with
 | (.inl _) =>
  if ((O.aa.length:Int)==0) then
   some (O.aj==0)
  else
   if (O.aj==1) then
    (P.idx O.aa (IntKind.i64.wrap ((O.aa.length:Int)-1))).bind fun U =>
    some (U != 0)
   else
    if (O.aj==(-1)) then
     (P.idx O.aa (IntKind.i64.wrap ((O.aa.length:Int)-1))).bind fun X =>
     some (X != 0)
    else
     some false
 | (.inr Y) =>
  some Y
def eD (O:Bool) (U:aD):Option (aD×Int) :=
 if (!O) then
  some ((aD.mk 0 ([])),1)
 else
  some (U,0)
def dc (O:(List Int)):Option (List Int):=mh 8 [] O
def ox (O:Int):Option (Bool) :=
 some (O != O)
def gh (O:Int) (p1:Int):Option (Int) :=
 (ox O).bind fun X =>
 (ox p1).bind fun U =>
 if X then
  if U then
   some 0
  else
   some (-1)
 else
  if U then
   some 1
  else
   if decide (O<p1) then
    some (-1)
   else
    if decide (O>p1) then
     some 1
    else
     some 0
def lq (Z:(List Int)) (p1:(List Int)):(Int)->Option ((Int)⊕((Unit)⊕(Int)))
 | O =>
  if decide (O>=0) then
   (P.idx Z O).bind fun U =>
   (P.idx p1 O).bind fun X =>
   if (U != X) then
    (gh U X).bind fun Y =>
    some (.inr (.inr Y))
   else
    some (.inl (IntKind.i64.wrap (O-1)))
  else
   some (.inr (.inl ()))
def gg (O:(List Int)) (U:(List Int)):Option (Int) :=
 if ((O.length:Int) != (U.length:Int)) then
  (gh (O.length:Int) (U.length:Int)).bind fun X =>
  some X
 else
  (aS (lq O U) (IntKind.i64.wrap ((O.length:Int)-1))).bind fun q=>match q with
  | (.inl _) =>
   some 0
  | (.inr Y) =>
   some Y
def nU (p0:(List Int)) (p1:Int):(Int×Int×(List Int))->Option ((Int×Int×(List Int))⊕((Int×(List Int))))
 | (X,O,U) =>
  if decide (O>=0) then
   (F6 .i64 X 20).bind fun Y =>
   (P.idx p0 O).bind fun Z =>
   (yS .i64 (j0 .or .i64 Y Z) p1).bind fun aa =>
   (P.idx U O).bind fun ad =>
   (Ed .i64 (j0 .or .i64 Y Z) p1).bind fun ab =>
   some (.inl (ab,IntKind.i64.wrap (O-1),(U.set (O).toNat aa)))
  else
   some (.inr (X,U))
def mi (X:(List Int)) (Z:Int):Option ((List Int)×Int) :=
 (H5 8 (X.length:Int) (X.length:Int) 0).bind fun x1 =>
 (aS (nU X Z) (0,IntKind.i64.wrap ((X.length:Int)-1),x1)).bind fun q=>match q with
 | (O,U) =>
  (ec U).bind fun Y =>
  some (Y,O)
def rQ (p1:(List Int)) (U:Int) (Z:Int):(Int×Int×(List Int))->Option ((Int×Int×(List Int))⊕((Int×(List Int))))
 | (X,O,Y) =>
  if decide (O<(p1.length:Int)) then
   (P.idx p1 O).bind fun aa =>
   (P.idx Y (IntKind.i64.wrap (U+O))).bind fun ab =>
   (BL .i64 (IntKind.i64.wrap ((IntKind.i64.wrap (ab+(IntKind.i64.wrap (Z*aa))))+X)) 20).bind fun ad =>
   some (.inl (ad,IntKind.i64.wrap (O+1),(Y.set (IntKind.i64.wrap (U+O)).toNat (j0 .and .i64 (IntKind.i64.wrap ((IntKind.i64.wrap (ab+(IntKind.i64.wrap (Z*aa))))+X)) 1048575))))
  else
   some (.inr (X,Y))
def rP (p0:(List Int)) (Z:(List Int)):(Int×(List Int))->Option ((Int×(List Int))⊕(((List Int))))
 | (O,X) =>
  if decide (O<(p0.length:Int)) then
   (P.idx p0 O).bind fun aa =>
   (aS (rQ Z O aa) (0,0,X)).bind fun q=>match q with
   | (Y,U) =>
    (P.idx U (IntKind.i64.wrap (O+(Z.length:Int)))).bind fun ab =>
    some (.inl (IntKind.i64.wrap (O+1),(U.set (IntKind.i64.wrap (O+(Z.length:Int))).toNat (IntKind.i64.wrap (ab+Y)))))
  else
   some (.inr X)
def nT (U:(List Int)) (X:(List Int)):Option ((List Int)) :=
 (H5 8 (IntKind.i64.wrap ((U.length:Int)+(X.length:Int))) (IntKind.i64.wrap ((U.length:Int)+(X.length:Int))) 0).bind fun Z =>
 (aS (rP U X) (0,Z)).bind fun O =>
 (ec O).bind fun Y =>
 some Y
def kn (p0:(List Int)) (p1:(List Int)) (p2:Int):(Int×Int×(List Int))->Option ((Int×Int×(List Int))⊕((Int×(List Int))))
 | (X,O,Y) =>
  if decide (O<((p0).length:Int)) then
   (P.idx Y O).bind fun Z =>
   (if decide (O<(p1.length:Int)) then
    (P.idx p1 O).bind fun aa =>
    some (IntKind.i64.wrap ((IntKind.i64.wrap (Z-X))-(IntKind.i64.wrap (p2*aa))))
   else
    some (IntKind.i64.wrap (Z-X))).bind fun U =>
   (BL .i64 U 20).bind fun ab =>
   some (.inl (IntKind.i64.wrap (0-ab),IntKind.i64.wrap (O+1),(Y.set (O).toNat (j0 .and .i64 U 1048575))))
  else
   some (.inr (X,Y))
def ko (p1:(List Int)) (Z:(List Int)):(Int×Int×(List Int))->Option ((Int×Int×(List Int))⊕(((List Int))))
 | (X,O,Y) =>
  if decide (O<((Z).length:Int)) then
   (P.idx Y O).bind fun aa =>
   (if decide (O<(p1.length:Int)) then
    (P.idx p1 O).bind fun ab =>
    some (IntKind.i64.wrap ((IntKind.i64.wrap (X+aa))+ab))
   else
    some (IntKind.i64.wrap (X+aa))).bind fun U =>
   (BL .i64 U 20).bind fun ad =>
   some (.inl (ad,IntKind.i64.wrap (O+1),(Y.set (O).toNat (j0 .and .i64 U 1048575))))
  else
   some (.inr Y)
def oT (Z:(List Int)) (p1:(List Int)) (Y:Int):Option ((List Int)×(Int)) :=
 (aS (kn Z p1 Y) (0,0,Z)).bind fun q=>match q with
 | (U,O) =>
  if (U==0) then
   some (O,Y)
  else
   (aS (ko p1 O) (0,0,O)).bind fun X =>
   some (X,IntKind.i64.wrap (Y-1))
def fR (O:(List Int)) (U:(List Int)) (X:Int):Option ((List Int)×(Int)):=(oT O U X).bind fun r=>if r.1.length=O.length then some r else none
theorem zu {O:(List Int)} {U:(List Int)} {X:Int} {r:(List Int)×(Int)} (h:fR O U X=some r):r.1.length=O.length:=by
 unfold fR at h;obtain⟨q,Y,h⟩:=ae h;split at h
 ·cases h;assumption
 ·cases h
def rM (X:(List Int)):(Int)->Option ((Int)⊕((Int)))
 | O =>
  (P.idx X (IntKind.i64.wrap ((X.length:Int)-1))).bind fun U =>
  if decide ((IntKind.i64.wrap (U*O))<524288) then
   some (.inl (IntKind.i64.wrap (O*2)))
  else
   some (.inr O)
def rO (Y:(List Int)) (Z:Int) (aa:(List Int)) (ab:Int):(Int×Int)->Option ((Int×Int)⊕((Int)))
 | (O,U) =>
  (if decide (O>=1048576) then
   some true
  else
   if decide (U<1048576) then
    (P.idx Y (IntKind.i64.wrap (((Y).length:Int)-2))).bind fun ad =>
    (F6 .i64 U 20).bind fun ae =>
    (P.idx aa (IntKind.i64.wrap ((IntKind.i64.wrap (Z+((Y).length:Int)))-2))).bind fun ag =>
    some (decide ((IntKind.i64.wrap (O*ad))>(j0 .or .i64 ae ag)))
   else
    some false).bind fun X =>
  if X then
   some (.inl (IntKind.i64.wrap (O-1),IntKind.i64.wrap (U+ab)))
  else
   some (.inr O)
def rN (U:(List Int)):(Int×(List Int)×(List Int))->Option ((Int×(List Int)×(List Int))⊕(((List Int)×(List Int))))
 | (O,X,Y) =>
  if decide (O>=0) then
   (P.idx X (IntKind.i64.wrap (O+((U).length:Int)))).bind fun ag =>
   (F6 .i64 ag 20).bind fun ab =>
   (P.idx X (IntKind.i64.wrap ((IntKind.i64.wrap (O+((U).length:Int)))-1))).bind fun ad =>
   (P.idx U (IntKind.i64.wrap (((U).length:Int)-1))).bind fun Z =>
   (yS .i64 (j0 .or .i64 ab ad) Z).bind fun ah =>
   (Ed .i64 (j0 .or .i64 ab ad) Z).bind fun ai =>
   (aS (rO U O X Z) (ah,ai)).bind fun aa =>
   (Fc X O (IntKind.i64.wrap ((IntKind.i64.wrap (O+((U).length:Int)))+1))).bind fun aj =>
   (fR aj U aa).bind fun ae =>
   (P.idx Y O).bind fun ak =>
   some (.inl (IntKind.i64.wrap (O-1),(X.take (O).toNat++(ae.1++X.drop (IntKind.i64.wrap ((IntKind.i64.wrap (O+((U).length:Int)))+1)).toNat)),(Y.set (O).toNat ae.2)))
  else
   some (.inr (X,Y))
def rL (p0:(List Int)) (p1:(List Int)):Option ((List Int)×(List Int)) :=
 (gg p0 p1).bind fun r1 =>
 if decide (r1<0) then
  (dc p0).bind fun r3 =>
  some ([],r3)
 else
  if ((p1.length:Int)==1) then
   (P.idx p1 0).bind fun x5 =>
   (mi p0 x5).bind fun r6 =>
   (ec ([r6.2])).bind fun r8 =>
   some (r6.1,r8)
  else
   (aS (rM p1) 1).bind fun O =>
   (nT p0 ([O])).bind fun ad =>
   (mh 8 ad [0]).bind fun X =>
   (nT p1 ([O])).bind fun Y =>
   (if (((X).length:Int)==(p0.length:Int)) then
    (mh 8 X [0]).bind fun ae =>
    some ae
   else
    some X).bind fun U =>
   (H5 8 (IntKind.i64.wrap (((U).length:Int)-((Y).length:Int))) (IntKind.i64.wrap (((U).length:Int)-((Y).length:Int))) 0).bind fun aa =>
   (aS (rN Y) (IntKind.i64.wrap (((aa).length:Int)-1),U,aa)).bind fun q=>match q with
   | (ab,Z) =>
    (ec ab).bind fun ag =>
    (mi ag O).bind fun ah =>
    (ec Z).bind fun ai =>
    some (ai,ah.1)
def oR:((List Int)×(List Int))->Option (((List Int)×(List Int))⊕(((List Int))))
 | (U,O) =>
  if decide ((O.length:Int)>0) then
   (rL U O).bind fun X =>
   some (.inl (O,X.2))
  else
   some (.inr U)
def pU (p0:aD) (p1:aD):Option (aD×Int) :=
 (cX p0).bind fun r1 =>
 (if (!r1) then
  some true
 else
  (cX p1).bind fun Y =>
  some (!Y)).bind fun O =>
 if O then
  (eD false (aD.mk 0 ([]))).bind fun r5 =>
  some (r5.1,r5.2)
 else
  (dc p0.aa).bind fun r6 =>
  (aS (oR) (r6,p1.aa)).bind fun U =>
  (dc U).bind fun Z =>
  (da 1 Z).bind fun ab =>
  (eD true ab).bind fun X =>
  some (X.1,X.2)
def rJ (p0:aD):(Int×Int)->Option ((Int×Int)⊕((Int)⊕(Int×Bool)))
 | (X,O) =>
  if decide (O<(p0.aa.length:Int)) then
   (P.idx p0.aa O).bind fun Y =>
   (if (O==3) then
    some (decide (Y>8))
   else
    some false).bind fun U =>
   if U then
    some (.inr (.inr (0,false)))
   else
    (F6 .u64 (IntKind.u64.wrap Y) (IntKind.i64.wrap (20*O))).bind fun Z =>
    some (.inl (j0 .or .u64 X Z,IntKind.i64.wrap (O+1)))
  else
   some (.inr (.inl X))
def uS (Y:aD):Option (Int×Bool) :=
 (cX Y).bind fun Z =>
 (if (!Z) then
  some true
 else
  some (decide ((Y.aa.length:Int)>4))).bind fun U =>
 if U then
  some (0,false)
 else
  (aS (rJ Y) (0,0)).bind fun q=>match q with
  | (.inl O) =>
   (if decide (Y.aj<0) then
    some (decide (O<=9223372036854775808))
   else
    some false).bind fun X =>
   if X then
    some (IntKind.i64.wrap (IntKind.u64.wrap (0-O)),true)
   else
    if decide (Y.aj>=0) then
     if decide (O<9223372036854775808) then
      some (IntKind.i64.wrap O,true)
     else
      some (0,false)
    else
     some (0,false)
  | (.inr rb) =>
   some rb
def qT (U:aD):Option (Bool) :=
 (uS U).bind fun O =>
 if O.2 then
  some (O.1==1)
 else
  some false
def dz (U:aw):Option (Bool) :=
 (cX U.cu).bind fun Y =>
 (if (!Y) then
  some true
 else
  (cX U.ct).bind fun Z =>
  if (!Z) then
   some true
  else
   some (U.ct.aj != 1)).bind fun O =>
 if O then
  some false
 else
  (pU U.cu U.ct).bind fun X =>
  if (X.2==0) then
   (qT X.1).bind fun r6 =>
   some r6
  else
   some false
def ir (O:aw):Option (Int) :=
 (dz O).bind fun U =>
 if (!U) then
  some 0
 else
  some O.cu.aj
def uT (U:aD) (X:aD):Option (aD×Int) :=
 (cX U).bind fun r1 =>
 (if (!r1) then
  some true
 else
  (cX X).bind fun Y =>
  some (!Y)).bind fun O =>
 if O then
  (eD false (aD.mk 0 ([]))).bind fun Z =>
  some (Z.1,Z.2)
 else
  (nT U.aa X.aa).bind fun r6 =>
  (da (IntKind.i64.wrap (U.aj*X.aj)) r6).bind fun r7 =>
  (eD true r7).bind fun r8 =>
  some (r8.1,r8.2)
def db (O:aD) (U:aD):Option (aD) :=
 (uT O U).bind fun X =>
 some X.1
def uX (U:(List Int)):(Int)->Option ((Int)⊕((Unit)⊕(Int)))
 | O =>
  if decide (O<(U.length:Int)) then
   (P.idx U O).bind fun X =>
   if (X != 0) then
    some (.inr (.inr X))
   else
    some (.inl (IntKind.i64.wrap (O+1)))
  else
   some (.inr (.inl ()))
def tn (O:(List Int)):Option (Int) :=
 (aS (uX O) 0).bind fun q=>match q with
 | (.inl _) =>
  some 0
 | (.inr U) =>
  some U
def oS (U:(List Int)) (X:(List Int)):(Int×Int×(List Int))->Option ((Int×Int×(List Int))⊕((Int×(List Int))))
 | (Z,O,aa) =>
  if decide (O<(U.length:Int)) then
   (P.idx U O).bind fun ab =>
   (if decide (O<(X.length:Int)) then
    (P.idx X O).bind fun ad =>
    some (IntKind.i64.wrap ((IntKind.i64.wrap (Z+ab))+ad))
   else
    some (IntKind.i64.wrap (Z+ab))).bind fun Y =>
   (P.idx aa O).bind fun ag =>
   (BL .i64 Y 20).bind fun ae =>
   some (.inl (ae,IntKind.i64.wrap (O+1),(aa.set (O).toNat (j0 .and .i64 Y 1048575))))
  else
   some (.inr (Z,aa))
def pV (Z:(List Int)) (p1:(List Int)):Option ((List Int)) :=
 (if decide ((Z.length:Int)<(p1.length:Int)) then
  some (p1,Z)
 else
  some (Z,p1)).bind fun q=>match q with
 | (O,X) =>
  (H5 8 (IntKind.i64.wrap ((O.length:Int)+1)) (IntKind.i64.wrap ((O.length:Int)+1)) 0).bind fun x2 =>
  (aS (oS O X) (0,0,x2)).bind fun q=>match q with
  | (Y,U) =>
   (P.idx U (O.length:Int)).bind fun ab =>
   (ec (U.set ((O.length:Int)).toNat Y)).bind fun aa =>
   some aa
def rR (p1:(List Int)) (r1:(List Int)):(Int×Int×(List Int))->Option ((Int×Int×(List Int))⊕(((List Int))))
 | (Y,O,X) =>
  if decide (O<((r1).length:Int)) then
   (P.idx X O).bind fun Z =>
   (if decide (O<(p1.length:Int)) then
    (P.idx p1 O).bind fun aa =>
    some (IntKind.i64.wrap ((IntKind.i64.wrap (Z-Y))-aa))
   else
    some (IntKind.i64.wrap (Z-Y))).bind fun U =>
   (BL .i64 U 20).bind fun ab =>
   some (.inl (j0 .and .i64 ab 1,IntKind.i64.wrap (O+1),(X.set (O).toNat (j0 .and .i64 U 1048575))))
  else
   some (.inr X)
def pW (Y:(List Int)) (Z:(List Int)):Option ((List Int)) :=
 (dc Y).bind fun X =>
 (aS (rR Z X) (0,0,X)).bind fun O =>
 (ec O).bind fun U =>
 some U
def uR (O:aD) (U:aD):Option (aD×Int) :=
 (cX O).bind fun r1 =>
 (if (!r1) then
  some true
 else
  (cX U).bind fun ad =>
  some (!ad)).bind fun X =>
 if X then
  (eD false (aD.mk 0 ([]))).bind fun r5 =>
  some (r5.1,r5.2)
 else
  if decide ((IntKind.i64.wrap (O.aj*U.aj))>=0) then
   (tn ([O.aj,U.aj])).bind fun r8 =>
   (pV O.aa U.aa).bind fun r9 =>
   (da r8 r9).bind fun ae =>
   (eD true ae).bind fun Y =>
   some (Y.1,Y.2)
  else
   (gg O.aa U.aa).bind fun ag =>
   if decide (ag<0) then
    (pW U.aa O.aa).bind fun ah =>
    (da U.aj ah).bind fun ai =>
    (eD true ai).bind fun Z =>
    some (Z.1,Z.2)
   else
    (pW O.aa U.aa).bind fun ak =>
    (da O.aj ak).bind fun al =>
    (eD true al).bind fun ab =>
    some (ab.1,ab.2)
def nR (O:aD):Option (aD) :=
 (cX O).bind fun U =>
 if (!U) then
  some (aD.mk 0 ([]))
 else
  (dc O.aa).bind fun X =>
  (da (IntKind.i64.wrap (0-O.aj)) X).bind fun Y =>
  some Y
def nQ (X:aD) (O:aD):Option (aD×aD×Int) :=
 (cX X).bind fun r1 =>
 (if (!r1) then
  some true
 else
  (cX O).bind fun ab =>
  some (!ab)).bind fun Y =>
 if Y then
  some ((aD.mk 0 ([])),(aD.mk 0 ([])),1)
 else
  if (O.aj==0) then
   some ((aD.mk 0 ([])),(aD.mk 0 ([])),15)
  else
   (rL X.aa O.aa).bind fun Z =>
   (if decide ((IntKind.i64.wrap (X.aj*O.aj))<0) then
    some (decide ((Z.2.length:Int)>0))
   else
    some false).bind fun U =>
   if U then
    (pV Z.1 ([1])).bind fun r9 =>
    (da (-1) r9).bind fun ad =>
    (pW O.aa Z.2).bind fun ae =>
    (da O.aj ae).bind fun ag =>
    some (ad,ag,0)
   else
    (da (IntKind.i64.wrap (X.aj*O.aj)) Z.1).bind fun ah =>
    (da X.aj Z.2).bind fun ai =>
    some (ah,ai,0)
def mV (p0:aD) (p1:aD):Option (aw×Int) :=
 (cX p0).bind fun r1 =>
 (if (!r1) then
  some true
 else
  (cX p1).bind fun ae =>
  some (!ae)).bind fun Z =>
 if Z then
  some ((aw.mk (aD.mk 0 ([])) (aD.mk 0 ([]))),1)
 else
  if (p1.aj==0) then
   some ((aw.mk (aD.mk 0 ([])) (aD.mk 0 ([]))),15)
  else
   (if decide (p1.aj<0) then
    (nR p0).bind fun ab =>
    (nR p1).bind fun ad =>
    some (ab.aj,ab.aa,ad.aj,ad.aa)
   else
    some (p0.aj,p0.aa,p1.aj,p1.aa)).bind fun q=>match q with
   | (O,U,X,Y) =>
    (pU (aD.mk O U) (aD.mk X Y)).bind fun r6 =>
    (nQ (aD.mk O U) r6.1).bind fun r7 =>
    (nQ (aD.mk X Y) r6.1).bind fun r8 =>
    some ((aw.mk r7.1 r8.1),0)
def lx (U:aw) (X:aw):Option (aw×Int) :=
 (dz U).bind fun r1 =>
 (if (!r1) then
  some true
 else
  (dz X).bind fun Y =>
  some (!Y)).bind fun O =>
 if O then
  some ((aw.mk (aD.mk 0 ([])) (aD.mk 0 ([]))),1)
 else
  (db U.cu X.ct).bind fun r4 =>
  (db X.cu U.ct).bind fun r5 =>
  (uR r4 r5).bind fun r6 =>
  (db U.ct X.ct).bind fun r7 =>
  (mV r6.1 r7).bind fun Z =>
  some (Z.1,Z.2)
def n5 (O:aw) (U:aw):Option (aw) :=
 (lx O U).bind fun X =>
 some X.1
def kN (U:aD) (X:aD):Option (Int) :=
 (cX U).bind fun Y =>
 (if (!Y) then
  some true
 else
  (cX X).bind fun Z =>
  some (!Z)).bind fun O =>
 if O then
  some 0
 else
  if (U.aj != X.aj) then
   (gh U.aj X.aj).bind fun r5 =>
   some r5
  else
   (gg U.aa X.aa).bind fun r6 =>
   some (IntKind.i64.wrap (U.aj*r6))
def iK (U:aw) (X:aw):Option (Int) :=
 (dz U).bind fun Y =>
 (if (!Y) then
  some true
 else
  (dz X).bind fun Z =>
  some (!Z)).bind fun O =>
 if O then
  some 0
 else
  (db U.cu X.ct).bind fun r4 =>
  (db X.cu U.ct).bind fun r5 =>
  (kN r4 r5).bind fun r6 =>
  some r6
def n9 (p0:(List aw)):(Int×Int×(List Int)×Int×(List Int))->Option ((Int×Int×(List Int)×Int×(List Int))⊕((Int×(List Int)×Int×(List Int))⊕(Bool)))
 | (ab,O,U,X,Y) =>
  if decide (ab<(p0.length:Int)) then
   (P.idx p0 ab).bind fun ad =>
   (dz ad).bind fun ae =>
   if (!ae) then
    some (.inr (.inr false))
   else
    (ir ad).bind fun ag =>
    if decide (ag<0) then
     some (.inr (.inr false))
    else
     (n5 (aw.mk (aD.mk O U) (aD.mk X Y)) ad).bind fun Z =>
     some (.inl (IntKind.i64.wrap (ab+1),Z.cu.aj,Z.cu.aa,Z.ct.aj,Z.ct.aa))
  else
   some (.inr (.inl (O,U,X,Y)))
def oG (p0:(List aw)):Option (Bool) :=
 (jt 0).bind fun Z =>
 (aS (n9 p0) (0,Z.cu.aj,Z.cu.aa,Z.ct.aj,Z.ct.aa)).bind fun q=>match q with
 | (.inl (O,U,X,Y)) =>
  (jt 1).bind fun ab =>
  (iK (aw.mk (aD.mk O U) (aD.mk X Y)) ab).bind fun ad =>
  some (ad==0)
 | (.inr ra) =>
  some ra
def jP (X:fH):(Int)->Option ((Int)⊕((Unit)⊕(Bool)))
 | O =>
  if decide (O<(X.aJ.length:Int)) then
   (P.idx X.aJ O).bind fun U =>
   (dT U.bf 0 3).bind fun Y =>
   if (!Y) then
    some (.inr (.inr false))
   else
    if decide (U.aQ<0) then
     some (.inr (.inr false))
    else
     (P.idx X.aA O).bind fun Z =>
     if ((Z.length:Int) != (X.ah.length:Int)) then
      some (.inr (.inr false))
     else
      some (.inl (IntKind.i64.wrap (O+1)))
  else
   some (.inr (.inl ()))
def gp (p0:fH) (X:Int):(Int×(List aw))->Option ((Int×(List aw))⊕(((List aw))))
 | (O,U) =>
  if decide (O<(p0.aJ.length:Int)) then
   (P.idx p0.aA O).bind fun Y =>
   (P.idx Y X).bind fun Z =>
   (P.idx U O).bind fun aa =>
   some (.inl (IntKind.i64.wrap (O+1),(U.set (O).toNat Z)))
  else
   some (.inr U)
def jQ (U:fH):(Int)->Option ((Int)⊕((Unit)⊕(Bool)))
 | O =>
  if decide (O<(U.ah.length:Int)) then
   (P.idx U.ah O).bind fun X =>
   (H5 64 (U.aJ.length:Int) (U.aJ.length:Int) (aw.mk (aD.mk 0 ([])) (aD.mk 0 ([])))).bind fun Z =>
   (aS (gp U O) (0,Z)).bind fun Y =>
   (dT X.bf 0 2).bind fun aa =>
   if (!aa) then
    some (.inr (.inr false))
   else
    if decide (X.aQ<0) then
     some (.inr (.inr false))
    else
     (oG Y).bind fun ab =>
     if (!ab) then
      some (.inr (.inr false))
     else
      some (.inl (IntKind.i64.wrap (O+1)))
  else
   some (.inr (.inl ()))
def iX (U:fH):Option (Bool) :=
 (if decide ((U.ah.length:Int)>100) then
  some true
 else
  if decide ((U.aJ.length:Int)>100) then
   some true
  else
   some ((U.aA.length:Int) != (U.aJ.length:Int))).bind fun O =>
 if O then
  some false
 else
  (aS (jP U) 0).bind fun q=>match q with
  | (.inl _) =>
   (aS (jQ U) 0).bind fun q=>match q with
   | (.inl _) =>
    some true
   | (.inr rc) =>
    some rc
  | (.inr X) =>
   some X
def mv (O:fA) (U:Int):Option (Bool) :=
 (dT O.bU 0 (IntKind.i64.wrap (U-1))).bind fun X =>
 if (!X) then
  some true
 else
  (dT O.aF 1 1099511627776).bind fun Y =>
  some (!Y)
def mw (O:Int) (U:Int):Option (Bool) :=
 (dT O 0 (IntKind.i64.wrap (U-1))).bind fun X =>
 some (!X)
def mN (O:(List Int)):Option (List Int):=KP O
def cH (O:(List Int)):Option (List Int):=B7 O
def lE (U:(List Int)):(Int)->Option ((Int)⊕((Unit)⊕(Bool)))
 | O =>
  if decide (O<((U).length:Int)) then
   (P.idx U O).bind fun X =>
   if (O != X) then
    some (.inr (.inr false))
   else
    some (.inl (IntKind.i64.wrap (O+1)))
  else
   some (.inr (.inl ()))
def jx (U:(List Int)) (X:Int):Option (Bool) :=
 (mN U).bind fun Y =>
 (cH Y).bind fun O =>
 (aS (lE O) 0).bind fun q=>match q with
 | (.inl _) =>
  some (((O).length:Int)==X)
 | (.inr Z) =>
  some Z
def de (X:(List fA)) (U:Int):(Int)->Option ((Int)⊕((Unit)⊕(Int)))
 | O =>
  if decide (O<(X.length:Int)) then
   (P.idx X O).bind fun Y =>
   (mv Y U).bind fun Z =>
   if Z then
    some (.inr (.inr O))
   else
    some (.inl (IntKind.i64.wrap (O+1)))
  else
   some (.inr (.inl ()))
def cL (U:(List fA)) (O:Int):Option (Int) :=
 (aS (de U O) 0).bind fun q=>match q with
 | (.inl _) =>
  some (-1)
 | (.inr X) =>
  some X
def bX (U:(List fA)) (O:Int):Option (Bool) :=
 (cL U O).bind fun X =>
 some (decide (X>=0))
def df (X:(List Int)) (U:Int):(Int)->Option ((Int)⊕((Unit)⊕(Int)))
 | O =>
  if decide (O<(X.length:Int)) then
   (P.idx X O).bind fun Y =>
   (mw Y U).bind fun Z =>
   if Z then
    some (.inr (.inr O))
   else
    some (.inl (IntKind.i64.wrap (O+1)))
  else
   some (.inr (.inl ()))
def cM (U:(List Int)) (O:Int):Option (Int) :=
 (aS (df U O) 0).bind fun q=>match q with
 | (.inl _) =>
  some (-1)
 | (.inr X) =>
  some X
def bY (U:(List Int)) (O:Int):Option (Bool) :=
 (cM U O).bind fun X =>
 some (decide (X>=0))
def kT (Z:bE):(Int×(List Int))->Option ((Int×(List Int))⊕(((List Int))))
 | (O,U) =>
  if decide (O<(Z.ak.ah.length:Int)) then
   (P.idx Z.ak.ah O).bind fun X =>
   if (X.bf==1) then
    (mh 8 U [X.aQ]).bind fun Y =>
    some (.inl (IntKind.i64.wrap (O+1),Y))
   else
    some (.inl (IntKind.i64.wrap (O+1),U))
  else
   some (.inr U)
def kU (Z:bE):(Int×(List Int))->Option ((Int×(List Int))⊕(((List Int))))
 | (O,U) =>
  if decide (O<(Z.ak.aJ.length:Int)) then
   (P.idx Z.ak.aJ O).bind fun X =>
   if (X.bf==0) then
    (mh 8 U [X.aQ]).bind fun Y =>
    some (.inl (IntKind.i64.wrap (O+1),Y))
   else
    some (.inl (IntKind.i64.wrap (O+1),U))
  else
   some (.inr U)
def qZ (O:bE) (p1:Int):Option (Bool) :=
 (iX O.ak).bind fun r1 =>
 if (!r1) then
  some false
 else
  (aS (kT O) (0,[])).bind fun U =>
  (aS (kU O) (0,[])).bind fun X =>
  (jx U (O.aK.length:Int)).bind fun Y =>
  if Y then
   (jx X (O.az.length:Int)).bind fun Z =>
   if Z then
    (bX O.aK p1).bind fun aa =>
    if (!aa) then
     (bY O.az p1).bind fun ab =>
     some (!ab)
    else
     some false
   else
    some false
  else
   some false
def jJ (X:bP):(Int)->Option ((Int)⊕((Unit)⊕(Int×Int)))
 | O =>
  if decide (O<(X.au.length:Int)) then
   (P.idx X.au O).bind fun Y =>
   (dT Y 1 1099511627776).bind fun U =>
   if (!U) then
    some (.inr (.inr (3,O)))
   else
    some (.inl (IntKind.i64.wrap (O+1)))
  else
   some (.inr (.inl ()))
def jK (X:bE):(Int×(List Int))->Option ((Int×(List Int))⊕(((List Int))))
 | (O,U) =>
  if decide (O<(X.az.length:Int)) then
   (P.idx X.az O).bind fun Y =>
   (P.idx U Y).bind fun Z =>
   some (.inl (IntKind.i64.wrap (O+1),(U.set (Y).toNat (IntKind.i64.wrap (Z+1)))))
  else
   some (.inr U)
def jL (Y:bE):(Int×(List Int))->Option ((Int×(List Int))⊕(((List Int))))
 | (O,X) =>
  if decide (O<(Y.aK.length:Int)) then
   (P.idx Y.aK O).bind fun U =>
   (P.idx X U.bU).bind fun Z =>
   some (.inl (IntKind.i64.wrap (O+1),(X.set (U.bU).toNat (if 1099511627777<(IntKind.i64.wrap (Z+U.aF)) then 1099511627777 else IntKind.i64.wrap (Z+U.aF)))))
  else
   some (.inr X)
def iM (p0:bP):(Int×(List Int)×(List Int))->Option ((Int×(List Int)×(List Int))⊕(((List Int)×(List Int))⊕(Int×Int)))
 | (O,X,Y) =>
  if decide (O<(p0.ao.length:Int)) then
   (P.idx p0.ao O).bind fun U =>
   (qZ U (p0.au.length:Int)).bind fun ab =>
   if (!ab) then
    some (.inr (.inr (1,O)))
   else
    (aS (jK U) (0,X)).bind fun Z =>
    (aS (jL U) (0,Y)).bind fun aa =>
    some (.inl (IntKind.i64.wrap (O+1),Z,aa))
  else
   some (.inr (.inl (X,Y)))
def jM (U:(List Int)):(Int)->Option ((Int)⊕((Unit)⊕(Int×Int)))
 | O =>
  if decide (O<((U).length:Int)) then
   (P.idx U O).bind fun X =>
   if (X==0) then
    some (.inr (.inr (21,O)))
   else
    if decide (X>1) then
     some (.inr (.inr (5,O)))
    else
     some (.inl (IntKind.i64.wrap (O+1)))
  else
   some (.inr (.inl ()))
def jN (Y:bP) (U:(List Int)):(Int)->Option ((Int)⊕((Unit)⊕(Int×Int)))
 | O =>
  if decide (O<((U).length:Int)) then
   (P.idx U O).bind fun X =>
   (P.idx Y.au O).bind fun x76 =>
   if decide (X>x76) then
    some (.inr (.inr (25,O)))
   else
    some (.inl (IntKind.i64.wrap (O+1)))
  else
   some (.inr (.inl ()))
def kS (O:bP):Option (Int×Int) :=
 (if decide ((O.au.length:Int)>2000) then
  some true
 else
  some (decide ((O.ao.length:Int)>400))).bind fun U =>
 if U then
  some (6,0)
 else
  (aS (jJ O) 0).bind fun q=>match q with
  | (.inl _) =>
   (H5 8 (O.au.length:Int) (O.au.length:Int) 0).bind fun X =>
   (aS (iM O) (0,X,X)).bind fun q=>match q with
   | (.inl (Y,Z)) =>
    (aS (jM Y) 0).bind fun q=>match q with
    | (.inl _) =>
     (aS (jN O Z) 0).bind fun q=>match q with
     | (.inl _) =>
      some (0,0)
     | (.inr ri) =>
      some ri
    | (.inr rh) =>
     some rh
   | (.inr rc) =>
    some rc
  | (.inr rb) =>
   some rb
def u7 (U:Int) (X:Int):Option (aw×Int) :=
 (rK U).bind fun Y =>
 (rK X).bind fun Z =>
 (mV Y Z).bind fun O =>
 some (O.1,O.2)
def mU (U:aw) (X:aw):Option (aw×Int) :=
 (dz U).bind fun Z =>
 (if (!Z) then
  some true
 else
  (dz X).bind fun r8 =>
  some (!r8)).bind fun O =>
 if O then
  some ((aw.mk (aD.mk 0 ([])) (aD.mk 0 ([]))),1)
 else
  (db U.cu X.cu).bind fun r4 =>
  (db U.ct X.ct).bind fun r5 =>
  (mV r4 r5).bind fun Y =>
  some (Y.1,Y.2)
def gn (p2:bE) (Z:Int) (X:fA) (ae:aw×Int):(Int×(List ((Int×Int)×aw)))->Option ((Int×(List ((Int×Int)×aw)))⊕(((List ((Int×Int)×aw)))))
 | (O,U) =>
  if decide (O<(p2.ak.aJ.length:Int)) then
   (P.idx p2.ak.aJ O).bind fun ab =>
   (if (ab.bf != 0) then
    some true
   else
    (P.idx p2.ak.aA O).bind fun ag =>
    (P.idx ag Z).bind fun ah =>
    (ir ah).bind fun ai =>
    some (ai==0)).bind fun aa =>
   if aa then
    some (.inl (IntKind.i64.wrap (O+1),U))
   else
    (P.idx p2.az ab.aQ).bind fun Y =>
    (P.idx p2.ak.aA O).bind fun aj =>
    (P.idx aj Z).bind fun al =>
    (mU ae.1 al).bind fun ad =>
    if lh U (X.bU,Y) then
     (n5 (aw.mk ((fm (aw.mk (aD.mk 0 ([])) (aD.mk 0 ([]))) U (X.bU,Y)).cu) ((fm (aw.mk (aD.mk 0 ([])) (aD.mk 0 ([]))) U (X.bU,Y)).ct)) ad.1).bind fun an =>
     some (.inl (IntKind.i64.wrap (O+1),(pB U (X.bU,Y) an)))
    else
     some (.inl (IntKind.i64.wrap (O+1),(pB U (X.bU,Y) ad.1)))
  else
   some (.inr U)
def iw (p1:(List Int)) (p2:bE):(Int×(List ((Int×Int)×aw)))->Option ((Int×(List ((Int×Int)×aw)))⊕(((List ((Int×Int)×aw)))))
 | (O,U) =>
  if decide (O<(p2.ak.ah.length:Int)) then
   (P.idx p2.ak.ah O).bind fun Y =>
   if (Y.bf != 1) then
    some (.inl (IntKind.i64.wrap (O+1),U))
   else
    (P.idx p2.aK Y.aQ).bind fun X =>
    (P.idx p1 X.bU).bind fun aa =>
    (u7 X.aF aa).bind fun ab =>
    (aS (gn p2 O X ab) (0,U)).bind fun Z =>
    some (.inl (IntKind.i64.wrap (O+1),Z))
  else
   some (.inr U)
def hZ (U:(List ((Int×Int)×aw))) (X:(List Int)) (Y:bE):Option ((List ((Int×Int)×aw))×(Unit)) :=
 (aS (iw X Y) (0,U)).bind fun O =>
 some (O,())
def mu (O:bL) (U:bL):Option (Int) :=
 (gh O.cD U.cD).bind fun X =>
 (gh O.jh U.jh).bind fun Y =>
 (tn ([X,Y])).bind fun Z =>
 some Z
def BX (p:Int) (m:List ((Int×Int)×aw)):Option (fP×Int) :=
 if m.length<=8000∧(m.map (·.1)).Nodup then some (fP.mk p (nJ (jm bL.cD bL.jh) (m.map fun q=>bL.mk q.1.1 q.1.2 q.2)),0) else none
def oE (X:bP):(Int×(List ((Int×Int)×aw)))->Option ((Int×(List ((Int×Int)×aw)))⊕(((List ((Int×Int)×aw)))))
 | (O,U) =>
  if decide (O<(X.ao.length:Int)) then
   (P.idx X.ao O).bind fun Z =>
   (hZ U X.au Z).bind fun Y =>
   some (.inl (IntKind.i64.wrap (O+1),Y.1))
  else
   some (.inr U)
def tW (U:bP):Option (fP×Int) :=
 (kS U).bind fun X =>
 if (X.1 != 0) then
  some ((fP.mk 0 ([])),X.1)
 else
  (aS (oE U) (0,([]:(List ((Int×Int)×aw))))).bind fun O =>
  if decide ((O.length:Int)>8000) then
   some ((fP.mk 0 ([])),6)
  else
   BX (U.au.length:Int) O
def lJ (X:aD) (Y:aD):(Int)->Option ((Int)⊕((Unit)⊕(Bool)))
 | O =>
  if decide (O<(X.aa.length:Int)) then
   (P.idx X.aa O).bind fun Z =>
   (P.idx Y.aa O).bind fun U =>
   if (Z != U) then
    some (.inr (.inr false))
   else
    some (.inl (IntKind.i64.wrap (O+1)))
  else
   some (.inr (.inl ()))
def jA (U:aD) (X:aD):Option (Bool) :=
 (if (U.aj != X.aj) then
  some true
 else
  some ((U.aa.length:Int) != (X.aa.length:Int))).bind fun O =>
 if O then
  some false
 else
  (aS (lJ U X) 0).bind fun q=>match q with
  | (.inl _) =>
   some true
  | (.inr Y) =>
   some Y
def lI (O:aw) (U:aw):Option (Bool) :=
 (jA O.cu U.cu).bind fun X =>
 if X then
  (jA O.ct U.ct).bind fun Y =>
  some Y
 else
  some false
def A4 (Z:fP) (p1:fP):(Int)->Option ((Int)⊕((Unit)⊕(Bool)))
 | O =>
  if decide (O<(Z.aN.length:Int)) then
   (P.idx Z.aN O).bind fun U =>
   (P.idx p1.aN O).bind fun X =>
   if (U.cD != X.cD) then
    some (.inr (.inr false))
   else
    if (U.jh != X.jh) then
     some (.inr (.inr false))
    else
     (lI U.e8 X.e8).bind fun Y =>
     if (!Y) then
      some (.inr (.inr false))
     else
      some (.inl (IntKind.i64.wrap (O+1)))
  else
   some (.inr (.inl ()))
def ug (U:fP) (X:fP):Option (Bool) :=
 (if (U.az != X.az) then
  some true
 else
  some ((U.aN.length:Int) != (X.aN.length:Int))).bind fun O =>
 if O then
  some false
 else
  (aS (A4 U X) 0).bind fun q=>match q with
  | (.inl _) =>
   some true
  | (.inr Y) =>
   some Y
def pj (X:aw) (U:aw):Option (aw×Int) :=
 (dz X).bind fun Z =>
 (if (!Z) then
  some true
 else
  (dz U).bind fun r7 =>
  some (!r7)).bind fun O =>
 if O then
  some ((aw.mk (aD.mk 0 ([])) (aD.mk 0 ([]))),1)
 else
  (nR U.cu).bind fun r4 =>
  (lx X (aw.mk r4 U.ct)).bind fun Y =>
  some (Y.1,Y.2)
def lC (X:(List aw)):(Int×(List aw))->Option ((Int×(List aw))⊕(((List aw))))
 | (O,U) =>
  if decide (O<((X).length:Int)) then
   (jt 1).bind fun Y =>
   (P.idx U O).bind fun Z =>
   some (.inl (IntKind.i64.wrap (O+1),(U.set (O).toNat Y)))
  else
   some (.inr U)
def lD (p0:fP):(Int×(List aw))->Option ((Int×(List aw))⊕(((List aw))))
 | (O,U) =>
  if decide (O<(p0.aN.length:Int)) then
   (P.idx p0.aN O).bind fun X =>
   (P.idx U X.cD).bind fun Y =>
   (pj Y X.e8).bind fun Z =>
   some (.inl (IntKind.i64.wrap (O+1),(U.set (X.cD).toNat Z.1)))
  else
   some (.inr U)
def kV (X:fP):Option ((List aw)) :=
 (H5 64 X.az X.az (aw.mk (aD.mk 0 ([])) (aD.mk 0 ([])))).bind fun Y =>
 (aS (lC Y) (0,Y)).bind fun O =>
 (aS (lD X) (0,O)).bind fun U =>
 some U
def nf (O:aw):Option (Bool) :=
 (ir O).bind fun U =>
 some (decide (U<0))
def dG (U:(List aw)):(Int)->Option ((Int)⊕((Unit)⊕(Int)))
 | O =>
  if decide (O<(U.length:Int)) then
   (P.idx U O).bind fun X =>
   (nf X).bind fun Y =>
   if Y then
    some (.inr (.inr O))
   else
    some (.inl (IntKind.i64.wrap (O+1)))
  else
   some (.inr (.inl ()))
def dj (O:(List aw)):Option (Int) :=
 (aS (dG O) 0).bind fun q=>match q with
 | (.inl _) =>
  some (-1)
 | (.inr U) =>
  some U
def cd (O:(List aw)):Option (Bool) :=
 (dj O).bind fun U =>
 some (decide (U>=0))
def lB (Y:fP):(Int)->Option ((Int)⊕((Unit)⊕(Bool)))
 | O =>
  if decide (O<(Y.aN.length:Int)) then
   (P.idx Y.aN O).bind fun U =>
   (dT U.cD 0 (IntKind.i64.wrap (Y.az-1))).bind fun Z =>
   (if (!Z) then
    some true
   else
    (dT U.jh 0 (IntKind.i64.wrap (Y.az-1))).bind fun aa =>
    if (!aa) then
     some true
    else
     (dz U.e8).bind fun ab =>
     if (!ab) then
      some true
     else
      (ir U.e8).bind fun ad =>
      some (decide (ad<=0))).bind fun X =>
   if X then
    some (.inr (.inr false))
   else
    if decide (O>0) then
     (P.idx Y.aN (IntKind.i64.wrap (O-1))).bind fun ae =>
     (mu ae U).bind fun ag =>
     if decide (ag>=0) then
      some (.inr (.inr false))
     else
      some (.inl (IntKind.i64.wrap (O+1)))
    else
     some (.inl (IntKind.i64.wrap (O+1)))
  else
   some (.inr (.inl ()))
def jO (U:fP):Option (Bool) :=
 (dT U.az 0 2000).bind fun Z =>
 (if (!Z) then
  some true
 else
  some (decide ((U.aN.length:Int)>8000))).bind fun O =>
 if O then
  some false
 else
  (aS (lB U) 0).bind fun q=>match q with
  | (.inl _) =>
   (kV U).bind fun X =>
   (cd X).bind fun Y =>
   some (!Y)
  | (.inr rb) =>
   some rb
def ye (p0:fP):(Int×(List (List Int)))->Option ((Int×(List (List Int)))⊕(((List (List Int)))))
 | (O,U) =>
  if decide (O<(p0.aN.length:Int)) then
   (P.idx p0.aN O).bind fun X =>
   (P.idx U X.jh).bind fun Y =>
   (mh 8 Y [X.cD]).bind fun Z =>
   some (.inl (IntKind.i64.wrap (O+1),(U.set (X.jh).toNat Z)))
  else
   some (.inr U)
def yf (Y:(List aw)):(Int×(List Int)×(List Int))->Option ((Int×(List Int)×(List Int))⊕(((List Int)×(List Int))))
 | (O,U,X) =>
  if decide (O<(Y.length:Int)) then
   (P.idx Y O).bind fun Z =>
   (P.idx U O).bind fun ad =>
   (ir Z).bind fun aa =>
   if decide (aa>0) then
    (P.idx (U.set (O).toNat (-1)) O).bind fun ae =>
    (mh 8 X [O]).bind fun ab =>
    some (.inl (IntKind.i64.wrap (O+1),((U.set (O).toNat (-1)).set (O).toNat 0),ab))
   else
    some (.inl (IntKind.i64.wrap (O+1),(U.set (O).toNat (-1)),X))
  else
   some (.inr (U,X))
def yh (aa:Int) (Z:(List Int)):(Int×(List Int)×(List Int))->Option ((Int×(List Int)×(List Int))⊕(((List Int)×(List Int))))
 | (O,U,X) =>
  if decide (O<((Z).length:Int)) then
   (P.idx Z O).bind fun Y =>
   (P.idx U Y).bind fun ab =>
   if (ab==(-1)) then
    (P.idx U aa).bind fun ad =>
    (mh 8 X [Y]).bind fun ae =>
    some (.inl (IntKind.i64.wrap (O+1),(U.set (Y).toNat (IntKind.i64.wrap (ad+1))),ae))
   else
    some (.inl (IntKind.i64.wrap (O+1),U,X))
  else
   some (.inr (U,X))
def yg (U:(List (List Int))):((List Int)×(List Int))->Option (((List Int)×(List Int))⊕(((List Int))))
 | (X,O) =>
  if decide (((O).length:Int)>0) then
   (P.idx O 0).bind fun Y =>
   (Fc O 1 (O.length:Int)).bind fun ab =>
   (P.idx U Y).bind fun ad =>
   (aS (yh Y ad) (0,X,ab)).bind fun q=>match q with
   | (Z,aa) =>
    some (.inl (Z,aa))
  else
   some (.inr X)
def oF (O:fP):Option ((List Int)) :=
 (jO O).bind fun r1 =>
 if (!r1) then
  some ([])
 else
  (H5 24 O.az O.az ([])).bind fun x3 =>
  (aS (ye O) (0,x3)).bind fun U =>
  (H5 8 O.az O.az 0).bind fun aa =>
  (kV O).bind fun ab =>
  (aS (yf ab) (0,aa,[])).bind fun q=>match q with
  | (X,Y) =>
   (aS (yg U) (X,Y)).bind fun Z =>
   some Z
def sN (U:(List Int)) (X:(List Int)):(Int)->Option ((Int)⊕((Unit)⊕(Bool)))
 | O =>
  if decide (O<(U.length:Int)) then
   (P.idx U O).bind fun Y =>
   (P.idx X O).bind fun Z =>
   if (Y != Z) then
    some (.inr (.inr false))
   else
    some (.inl (IntKind.i64.wrap (O+1)))
  else
   some (.inr (.inl ()))
def iN (O:(List Int)) (U:(List Int)):Option (Bool) :=
 if ((O.length:Int) != (U.length:Int)) then
  some false
 else
  (aS (sN O U) 0).bind fun q=>match q with
  | (.inl _) =>
   some true
  | (.inr X) =>
   some X
def nd (O:fP) (U:Int):Option (aw) :=
 (jO O).bind fun X =>
 if (!X) then
  some (aw.mk (aD.mk 0 ([])) (aD.mk 0 ([])))
 else
  (dT U 0 (IntKind.i64.wrap (O.az-1))).bind fun Y =>
  if (!Y) then
   some (aw.mk (aD.mk 0 ([])) (aD.mk 0 ([])))
  else
   (kV O).bind fun Z =>
   (P.idx Z U).bind fun x6 =>
   some x6
def tX (Y:(List Int)):(Int×(List Int))->Option ((Int×(List Int))⊕(((List Int))))
 | (O,U) =>
  if decide (O<(Y.length:Int)) then
   (P.idx Y O).bind fun Z =>
   if (Z==(-1)) then
    (mh 8 U [O]).bind fun X =>
    some (.inl (IntKind.i64.wrap (O+1),X))
   else
    some (.inl (IntKind.i64.wrap (O+1),U))
  else
   some (.inr U)
def p8 (U:fP):Option ((List Int)) :=
 (oF U).bind fun X =>
 (aS (tX X) (0,[])).bind fun O =>
 some O
def tT:Option (Bool) :=
 (xX).bind fun U =>
 (kP 5 U).bind fun r2 =>
 (tW r2).bind fun Y =>
 (if (Y.2 != 0) then
  some true
 else
  (ug Y.1 (fP.mk 2 ([(bL.mk 0 1 U),(bL.mk 1 0 U)]))).bind fun aa =>
  if (!aa) then
   some true
  else
   (oF Y.1).bind fun ab =>
   (iN ab ([0,0])).bind fun ad =>
   if (!ad) then
    some true
   else
    (nd Y.1 1).bind fun ae =>
    (lI ae U).bind fun ag =>
    some (!ag)).bind fun O =>
 if O then
  some false
 else
  (lH 1).bind fun r6 =>
  (kP 10 r6).bind fun r7 =>
  (tW r7).bind fun Z =>
  (kP 11 U).bind fun r9 =>
  (kS r9).bind fun X =>
  if (Z.2==0) then
   (oF Z.1).bind fun ah =>
   (iN ah ([(-1),(-1)])).bind fun ai =>
   if ai then
    (p8 Z.1).bind fun aj =>
    (iN aj ([0,1])).bind fun ak =>
    if ak then
     if (X.1==25) then
      if (X.2==1) then
       (jO Z.1).bind fun al =>
       some al
      else
       some false
     else
      some false
    else
     some false
   else
    some false
  else
   some false
def vf (O:aw) (U:Int):Option (Bool) :=
 if decide ((O.cu.aa.length:Int)<=U) then
  some (decide ((O.ct.aa.length:Int)<=U))
 else
  some false
def eo (U:(List aw)):(Int)->Option ((Int)⊕((Unit)⊕(Bool)))
 | O =>
  if decide (O<(U.length:Int)) then
   (P.idx U O).bind fun X =>
   (vf X 4).bind fun Y =>
   if (!Y) then
    some (.inr (.inr false))
   else
    some (.inl (IntKind.i64.wrap (O+1)))
  else
   some (.inr (.inl ()))
def lK (X:fH):(Int)->Option ((Int)⊕((Unit)⊕(Bool)))
 | O =>
  if decide (O<(X.aA.length:Int)) then
   (P.idx X.aA O).bind fun U =>
   if decide ((U.length:Int)>8) then
    some (.inr (.inr false))
   else
    (aS (eo U) 0).bind fun q=>match q with
    | (.inl _) =>
     some (.inl (IntKind.i64.wrap (O+1)))
    | (.inr rd) =>
     some (.inr (.inr rd))
  else
   some (.inr (.inl ()))
def jB (U:fH):Option (Bool) :=
 (if decide ((U.ah.length:Int)>5) then
  some true
 else
  if decide ((U.aJ.length:Int)>5) then
   some true
  else
   some (decide ((U.aA.length:Int)>8))).bind fun O =>
 if O then
  some false
 else
  (aS (lK U) 0).bind fun q=>match q with
  | (.inl _) =>
   some true
  | (.inr X) =>
   some X
def so (Y:bP):(Int)->Option ((Int)⊕((Unit)⊕(Bool)))
 | O =>
  if decide (O<(Y.ao.length:Int)) then
   (P.idx Y.ao O).bind fun U =>
   (jB U.ak).bind fun X =>
   if (!X) then
    some (.inr (.inr false))
   else
    if decide ((U.aK.length:Int)>6) then
     some (.inr (.inr false))
    else
     if decide ((U.az.length:Int)>6) then
      some (.inr (.inr false))
     else
      some (.inl (IntKind.i64.wrap (O+1)))
  else
   some (.inr (.inl ()))
def vg (U:bP):Option (Bool) :=
 (if decide ((U.au.length:Int)>6) then
  some true
 else
  some (decide ((U.ao.length:Int)>5))).bind fun O =>
 if O then
  some false
 else
  (aS (so U) 0).bind fun q=>match q with
  | (.inl _) =>
   some true
  | (.inr X) =>
   some X
def kQ (p0:bE) (p1:Int) (ad:Int):(Int×Int×(List Int)×Int×(List Int))->Option ((Int×Int×(List Int)×Int×(List Int))⊕((Int×(List Int)×Int×(List Int))))
 | (Z,O,U,X,Y) =>
  if decide (Z<(p0.ak.aJ.length:Int)) then
   (P.idx p0.ak.aJ Z).bind fun ae =>
   if (ae.bf != 0) then
    (P.idx p0.ak.aA Z).bind fun ag =>
    (P.idx ag ad).bind fun ah =>
    (P.idx p0.aK p1).bind fun ai =>
    (lH ai.aF).bind fun al =>
    (mU ah al).bind fun an =>
    (lx (aw.mk (aD.mk O U) (aD.mk X Y)) an.1).bind fun ab =>
    some (.inl (IntKind.i64.wrap (Z+1),ab.1.cu.aj,ab.1.cu.aa,ab.1.ct.aj,ab.1.ct.aa))
   else
    some (.inl (IntKind.i64.wrap (Z+1),O,U,X,Y))
  else
   some (.inr (O,U,X,Y))
def mW (p0:bE) (p1:Int):(Int×Int×(List Int)×Int×(List Int))->Option ((Int×Int×(List Int)×Int×(List Int))⊕((Int×(List Int)×Int×(List Int))))
 | (Z,O,U,X,Y) =>
  if decide (Z<(p0.ak.ah.length:Int)) then
   (P.idx p0.ak.ah Z).bind fun ai =>
   (if (ai.bf != 1) then
    some true
   else
    some (ai.aQ != p1)).bind fun ag =>
   if ag then
    some (.inl (IntKind.i64.wrap (Z+1),O,U,X,Y))
   else
    (aS (kQ p0 p1 Z) (0,O,U,X,Y)).bind fun q=>match q with
    | (aa,ab,ad,ae) =>
     some (.inl (IntKind.i64.wrap (Z+1),aa,ab,ad,ae))
  else
   some (.inr (O,U,X,Y))
def qV (p0:bE) (p1:Int):Option (aw) :=
 (lH 0).bind fun Z =>
 (aS (mW p0 p1) (0,Z.cu.aj,Z.cu.aa,Z.ct.aj,Z.ct.aa)).bind fun q=>match q with
 | (O,U,X,Y) =>
  some (aw.mk (aD.mk O U) (aD.mk X Y))
def gE (ag:Int) (ad:bE):(Int×Int×(List Int)×Int×(List Int))->Option ((Int×Int×(List Int)×Int×(List Int))⊕((Int×(List Int)×Int×(List Int))))
 | (O,U,X,Y,Z) =>
  if decide (O<(ad.aK.length:Int)) then
   (P.idx ad.aK O).bind fun ae =>
   if (ae.bU==ag) then
    (lH ae.aF).bind fun ah =>
    (pj (aw.mk (aD.mk U X) (aD.mk Y Z)) ah).bind fun ai =>
    (qV ad O).bind fun ak =>
    (lx ai.1 ak).bind fun ab =>
    some (.inl (IntKind.i64.wrap (O+1),ab.1.cu.aj,ab.1.cu.aa,ab.1.ct.aj,ab.1.ct.aa))
   else
    some (.inl (IntKind.i64.wrap (O+1),U,X,Y,Z))
  else
   some (.inr (U,X,Y,Z))
def gD (p0:bP) (ag:Int):(Int×Int×(List Int)×Int×(List Int))->Option ((Int×Int×(List Int)×Int×(List Int))⊕((Int×(List Int)×Int×(List Int))))
 | (O,U,X,Y,Z) =>
  if decide (O<(p0.ao.length:Int)) then
   (P.idx p0.ao O).bind fun ah =>
   (aS (gE ag ah) (0,U,X,Y,Z)).bind fun q=>match q with
   | (aa,ab,ad,ae) =>
    some (.inl (IntKind.i64.wrap (O+1),aa,ab,ad,ae))
  else
   some (.inr (U,X,Y,Z))
def kv (p0:bP) (r5:fP×Int):(Int)->Option ((Int)⊕((Unit)⊕(Bool)))
 | O =>
  if decide (O<(p0.au.length:Int)) then
   (P.idx p0.au O).bind fun ad =>
   (lH ad).bind fun U =>
   (aS (gD p0 O) (0,U.cu.aj,U.cu.aa,U.ct.aj,U.ct.aa)).bind fun q=>match q with
   | (X,Y,Z,ab) =>
    (nd r5.1 O).bind fun ae =>
    (mU ae U).bind fun ag =>
    (lI ag.1 (aw.mk (aD.mk X Y) (aD.mk Z ab))).bind fun ah =>
    if (!ah) then
     some (.inr (.inr false))
    else
     some (.inl (IntKind.i64.wrap (O+1)))
  else
   some (.inr (.inl ()))
def iL (X:bP):Option (Bool) :=
 (tT).bind fun Z =>
 (vg X).bind fun r2 =>
 if (!r2) then
  some Z
 else
  (kS X).bind fun r4 =>
  (tW X).bind fun O =>
  if (r4.1 != 0) then
   (if Z then
    if (O.2==r4.1) then
     if (O.1.az==0) then
      some ((O.1.aN.length:Int)==0)
     else
      some false
    else
     some false
   else
    some false).bind fun Y =>
   some Y
  else
   (if (O.2 != 0) then
    some true
   else
    (jO O.1).bind fun aa =>
    if (!aa) then
     some true
    else
     some (O.1.az != (X.au.length:Int))).bind fun U =>
   if U then
    some false
   else
    (aS (kv X O) 0).bind fun q=>match q with
    | (.inl _) =>
     some Z
    | (.inr rc) =>
     some rc
end Go.Proofs.YtoioidmblipblaaGreat.P
namespace Go.Proofs.YtoioidmblipblaaGreat.Am
open Go.RowKit Go.Proofs.YtoioidmblipblaaGreat.P
set_option maxRecDepth 100000
set_option maxHeartbeats 4000000
theorem bW.gN {P:Program} {T:Nat->Option Ty} {Γ:Env} (U:ig P T) (X:bH P Γ) (hm:P.follows .mixedOrders=true) {α β:Type} {A:jn α} {F:α->Option β} {R:β->RK} {mode:Mode} {f:FuncId} {fn:Func} {G:Option (D×Row)->List D->Option (RK×Option Row)} (Y:P.funcs[f]? = some fn)
  (O:((match fn.body with|some c=>codeOk c|none=>true)&&(!(fn.name == "runtime.NumGoroutine") && !fn.body.isNone))=true) (hG:∀l d,G l d=dW A F R l d) (Z:∀a,Nat.ble (A.ds a).length fn.ntmps=true) (h:∀a r,F a=some r->jY mode T Γ FU fn none (A.ds a)=some (R r,none)):bW P f G:=by
 have e:G=dW A F R:=funext fun l=>funext fun d=>hG l d;subst e;exact bW.ofB U X hm Y O Z h
theorem vmt:type_of% (ai @acw<|ai @UG<|ai @acx<|ai @acy<|ai @ZQ<|ai @Zx<|ai @Zy<|ai @KD<|ai @Rw<|ai @Zz<|ai @KE<|ai @ZA<|ai @ZB<|ai @ZC<|ai @ZD<|ai @ZE<|ai @Rx<|ai @ZF<|ai @KF<|ai @Ry<|ai @Rz<|ai @RA<|ai @ZG<|ai @RB<|ai @RD<|ai @ZH<|ai @KG<|ai @ZI<|ai @KH<|ai @ZJ<|ai @ZK<|ai @ZL<|ai @ZM<|ai @ZN<|ai @ZO<|ai @KI<|ai @ZP<|ai @ZR<|ai @KJ<|ai @ZS<|ai @KK<|ai @UB<|ai @UC<|ai @UD<|ai @UE<|@UF):=⟨@acw,@UG,@acx,@acy,@ZQ,@Zx,@Zy,@KD,@Rw,@Zz,@KE,@ZA,@ZB,@ZC,@ZD,@ZE,@Rx,@ZF,@KF,@Ry,@Rz,@RA,@ZG,@RB,@RD,@ZH,@KG,@ZI,@KH,@ZJ,@ZK,@ZL,@ZM,@ZN,@ZO,@KI,@ZP,@ZR,@KJ,@ZS,@KK,@UB,@UC,@UD,@UE,@UF⟩
def dI:jf aD:=Bp (lR (eI .i64) (jk (eI .i64))) (fun x=>(x.aj,x.aa)) (by rintro⟨⟩ ⟨⟩ h;simpa using h)
theorem Ax (x:aD):dI.cells x=[.int .i64 x.aj,.sl false false x.aa.length (ab (eI .i64) x.aa)]:=ajz
theorem Db:dI.size=2:=ajz
theorem Mw (x:aD):aD.mk x.aj x.aa=x:=ajz
def aG:jf aw:=Bp (lR dI dI) (fun x=>(x.cu,x.ct)) (by rintro⟨⟩ ⟨⟩ h;simpa using h)
theorem xM (x:aw):aG.cells x=[.int .i64 x.cu.aj,.sl false false x.cu.aa.length (ab (eI .i64) x.cu.aa),.int .i64 x.ct.aj,.sl false false x.ct.aa.length (ab (eI .i64) x.ct.aa)]:=ajz
theorem Az:aG.size=4:=ajz
theorem Hs (x:aw):aw.mk x.cu x.ct=x:=ajz
def dV:jf fA:=Bp (lR (eI .i64) (eI .i64)) (fun x=>(x.bU,x.aF)) (by rintro⟨⟩ ⟨⟩ h;simpa using h)
theorem AE (x:fA):dV.cells x=[.int .i64 x.bU,.int .i64 x.aF]:=ajz
theorem De:dV.size=2:=ajz
theorem Mz (x:fA):fA.mk x.bU x.aF=x:=ajz
def bB:jf bL:=Bp (lR (eI .i64) (lR (eI .i64) aG)) (fun x=>(x.cD,x.jh,x.e8)) (by rintro⟨⟩ ⟨⟩ h;simpa using h)
theorem nV (x:bL):bB.cells x=[.int .i64 x.cD,.int .i64 x.jh,.int .i64 x.e8.cu.aj,.sl false false x.e8.cu.aa.length (ab (eI .i64) x.e8.cu.aa),.int .i64 x.e8.ct.aj,.sl false false x.e8.ct.aa.length (ab (eI .i64) x.e8.ct.aa)]:=ajz
theorem tz:bB.size=6:=ajz
theorem Hu (x:bL):bL.mk x.cD x.jh x.e8=x:=ajz
def tw:jf fP:=Bp (lR (eI .i64) (jk bB)) (fun x=>(x.az,x.aN)) (by rintro⟨⟩ ⟨⟩ h;simpa using h)
theorem AB (x:fP):tw.cells x=[.int .i64 x.az,.sl false false x.aN.length (ab bB x.aN)]:=ajz
theorem Dc:tw.size=2:=ajz
theorem Mx (x:fP):fP.mk x.az x.aN=x:=ajz
def XT:jf Sq:=Bp (lR (eI .i64) (eI .i64)) (fun x=>(x.QA,x.acU)) (by rintro⟨⟩ ⟨⟩ h;simpa using h)
theorem xP (x:Sq):XT.cells x=[.int .i64 x.QA,.int .i64 x.acU]:=ajz
theorem AF:XT.size=2:=ajz
theorem Hv (x:Sq):Sq.mk x.QA x.acU=x:=ajz
def a8:jf fI:=Bp (lR (eI .i64) (lR (eI .i64) (eI .i64))) (fun x=>(x.bf,x.aQ,x.aF)) (by rintro⟨⟩ ⟨⟩ h;simpa using h)
theorem tx (x:fI):a8.cells x=[.int .i64 x.bf,.int .i64 x.aQ,.int .i64 x.aF]:=ajz
theorem vV:a8.size=3:=ajz
theorem AJ (x:fI):fI.mk x.bf x.aQ x.aF=x:=ajz
def dw:jf s6:=Bp (lR (eI .i64) (lR (eI .i64) (lR (eI .i64) XS))) (fun x=>(x.bf,x.aQ,x.aF,x.Dw)) (by rintro⟨⟩ ⟨⟩ h;simpa using h)
theorem AD (x:s6):dw.cells x=[.int .i64 x.bf,.int .i64 x.aQ,.int .i64 x.aF,.str x.Dw]:=ajz
theorem Dd:dw.size=4:=ajz
theorem My (x:s6):s6.mk x.bf x.aQ x.aF x.Dw=x:=ajz
def wy:jf fH:=Bp (lR (jk a8) (lR (jk dw) (jk (jk aG)))) (fun x=>(x.ah,x.aJ,x.aA)) (by rintro⟨⟩ ⟨⟩ h;simpa using h)
theorem xL (x:fH):wy.cells x=[.sl false false x.ah.length (ab a8 x.ah),.sl false false x.aJ.length (ab dw x.aJ),.sl false false x.aA.length (ab (jk aG) x.aA)]:=ajz
theorem Ay:wy.size=3:=ajz
theorem Hr (x:fH):fH.mk x.ah x.aJ x.aA=x:=ajz
def b6:jf bE:=Bp (lR wy (lR (jk dV) (jk (eI .i64)))) (fun x=>(x.ak,x.aK,x.az)) (by rintro⟨⟩ ⟨⟩ h;simpa using h)
theorem xN (x:bE):b6.cells x=[.sl false false x.ak.ah.length (ab a8 x.ak.ah),.sl false false x.ak.aJ.length (ab dw x.ak.aJ),.sl false false x.ak.aA.length (ab (jk aG) x.ak.aA),.sl false false x.aK.length (ab dV x.aK),.sl false false x.az.length (ab (eI .i64) x.az)]:=ajz
theorem AA:b6.size=5:=ajz
theorem Ht (x:bE):bE.mk x.ak x.aK x.az=x:=ajz
def nW:jf bP:=Bp (lR (jk (eI .i64)) (jk b6)) (fun x=>(x.au,x.ao)) (by rintro⟨⟩ ⟨⟩ h;simpa using h)
theorem vW (x:bP):nW.cells x=[.sl false false x.au.length (ab (eI .i64) x.au),.sl false false x.ao.length (ab b6 x.ao)]:=ajz
theorem xO:nW.size=2:=ajz
theorem Du (x:bP):bP.mk x.au x.ao=x:=ajz
theorem ab1 {l:List _} : (ab (eI .i64) l).length=l.length*1:=bR _ l
theorem RF {l:List _} : (ab (eI .i64) l).take (l.length*1)=ab (eI .i64) l:=by
 have:=gB (eI .i64) l l.length;rw[aiL]at this;exact this
theorem ZT {l:List _} {i:Nat} {x:_} : (ab (eI .i64) (l.set i x)).take (l.length*1)=ab (eI .i64) (l.set i x):=by
 have:=@RF (l.set i x)
 rwa [aiK]at this
theorem ab2 {l:List _} : (ab (FD (eI .i64)) l).length=l.length*1:=bR _ l
theorem RG {l:List _} : (ab (FD (eI .i64)) l).take (l.length*1)=ab (FD (eI .i64)) l:=by
 have:=gB (FD (eI .i64)) l l.length;rw[aiL]at this;exact this
theorem ZU {l:List _} {i:Nat} {x:_} : (ab (FD (eI .i64)) (l.set i x)).take (l.length*1)=ab (FD (eI .i64)) (l.set i x):=by
 have:=@RG (l.set i x)
 rwa [aiK]at this
theorem ab3 {l:List _} : (ab (jk (eI .i64)) l).length=l.length*1:=bR _ l
theorem RH {l:List _} : (ab (jk (eI .i64)) l).take (l.length*1)=ab (jk (eI .i64)) l:=by
 have:=gB (jk (eI .i64)) l l.length;rw[aiL]at this;exact this
theorem ZV {l:List _} {i:Nat} {x:_} : (ab (jk (eI .i64)) (l.set i x)).take (l.length*1)=ab (jk (eI .i64)) (l.set i x):=by
 have:=@RH (l.set i x)
 rwa [aiK]at this
theorem ab4 {l:List _} : (ab (jk aG) l).length=l.length*1:=bR _ l
theorem RI {l:List _} : (ab (jk aG) l).take (l.length*1)=ab (jk aG) l:=by
 have:=gB (jk aG) l l.length;rw[aiL]at this;exact this
theorem ZW {l:List _} {i:Nat} {x:_} : (ab (jk aG) (l.set i x)).take (l.length*1)=ab (jk aG) (l.set i x):=by
 have:=@RI (l.set i x)
 rwa [aiK]at this
theorem ab5 {l:List _} : (ab aG l).length=l.length*4:=bR _ l
theorem RJ {l:List _} : (ab aG l).take (l.length*4)=ab aG l:=by
 have:=gB aG l l.length;rw[aiL]at this;exact this
theorem ZX {l:List _} {i:Nat} {x:_} : (ab aG (l.set i x)).take (l.length*4)=ab aG (l.set i x):=by
 have:=@RJ (l.set i x)
 rwa [aiK]at this
theorem ab6 {l:List _} : (ab b6 l).length=l.length*5:=bR _ l
theorem RL {l:List _} : (ab b6 l).take (l.length*5)=ab b6 l:=by
 have:=gB b6 l l.length;rw[aiL]at this;exact this
theorem ZY {l:List _} {i:Nat} {x:_} : (ab b6 (l.set i x)).take (l.length*5)=ab b6 (l.set i x):=by
 have:=@RL (l.set i x)
 rwa [aiK]at this
theorem ab7 {l:List _} : (ab dw l).length=l.length*4:=bR _ l
theorem RM {l:List _} : (ab dw l).take (l.length*4)=ab dw l:=by
 have:=gB dw l l.length;rw[aiL]at this;exact this
theorem ZZ {l:List _} {i:Nat} {x:_} : (ab dw (l.set i x)).take (l.length*4)=ab dw (l.set i x):=by
 have:=@RM (l.set i x)
 rwa [aiK]at this
theorem ab8 {l:List _} : (ab a8 l).length=l.length*3:=bR _ l
theorem RN {l:List _} : (ab a8 l).take (l.length*3)=ab a8 l:=by
 have:=gB a8 l l.length;rw[aiL]at this;exact this
theorem Z0 {l:List _} {i:Nat} {x:_} : (ab a8 (l.set i x)).take (l.length*3)=ab a8 (l.set i x):=by
 have:=@RN (l.set i x)
 rwa [aiK]at this
theorem ab9 {l:List _} : (ab bB l).length=l.length*6:=bR _ l
theorem RO {l:List _} : (ab bB l).take (l.length*6)=ab bB l:=by
 have:=gB bB l l.length;rw[aiL]at this;exact this
theorem Z1 {l:List _} {i:Nat} {x:_} : (ab bB (l.set i x)).take (l.length*6)=ab bB (l.set i x):=by
 have:=@RO (l.set i x)
 rwa [aiK]at this
theorem aca {l:List _} : (ab dV l).length=l.length*2:=bR _ l
theorem RQ {l:List _} : (ab dV l).take (l.length*2)=ab dV l:=by
 have:=gB dV l l.length;rw[aiL]at this;exact this
theorem Z2 {l:List _} {i:Nat} {x:_} : (ab dV (l.set i x)).take (l.length*2)=ab dV (l.set i x):=by
 have:=@RQ (l.set i x)
 rwa [aiK]at this
theorem vme:type_of% (ai @xJ<|ai @Aw<|ai @Da<|ai @Hg<|ai @S8<|ai @C9<|ai @Hh<|ai @Mm<|ai @xQ<|ai @uZ<|ai @xK<|ai @Ax<|ai @Db<|ai @xM<|ai @Az<|ai @AE<|ai @De<|ai @nV<|ai @tz<|ai @AB<|ai @Dc<|ai @xP<|ai @AF<|ai @tx<|ai @vV<|ai @AD<|ai @Dd<|ai @xL<|ai @Ay<|ai @xN<|ai @AA<|ai @vW<|@xO):=⟨@xJ,@Aw,@Da,@Hg,@S8,@C9,@Hh,@Mm,@xQ,@uZ,@xK,@Ax,@Db,@xM,@Az,@AE,@De,@nV,@tz,@AB,@Dc,@xP,@AF,@tx,@vV,@AD,@Dd,@xL,@Ay,@xN,@AA,@vW,@xO⟩
theorem vml:type_of% (ai @bj<|ai @Mw<|ai @Hs<|ai @Mz<|ai @Hu<|ai @Mx<|ai @Hv<|ai @AJ<|ai @My<|ai @Hr<|ai @Ht<|ai @Du<|ai @ab1<|ai @RF<|ai @ZT<|ai @ab2<|ai @RG<|ai @ZU<|ai @ab3<|ai @RH<|ai @ZV<|ai @ab4<|ai @RI<|ai @ZW<|ai @ab5<|ai @RJ<|ai @ZX<|ai @ab6<|ai @RL<|ai @ZY<|ai @ab7<|ai @RM<|ai @ZZ<|ai @ab8<|ai @RN<|ai @Z0<|ai @ab9<|ai @RO<|ai @Z1<|ai @aca<|ai @RQ<|@Z2):=⟨@bj,@Mw,@Hs,@Mz,@Hu,@Mx,@Hv,@AJ,@My,@Hr,@Ht,@Du,@ab1,@RF,@ZT,@ab2,@RG,@ZU,@ab3,@RH,@ZV,@ab4,@RI,@ZW,@ab5,@RJ,@ZX,@ab6,@RL,@ZY,@ab7,@RM,@ZZ,@ab8,@RN,@Z0,@ab9,@RO,@Z1,@aca,@RQ,@Z2⟩
theorem aam:UQ tab ⟨.map 77 42,1,8,[.map none],false⟩ true (.agg [.int .i64 0,.sl false false 0 [],.int .i64 0,.sl false false 0 []]):=⟨_,_,rfl,rfl,rfl,rfl⟩
theorem ach {h:Nat->Option Row} {m:D} {n O:Int} {ok:Bool} : gm tab ⟨.map 77 42,1,8,[.map none],false⟩ h m (.agg [.int .i64 n,.int .i64 O]) ok=lkE true ok (.agg [.int .i64 0,.sl false false 0 [],.int .i64 0,.sl false false 0 []]) (n,some O) (mapOf h m):=ac5 aam rfl
theorem acj {h:Nat->Option Row} {y v:Nat} {n O:Int} {x:D} : cN tab ⟨.map 77 42,1,8,[.map none],false⟩ h (.mp y v) (.agg [.int .i64 n,.int .i64 O]) x=muE true h y v (n,some O) (sY h x):=ade aam rfl
theorem aci {ty e d:Nat} (O:ty<900000):VK tab (some ⟨.map 77 42,1,8,[.map none],false⟩) ty e d=some ⟨.mp d e,[(d,some ⟨e,ty,[.mpc [] []],false,true,true⟩)]⟩:=aa2 aam O
theorem TG {m:List ((Int×Int)×aw)} {n O:Int} : pr (.agg [.int .i64 0,.sl false false 0 [],.int .i64 0,.sl false false 0 []]) (dK m) (fC (bC aG) m) (n,some O)=.agg [.int .i64 (((fm (aw.mk (aD.mk 0 ([])) (aD.mk 0 ([]))) m (n,O)).cu).aj),.sl false false (((fm (aw.mk (aD.mk 0 ([])) (aD.mk 0 ([]))) m (n,O)).cu).aa).length (ab (eI .i64) (((fm (aw.mk (aD.mk 0 ([])) (aD.mk 0 ([]))) m (n,O)).cu).aa)),.int .i64 (((fm (aw.mk (aD.mk 0 ([])) (aD.mk 0 ([]))) m (n,O)).ct).aj),.sl false false (((fm (aw.mk (aD.mk 0 ([])) (aD.mk 0 ([]))) m (n,O)).ct).aa).length (ab (eI .i64) (((fm (aw.mk (aD.mk 0 ([])) (aD.mk 0 ([]))) m (n,O)).ct).aa))]:=H0 (A:=(bC aG)) (aw.mk (aD.mk 0 ([])) (aD.mk 0 ([]))) (n,O) m
theorem UK {m:List ((Int×Int)×aw)} {n O:Int} {v0:Int} {v1:(List Int)} {v2:Int} {v3:(List Int)} : D.mpc (xb (dK m) (n,some O)) (BG (dK m) (fC (bC aG) m) (n,some O) (.agg [.int .i64 v0,.sl false false v1.length (ab (eI .i64) v1),.int .i64 v2,.sl false false v3.length (ab (eI .i64) v3)]))=.mpc (dK (pB m (n,O) (aw.mk (aD.mk v0 v1) (aD.mk v2 v3)))) (fC (bC aG) (pB m (n,O) (aw.mk (aD.mk v0 v1) (aD.mk v2 v3)))):=by
 rw[<- OQ (n,O) (aw.mk (aD.mk v0 v1) (aD.mk v2 v3)) m,<- OS (n,O) (aw.mk (aD.mk v0 v1) (aD.mk v2 v3)) m];rfl
theorem Yu {e d:Nat} (O:d<1000000):mkA ⟨.struct [(3,0),(26,1)],2,32,[.int .i64 0,.slice none 0 0],false⟩ 28 e d 65 6 1=some ⟨.ptr d e 0,[(d,some ⟨e,28,[.nr 65 6 (4*e+2) [.int .i64 0,.nx 0 []]],false,false,true⟩)]⟩:=by
 unfold mkA;rw[if_pos ⟨by decide,rfl,rfl,by rw[cv];exact O,rfl⟩];rfl
theorem vmm:type_of% (ai @ach<|ai @acj<|ai @aci<|ai @TG<|ai @UK<|@vi):=⟨@ach,@acj,@aci,@TG,@UK,@vi⟩
theorem w:type_of% (ai @v<|ai @vmt<|ai @vme<|ai @vml<|ai @vn<|ai @Yu<|@vmm):=⟨@v,@vmt,@vme,@vml,@vn,@Yu,@vmm⟩
theorem bZ:type_of% (ai @vme<|ai @aiC<|ai @air<|ai @ag3<|ai @aiD<|@ah6):=⟨@vme,@aiC,@air,@ag3,@aiD,@ah6⟩
def ez (l:Option (D×Row)) (d:List D):=dW (dS (mP (eI .i64))) (fun x:(List Int)=>gO x) (fun r:(List Int) =>.clean (.sl false false r.length (ab (eI .i64) r))) l d
theorem Ud {β:Type} {F:(List Int)->Option β} {R:β->RK} (O:(List Int)):dW (dS (mP (eI .i64))) F R none [.sl false false O.length (ab (eI .i64) O)]=(F (O)).map fun r=>(R r,none):=cU _ _ _ (O)
theorem nk:bW prog 129 ez:=bW.gN (mode := .clean) tok bH.none mixed func129 (by kernel_rfl) (fun _ _=>rfl) (fun _=>by kernel_rfl) fun p0 r O=>by
 replace O:gO p0=some r:=O;apply aH rfl ntmps129 results129;simp only[gR];unfold gO at O;try simp only[w,seval]
 obtain⟨o4,aj,O⟩:=ae O;refine aB (fun s t H e=>match s with|aa=>t 0=.sl false false p0.length (ab (eI .i64) p0)∧t 3=.int .i64 aa) (fun o x t H e=>match o with|Y=>x=.exit 0∧t 0=.sl false false p0.length (ab (eI .i64) p0)∧t 3=.int .i64 Y) aj ?_ ?_ ?_
 ·and_intros<;>first|rfl|(simp only[w,seval]<;>rfl)
 ·rintro aa t H e Z c O;simp only[uf]at O;try simp only[w,seval,Z]
  apply sp eJ O<;>intro _ O
  ·obtain⟨x6,ak,O⟩:=ae O;have U:=bo (eI .i64) ak;simp only[bZ]at U;try simp only[w,seval,Z,U]
   apply sp al O<;>intro _ O
   ·cases O;try simp only[w,seval,Z,U]
    apply iu;and_intros<;>first|rfl|(simp only[w,seval,Z,U]<;>rfl)
   ·cases O;try simp only[w,seval,Z,U]
    apply jv;refine⟨rfl,?_⟩;and_intros<;>first|rfl|(simp only[w,seval,Z,U]<;>rfl)
  ·cases O;try simp only[w,seval,Z]
   apply jv;refine⟨rfl,?_⟩;and_intros<;>first|rfl|(simp only[w,seval,Z]<;>rfl)
 ·rintro x t H e hx;obtain⟨Y,rfl⟩:∃z,z=o4:=⟨_,rfl⟩;dsimp only at hx O;obtain⟨rfl,an⟩:=hx;obtain⟨x8,ao,O⟩:=ae O;obtain⟨aq,ar,au,av,ad⟩:=KA (eI .i64) ao;simp only[bZ]at ad;obtain⟨aw,ag,O⟩:=ae O;obtain⟨X,ah,ai⟩:=BP ag;replace X:=X.symm;subst X;cases O;try simp only[w,seval,an,aq,ar,au,av,ad,ah,ai]
def cZ (l:Option (D×Row)) (d:List D):=dW (iD (aI .i64) (dS (mP (eI .i64)))) (fun x:Int×(List Int)=>fe x.1 x.2) (fun r:aD =>.clean (.agg [.int .i64 r.aj,.sl false false r.aa.length (ab (eI .i64) r.aa)])) l d
theorem B3 {β:Type} {F:Int×(List Int)->Option β} {R:β->RK} (U:Int) (O:(List Int)):dW (iD (aI .i64) (dS (mP (eI .i64)))) F R none [.int .i64 U,.sl false false O.length (ab (eI .i64) O)]=(F (U,O)).map fun r=>(R r,none):=cU _ _ _ (U,O)
def wP:Env:=(Am.ext bm 129 false ez)
theorem MX:bH prog wP:=(bH.none.add nk false)
theorem xm:type_of% (ai @w<|ai @Ud<|ai @ez.eq_1<|@wP.eq_1):=⟨@w,@Ud,@ez.eq_1,@wP.eq_1⟩
theorem kW:bW prog 97 cZ:=bW.gN (mode := .clean) tok MX mixed func97 (by kernel_rfl) (fun _ _=>rfl) (fun _=>by kernel_rfl) fun⟨X,Y⟩ r O=>by
 replace O:fe X Y=some r:=O;apply aH rfl ntmps97 results97;simp only[gR];unfold fe at O;obtain⟨Z,U,O⟩:=ae O;try simp only[xm,seval,U]
 apply sp al O<;>intro _ O
 ·cases O;try simp only[xm,seval,U]
 ·cases O;try simp only[xm,seval,U]
def oM (l:Option (D×Row)) (d:List D):=dW (dS (aI .i64)) (fun x:Int=>ue x) (fun r:aD =>.clean (.agg [.int .i64 r.aj,.sl false false r.aa.length (ab (eI .i64) r.aa)])) l d
theorem FE {β:Type} {F:Int->Option β} {R:β->RK} (O:Int):dW (dS (aI .i64)) F R none [.int .i64 O]=(F (O)).map fun r=>(R r,none):=cU _ _ _ (O)
def DC:Env:=(Am.ext bm 97 false cZ)
theorem Vr:bH prog DC:=(bH.none.add kW false)
theorem eX:type_of% (ai @w<|ai @B3<|ai @cZ.eq_1<|@DC.eq_1):=⟨@w,@B3,@cZ.eq_1,@DC.eq_1⟩
theorem Ir:bW prog 60 oM:=bW.gN (mode := .clean) tok Vr mixed func60 (by kernel_rfl) (fun _ _=>rfl) (fun _=>by kernel_rfl) fun p0 r O=>by
 replace O:ue p0=some r:=O;apply aH rfl ntmps60 results60;simp only[gR];unfold ue at O;try simp only[eX,seval]
 apply sp al O<;>intro _ O
 ·cases O;try simp only[eX,seval]
 ·try simp only[eX,seval]
  obtain⟨o2,aK,O⟩:=ae O;refine ki 0 (fun s t H e=>match s with|U=>∃X:Nat,t 0=.int .i64 p0∧t 2=.ptr 2 X 0∧t 3=.int .i64 U∧H 2=some ⟨X,40,[.int .i64 0,.sl true true 0 []],false,false,false⟩) (fun s=>s=o2) ?_ ?_
  ·rintro U t H e ⟨X,ax⟩ rfl;try dsimp only at O
   try simp only[eX,seval,ax]
   obtain⟨aL,ay,O⟩:=ae O;refine aB (fun s t H e=>match s with|(az,aw)=>∃Y:Nat,∃aj:Nat,t 0=.int .i64 az∧t 2=.ptr 2 Y 0∧t 3=.int .i64 U∧t 4=.buf 4 aj 1 0 (aw).length∧H 2=some ⟨Y,40,[.int .i64 0,.sl true true 0 []],false,false,false⟩∧H 4=some ⟨aj,3,ab (eI .i64) aw,false,true,false⟩) (fun o x t H e=>match o with|Z=>x=.exit 0∧∃aa:Nat,∃ad:Nat,t 2=.ptr 2 aa 0∧t 3=.int .i64 U∧t 4=.buf 4 ad 1 0 (Z).length∧H 2=some ⟨aa,40,[.int .i64 0,.sl true true 0 []],false,false,false⟩∧H 4=some ⟨ad,3,ab (eI .i64) Z,false,true,false⟩) ay ?_ ?_ ?_
   ·refine⟨X,e,?_⟩;and_intros<;>first|rfl|(simp only[eX,seval,ax]<;>rfl)
   ·rintro⟨az,aw⟩ t H e ⟨Y,aj,Zb⟩ c O;simp only[ve]at O;try simp only[eX,seval,Zb]
    apply sp al O<;>intro _ O
    ·obtain⟨aN,aA,O⟩:=ae O;have ag:=yd aA;try simp only[eX,seval,Zb,ag]
     apply sp al O<;>intro _ O
     ·obtain⟨aO,aC,O⟩:=ae O;obtain⟨ak,ah,ao,aq⟩:=iJ (eI .i64) aC;simp only[bZ]at ah;obtain⟨aP,aD,O⟩:=ae O;have aE:=rV aD;cases O;try simp only[eX,seval,Zb,ag,ak,ah,ao,aq,aE]
      apply iu;refine⟨Y,e+1+1+1+1,?_⟩;and_intros<;>first|rfl|(simp only[eX,seval,Zb,ag,ak,ah,ao,aq,aE]<;>rfl)
     ·obtain⟨aQ,aF,O⟩:=ae O;obtain⟨ar,ai,au,av⟩:=iJ (eI .i64) aF;simp only[bZ]at ai;obtain⟨aR,aG,O⟩:=ae O;have aI:=rV aG;cases O;try simp only[eX,seval,Zb,ag,ar,ai,au,av,aI]
      apply iu;refine⟨Y,e+1+1+1,?_⟩;and_intros<;>first|rfl|(simp only[eX,seval,Zb,ag,ar,ai,au,av,aI]<;>rfl)
    ·cases O;try simp only[eX,seval,Zb]
     apply jv;refine⟨rfl,⟨Y,aj,?_⟩⟩;and_intros<;>first|rfl|(simp only[eX,seval,Zb]<;>rfl)
   ·rintro x t H e hx;obtain⟨Z,rfl⟩:∃z,z=aL:=⟨_,rfl⟩;dsimp only at hx O;obtain⟨rfl,⟨aa,ad,aM⟩⟩:=hx;obtain⟨aS,aJ,O⟩:=ae O;cases O;try simp only[eX,seval,aM,aJ]
  ·clear O;have O:=aK;try simp only[eX,seval]
   apply sp al O<;>intro _ O
   ·cases O;try simp only[eX,seval]
    rw[an];refine⟨_,rfl,?_⟩;refine⟨0,?_⟩;and_intros<;>first|rfl|(simp only[eX,seval]<;>rfl)
   ·cases O;try simp only[eX,seval]
    rw[an];refine⟨_,rfl,?_⟩;refine⟨0,?_⟩;and_intros<;>first|rfl|(simp only[eX,seval]<;>rfl)
def bt (l:Option (D×Row)) (d:List D):=dW (dS (bC dI)) (fun x:aD=>cY x) (fun r:Bool =>.clean (.bool r)) l d
theorem ru {β:Type} {F:aD->Option β} {R:β->RK} (U:Int) (O:(List Int)):dW (dS (bC dI)) F R none [.agg [.int .i64 U,.sl false false O.length (ab (eI .i64) O)]]=(F ((aD.mk U O))).map fun r=>(R r,none):=cU _ _ _ ((aD.mk U O))
theorem fV:bW prog 84 bt:=bW.gN (mode := .clean) tok bH.none mixed func84 (by kernel_rfl) (fun _ _=>rfl) (fun _=>by kernel_rfl) fun Z r O=>by
 replace O:cY Z=some r:=O;apply aH rfl ntmps84 results84;simp only[gR];unfold cY at O;try simp only[w,seval]
 obtain⟨o5,av,O⟩:=ae O;refine aB (fun s t H e=>match s with|ao=>∃ad:Nat,t 1=.ptr 1 ad 0∧t 3=.int .i64 ao∧H 1=some ⟨ad,40,[.int .i64 Z.aj,.sl false false Z.aa.length (ab (eI .i64) Z.aa)],false,false,false⟩) (fun o x t H e=>match o with|(.inl _)=>x=.exit 0∧∃X:Nat,t 1=.ptr 1 X 0∧H 1=some ⟨X,40,[.int .i64 Z.aj,.sl false false Z.aa.length (ab (eI .i64) Z.aa)],false,false,false⟩|(.inr r)=>x=.ret∧fF .clean tab none [.tmp 2] ⟨t,EH H,e⟩=some (.clean (.bool r),none)) av ?_ ?_ ?_
 ·refine⟨0,?_⟩;and_intros<;>first|rfl|(simp only[w,seval]<;>rfl)
 ·rintro ao t H e ⟨ad,Za⟩ c O;simp only[oe]at O;try simp only[w,seval,Za]
  apply sp al O<;>intro _ O
  ·obtain⟨x7,aq,O⟩:=ae O;have U:=bo (eI .i64) aq;simp only[bZ]at U;try simp only[w,seval,Za,U]
   apply sp aR O<;>intro _ O
   ·cases O;try simp only[w,seval,Za,U]
    refine rq ⟨rfl,?_⟩;try simp only[w,seval,Za,U]
   ·have U:=bo (eI .i64) aq;simp only[bZ]at U;try simp only[w,seval,Za,U,U]
    apply sp al O<;>intro _ O
    ·cases O;try simp only[w,seval,Za,U,U]
     refine rq ⟨rfl,?_⟩;try simp only[w,seval,Za,U,U]
    ·cases O;try simp only[w,seval,Za,U,U]
     apply iu;refine⟨ad,?_⟩;and_intros<;>first|rfl|(simp only[w,seval,Za,U,U]<;>rfl)
  ·cases O;try simp only[w,seval,Za]
   apply jv;refine⟨rfl,⟨ad,?_⟩⟩;and_intros<;>first|rfl|(simp only[w,seval,Za]<;>rfl)
 ·rintro x t H e hx;rcases o5 with _|ra
  ·dsimp only at hx O;obtain⟨rfl,⟨X,Y⟩⟩:=hx;try simp only[w,seval,Y]
   obtain⟨aw,ar,O⟩:=ae O;refine bA 0 (fun s t H e=>match s with|ag=>∃ah:Nat,t 1=.ptr 1 ah 0∧t 4=.int .i64 (Z.aa.length:Int)∧t 44=.bool ag∧H 1=some ⟨ah,40,[.int .i64 Z.aj,.sl false false Z.aa.length (ab (eI .i64) Z.aa)],false,false,false⟩) (fun s=>s=aw) ?_ ?_
   ·rintro ag t H e ⟨ah,ai⟩ rfl;try dsimp only at O
    try simp only[w,seval,ai]
    apply sp al O<;>intro _ O
    ·cases O;try simp only[w,seval,ai]
    ·try simp only[w,seval,ai]
     apply sp aR O<;>intro _ O
     ·cases O;try simp only[w,seval,ai]
     ·obtain⟨ax,au,O⟩:=ae O;have ak:=bo (eI .i64) au;simp only[bZ]at ak;cases O;try simp only[w,seval,ai,ak]
   ·clear O;have O:=ar;try simp only[w,seval,Y]
    apply sp aR O<;>intro _ O
    ·cases O;try simp only[w,seval,Y]
     rw[an];refine⟨_,rfl,?_⟩;refine⟨X,?_⟩;and_intros<;>first|rfl|(simp only[w,seval,Y]<;>rfl)
    ·try simp only[w,seval,Y]
     apply sp aR O<;>intro _ O
     ·cases O;try simp only[w,seval,Y]
      rw[an];refine⟨_,rfl,?_⟩;refine⟨X,?_⟩;and_intros<;>first|rfl|(simp only[w,seval,Y]<;>rfl)
     ·cases O;try simp only[w,seval,Y]
      rw[an];refine⟨_,rfl,?_⟩;refine⟨X,?_⟩;and_intros<;>first|rfl|(simp only[w,seval,Y]<;>rfl)
  ·dsimp only at hx O;obtain⟨rfl,hE⟩:=hx;cases O;try simp only[bg,aY,bk,cK,cJ,ca,cc]
   exact hE
def l8 (l:Option (D×Row)) (d:List D):=dW (dS (bC dI)) (fun x:aD=>ql x) (fun r:aD =>.clean (.agg [.int .i64 r.aj,.sl false false r.aa.length (ab (eI .i64) r.aa)])) l d
def zk:Env:=(Am.ext (Am.ext bm 84 false bt) 97 false cZ)
theorem QS:bH prog zk:=((bH.none.add fV false).add kW false)
theorem zZ:type_of% (ai @w<|ai @ru<|ai @bt.eq_1<|ai @B3<|ai @cZ.eq_1<|@zk.eq_1):=⟨@w,@ru,@bt.eq_1,@B3,@cZ.eq_1,@zk.eq_1⟩
theorem EI:bW prog 95 l8:=bW.gN (mode := .clean) tok QS mixed func95 (by kernel_rfl) (fun _ _=>rfl) (fun _=>by kernel_rfl) fun Y r O=>by
 replace O:ql Y=some r:=O;apply aH rfl ntmps95 results95;simp only[gR];unfold ql at O;obtain⟨Z,U,O⟩:=ae O;try simp only[zZ,seval,U]
 apply sp al O<;>intro _ O
 ·cases O;try simp only[zZ,seval,U]
 ·obtain⟨r3,X,O⟩:=ae O;cases O;try simp only[zZ,seval,U,X]
def eC (l:Option (D×Row)) (d:List D):=dW (iD (mP (eI .i64)) (dS (aI .i64))) (fun x:(List Int)×Int=>iy x.1 x.2) (fun r:Int =>.clean (.int .i64 r)) l d
theorem Wr {β:Type} {F:(List Int)×Int->Option β} {R:β->RK} (O:(List Int)) (U:Int):dW (iD (mP (eI .i64)) (dS (aI .i64))) F R none [.sl false false O.length (ab (eI .i64) O),.int .i64 U]=(F (O,U)).map fun r=>(R r,none):=cU _ _ _ (O,U)
theorem oc:bW prog 143 eC:=bW.gN (mode := .clean) tok bH.none mixed func143 (by kernel_rfl) (fun _ _=>rfl) (fun _=>by kernel_rfl) fun⟨Y,Z⟩ r O=>by
 replace O:iy Y Z=some r:=O;apply aH rfl ntmps143 results143;simp only[gR];unfold iy at O;try simp only[w,seval]
 apply sp al O<;>intro _ O
 ·obtain⟨x2,X,O⟩:=ae O;have U:=bo (eI .i64) X;simp only[bZ]at U;cases O;try simp only[w,seval,U]
 ·cases O;try simp only[w,seval]
def kL (l:Option (D×Row)) (d:List D):=dW (iD (mP (eI .i64)) (dS (mP (eI .i64)))) (fun x:(List Int)×(List Int)=>jS x.1 x.2) (fun r:(List Int) =>.clean (.sl false false r.length (ab (eI .i64) r))) l d
theorem B4 {β:Type} {F:(List Int)×(List Int)->Option β} {R:β->RK} (O:(List Int)) (U:(List Int)):dW (iD (mP (eI .i64)) (dS (mP (eI .i64)))) F R none [.sl false false O.length (ab (eI .i64) O),.sl false false U.length (ab (eI .i64) U)]=(F (O,U)).map fun r=>(R r,none):=cU _ _ _ (O,U)
def tP:Env:=(Am.ext (Am.ext bm 129 false ez) 143 false eC)
theorem J5:bH prog tP:=((bH.none.add nk false).add oc false)
theorem b9:type_of% (ai @w<|ai @Ud<|ai @ez.eq_1<|ai @Wr<|ai @eC.eq_1<|@tP.eq_1):=⟨@w,@Ud,@ez.eq_1,@Wr,@eC.eq_1,@tP.eq_1⟩
theorem yn:bW prog 130 kL:=bW.gN (mode := .clean) tok J5 mixed func130 (by kernel_rfl) (fun _ _=>rfl) (fun _=>by kernel_rfl) fun⟨p0,p1⟩ r U=>by
 replace U:jS p0 p1=some r:=U;apply aH rfl ntmps130 results130;simp only[gR];unfold jS at U;obtain⟨x1,aT,U⟩:=ae U;obtain⟨X,Y,Z,O,aa⟩:=mk_one (eI .i64) aT;simp only[bZ]at O;try simp only[b9,seval,X,Y,Z,O,aa]
 obtain⟨aU,aG,U⟩:=ae U;refine aB (fun s t H e=>match s with|(ak,aD)=>∃ao:Nat,t 0=.sl false false p0.length (ab (eI .i64) p0)∧t 1=.sl false false p1.length (ab (eI .i64) p1)∧t 5=.buf 5 ao 1 0 (aD).length∧t 6=.int .i64 ak∧H 5=some ⟨ao,3,ab (eI .i64) aD,false,true,false⟩) (fun o x t H e=>match o with|aq=>x=.exit 0∧∃ar:Nat,t 5=.buf 5 ar 1 0 (aq).length∧H 5=some ⟨ar,3,ab (eI .i64) aq,false,true,false⟩) aG ?_ ?_ ?_
 ·refine⟨1,?_⟩;and_intros<;>first|rfl|(simp only[b9,seval,X,Y,Z,O,aa]<;>rfl)
 ·rintro⟨ak,aD⟩ t H e ⟨ao,Za⟩ c U;simp only[oh]at U;try simp only[b9,seval,X,Y,Z,O,aa,Za]
  apply sp al U<;>intro _ U
  ·try simp only[b9,seval,X,Y,Z,O,aa,Za]
   obtain⟨aV,aI,U⟩:=ae U;refine aB (fun s t H e=>match s with|(aE,aF,au)=>∃av:Nat,t 0=.sl false false p0.length (ab (eI .i64) p0)∧t 1=.sl false false p1.length (ab (eI .i64) p1)∧t 5=.buf 5 av 1 0 (au).length∧t 6=.int .i64 ak∧t 7=.int .i64 aE∧t 8=.int .i64 aF∧H 5=some ⟨av,3,ab (eI .i64) au,false,true,false⟩) (fun o x t H e=>match o with|aw=>x=.exit 2∧∃ah:Nat,t 0=.sl false false p0.length (ab (eI .i64) p0)∧t 1=.sl false false p1.length (ab (eI .i64) p1)∧t 5=.buf 5 ah 1 0 (aw).length∧t 6=.int .i64 ak∧H 5=some ⟨ah,3,ab (eI .i64) aw,false,true,false⟩) aI ?_ ?_ ?_
   ·refine⟨ao,?_⟩;and_intros<;>first|rfl|(simp only[b9,seval,X,Y,Z,O,aa,Za]<;>rfl)
   ·rintro⟨aE,aF,au⟩ t H e ⟨av,Ze⟩ c U;simp only[oo]at U;try simp only[b9,seval,X,Y,Z,O,aa,Ze]
    obtain⟨aW,aJ,U⟩:=ae U;refine bA 0 (fun s t H e=>match s with|ax=>∃ag:Nat,t 0=.sl false false p0.length (ab (eI .i64) p0)∧t 1=.sl false false p1.length (ab (eI .i64) p1)∧t 5=.buf 5 ag 1 0 (au).length∧t 6=.int .i64 ak∧t 7=.int .i64 aE∧t 8=.int .i64 aF∧t 29=.bool ax∧H 5=some ⟨ag,3,ab (eI .i64) au,false,true,false⟩) (fun s=>s=aW) ?_ ?_
    ·rintro ax t H e ⟨ag,aj⟩ rfl;try dsimp only at U
     try simp only[b9,seval,X,Y,Z,O,aa,aj]
     apply sp al U<;>intro _ U
     ·obtain⟨aY,ay,U⟩:=ae U;have ad:=bo (eI .i64) ay;simp only[bZ]at ad;obtain⟨aZ,aK,U⟩:=ae U;have ai:=bo (eI .i64) aK;simp only[bZ]at ai;obtain⟨a1,az,U⟩:=ae U;try simp only[b9,seval,X,Y,Z,O,aa,aj,ad,ai,az]
      refine bJ (by kernel_rfl) ?_;obtain⟨aL,aM,U⟩:=ae U;have aN:=yd aM;have ad:=bo (eI .i64) ay;simp only[bZ]at ad;have aC:=fW (eI .i64) (x':=aL) (fo:=0) (cs:=[.int .i64 aL]) ay rfl (ais rfl);simp only[bZ,Nat.add_zero]at aC;have aA:=aC;simp only[putCells,List.length_cons,List.length_nil,ahr,Nat.reduceAdd]at aA;obtain⟨a6,aO,U⟩:=ae U;have aP:=rV aO;cases U;try simp only[b9,seval,X,Y,Z,O,aa,aj,ad,ai,az,aN,ad,aC,aA,aP]
      apply iu;refine⟨ag,?_⟩;and_intros<;>first|rfl|(simp only[b9,seval,X,Y,Z,O,aa,aj,ad,ai,az,aN,ad,aC,aA,aP]<;>rfl)
     ·cases U;try simp only[b9,seval,X,Y,Z,O,aa,aj]
      apply jv;refine⟨rfl,⟨ag,?_⟩⟩;and_intros<;>first|rfl|(simp only[b9,seval,X,Y,Z,O,aa,aj]<;>rfl)
    ·clear U;have U:=aJ;try simp only[b9,seval,X,Y,Z,O,aa,Ze]
     apply sp aR U<;>intro _ U
     ·cases U;try simp only[b9,seval,X,Y,Z,O,aa,Ze]
      rw[an];refine⟨_,rfl,?_⟩;refine⟨av,?_⟩;and_intros<;>first|rfl|(simp only[b9,seval,X,Y,Z,O,aa,Ze]<;>rfl)
     ·cases U;try simp only[b9,seval,X,Y,Z,O,aa,Ze]
      rw[an];refine⟨_,rfl,?_⟩;refine⟨av,?_⟩;and_intros<;>first|rfl|(simp only[b9,seval,X,Y,Z,O,aa,Ze]<;>rfl)
   ·rintro x t H e hx;obtain⟨aw,rfl⟩:∃z,z=aV:=⟨_,rfl⟩;dsimp only at hx U;obtain⟨rfl,⟨ah,aQ⟩⟩:=hx;cases U;try simp only[b9,seval,X,Y,Z,O,aa,aQ]
    apply iu;refine⟨ah,?_⟩;and_intros<;>first|rfl|(simp only[b9,seval,X,Y,Z,O,aa,aQ]<;>rfl)
  ·cases U;try simp only[b9,seval,X,Y,Z,O,aa,Za]
   apply jv;refine⟨rfl,⟨ao,?_⟩⟩;and_intros<;>first|rfl|(simp only[b9,seval,X,Y,Z,O,aa,Za]<;>rfl)
 ·rintro x t H e hx;obtain⟨aq,rfl⟩:∃z,z=aU:=⟨_,rfl⟩;dsimp only at hx U;obtain⟨rfl,⟨ar,aX⟩⟩:=hx;obtain⟨a7,aS,U⟩:=ae U;cases U;try simp only[b9,seval,X,Y,Z,O,aa,aX,aS]
def gV (l:Option (D×Row)) (d:List D):=dW (iD (mP (eI .i64)) (dS (mP (eI .i64)))) (fun x:(List Int)×(List Int)=>nn x.1 x.2) (fun r:Bool =>.clean (.bool r)) l d
def wO:Env:=(Am.ext bm 143 false eC)
theorem MW:bH prog wO:=(bH.none.add oc false)
theorem ie:type_of% (ai @w<|ai @Wr<|ai @eC.eq_1<|@wO.eq_1):=⟨@w,@Wr,@eC.eq_1,@wO.eq_1⟩
theorem ua:bW prog 124 gV:=bW.gN (mode := .clean) tok MW mixed func124 (by kernel_rfl) (fun _ _=>rfl) (fun _=>by kernel_rfl) fun⟨p0,p1⟩ r O=>by
 replace O:nn p0 p1=some r:=O;apply aH rfl ntmps124 results124;simp only[gR];unfold nn at O;try simp only[ie,seval]
 obtain⟨o5,aa,O⟩:=ae O;refine aB (fun s t H e=>match s with|Z=>t 0=.sl false false p0.length (ab (eI .i64) p0)∧t 1=.sl false false p1.length (ab (eI .i64) p1)∧t 5=.int .i64 Z) (fun o x t H e=>match o with|(.inl _)=>x=.exit 0|(.inr r)=>x=.ret∧fF .clean tab none [.tmp 4] ⟨t,EH H,e⟩=some (.clean (.bool r),none)) aa ?_ ?_ ?_
 ·and_intros<;>first|rfl|(simp only[ie,seval]<;>rfl)
 ·rintro Z t H e Y c O;simp only[qm]at O;try simp only[ie,seval,Y]
  apply sp al O<;>intro _ O
  ·obtain⟨r7,U,O⟩:=ae O;obtain⟨r8,X,O⟩:=ae O;try simp only[ie,seval,Y,U,X]
   apply sp al O<;>intro _ O
   ·cases O;try simp only[ie,seval,Y,U,X]
    refine rq ⟨rfl,?_⟩;try simp only[ie,seval,Y,U,X]
   ·cases O;try simp only[ie,seval,Y,U,X]
    apply iu;and_intros<;>first|rfl|(simp only[ie,seval,Y,U,X]<;>rfl)
  ·cases O;try simp only[ie,seval,Y]
   apply jv;exact rfl
 ·rintro x t H e hx;rcases o5 with _|ra
  ·dsimp only at hx O;subst hx;cases O;try simp only[ie,seval]
  ·dsimp only at hx O;obtain⟨rfl,hE⟩:=hx;cases O;try simp only[bg,aY,bk,cK,cJ,ca,cc]
   exact hE
def fZ (l:Option (D×Row)) (d:List D):=dW (iD (mP (eI .i64)) (dS (mP (eI .i64)))) (fun x:(List Int)×(List Int)=>jR x.1 x.2) (fun r:(List Int) =>.clean (.sl false false r.length (ab (eI .i64) r))) l d
def tO:Env:=(Am.ext (Am.ext bm 129 false ez) 143 false eC)
theorem J4:bH prog tO:=((bH.none.add nk false).add oc false)
theorem e7:type_of% (ai @w<|ai @Ud<|ai @ez.eq_1<|ai @Wr<|ai @eC.eq_1<|@tO.eq_1):=⟨@w,@Ud,@ez.eq_1,@Wr,@eC.eq_1,@tO.eq_1⟩
theorem sj:bW prog 128 fZ:=bW.gN (mode := .clean) tok J4 mixed func128 (by kernel_rfl) (fun _ _=>rfl) (fun _=>by kernel_rfl) fun⟨p0,p1⟩ r O=>by
 replace O:jR p0 p1=some r:=O;apply aH rfl ntmps128 results128;simp only[gR];unfold jR at O;try simp only[e7,seval]
 obtain⟨o9,az,O⟩:=ae O;refine aB (fun s t H e=>match s with|(ar,au,aq)=>∃ag:Nat,t 0=.sl false false p0.length (ab (eI .i64) p0)∧t 1=.sl false false p1.length (ab (eI .i64) p1)∧t 5=.buf 5 ag 1 0 (aq).length∧t 6=.int .i64 ar∧t 7=.int .i64 au∧H 5=some ⟨ag,3,ab (eI .i64) aq,false,true,false⟩) (fun o x t H e=>match o with|Y=>x=.exit 0∧∃Z:Nat,t 5=.buf 5 Z 1 0 (Y).length∧H 5=some ⟨Z,3,ab (eI .i64) Y,false,true,false⟩) az ?_ ?_ ?_
 ·refine⟨1,?_⟩;and_intros<;>first|rfl|(simp only[e7,seval]<;>rfl)
 ·rintro⟨ar,au,aq⟩ t H e ⟨ag,Za⟩ c O;simp only[og]at O;try simp only[e7,seval,Za]
  apply sp al O<;>intro _ O
  ·obtain⟨aC,av,O⟩:=ae O;have U:=bo (eI .i64) av;simp only[bZ]at U;obtain⟨aD,X,O⟩:=ae O;try simp only[e7,seval,Za,U,X]
   refine bJ (by kernel_rfl) ?_;try simp only[e7,seval,Za,U,X]
   apply sp al O<;>intro _ O
   ·obtain⟨aE,aw,O⟩:=ae O;obtain⟨ah,aa,ai,aj⟩:=iJ (eI .i64) aw;simp only[bZ]at aa;cases O;try simp only[e7,seval,Za,U,X,ah,aa,ai,aj]
    apply iu;refine⟨e+1+1+1+1+1+1,?_⟩;and_intros<;>first|rfl|(simp only[e7,seval,Za,U,X,ah,aa,ai,aj]<;>rfl)
   ·obtain⟨aF,ax,O⟩:=ae O;obtain⟨ak,ad,an,ao⟩:=iJ (eI .i64) ax;simp only[bZ]at ad;cases O;try simp only[e7,seval,Za,U,X,ak,ad,an,ao]
    apply iu;refine⟨e+1+1+1+1,?_⟩;and_intros<;>first|rfl|(simp only[e7,seval,Za,U,X,ak,ad,an,ao]<;>rfl)
  ·cases O;try simp only[e7,seval,Za]
   apply jv;refine⟨rfl,⟨ag,?_⟩⟩;and_intros<;>first|rfl|(simp only[e7,seval,Za]<;>rfl)
 ·rintro x t H e hx;obtain⟨Y,rfl⟩:∃z,z=o9:=⟨_,rfl⟩;dsimp only at hx O;obtain⟨rfl,⟨Z,aA⟩⟩:=hx;obtain⟨aG,ay,O⟩:=ae O;cases O;try simp only[e7,seval,aA,ay]
def kC (l:Option (D×Row)) (d:List D):=dW (iD (mP (eI .i64)) (dS (mP (eI .i64)))) (fun x:(List Int)×(List Int)=>pD x.1 x.2) (fun r:(List Int)×(List Int) =>.clean (.tup [.sl false false r.1.length (ab (eI .i64) r.1),.sl false false r.2.length (ab (eI .i64) r.2)])) l d
theorem ud (O:(List Int)) (U:(List Int)):kL none [.sl false false O.length (ab (eI .i64) O),.sl false false U.length (ab (eI .i64) U)]=(jS O U).map fun r:(List Int)=>(.clean (.sl false false r.length (ab (eI .i64) r)),none):=cU _ _ _ (O,U)
theorem xd (O:(List Int)):ez none [.sl false false O.length (ab (eI .i64) O)]=(gO O).map fun r:(List Int)=>(.clean (.sl false false r.length (ab (eI .i64) r)),none):=cU _ _ _ (O)
def wQ:Env:=(Am.keep 7 (Am.ext (Am.ext (Am.ext (Am.ext bm 124 false gV) 128 false fZ) 129 false ez) 130 false kL))
theorem MY:bH prog wQ:=(bH.keep ((((bH.none.add ua false).add sj false).add nk false).add yn false) 7)
theorem dB:type_of% (ai @w<|ai @B4<|ai @gV.eq_1<|ai @fZ.eq_1<|ai @xd<|ai @ud<|@wQ.eq_1):=⟨@w,@B4,@gV.eq_1,@fZ.eq_1,@xd,@ud,@wQ.eq_1⟩
theorem AY:bW prog 122 kC:=bW.gN (mode := .clean) tok MY mixed func122 (by kernel_rfl) (fun _ _=>rfl) (fun _=>by kernel_rfl) fun⟨p0,p1⟩ r O=>by
 replace O:pD p0 p1=some r:=O;apply aH rfl ntmps122 results122;simp only[gR];unfold pD at O;obtain⟨x1,aW,O⟩:=ae O;obtain⟨ah,ai,aj,Z,ak⟩:=mk_one (eI .i64) aW;simp only[bZ]at Z;try simp only[dB,seval,ah,ai,aj,Z,ak]
 obtain⟨aX,aO,O⟩:=ae O;refine aB (fun s t H e=>match s with|(aN,aE,ar)=>∃aw:Nat,t 0=.sl false false p0.length (ab (eI .i64) p0)∧t 1=.sl false false p1.length (ab (eI .i64) p1)∧t 6=.buf 6 aw 1 0 (ar).length∧t 7=.sl false false aN.length (ab (eI .i64) aN)∧t 8=.int .i64 aE∧H 6=some ⟨aw,3,ab (eI .i64) ar,false,true,false⟩) (fun o x t H e=>match o with|(ax,ay)=>x=.exit 0∧∃az:Nat,t 6=.buf 6 az 1 0 (ay).length∧t 7=.sl false false ax.length (ab (eI .i64) ax)∧H 6=some ⟨az,3,ab (eI .i64) ay,false,true,false⟩) aO ?_ ?_ ?_
 ·refine⟨1,?_⟩;and_intros<;>first|rfl|(simp only[dB,seval,ah,ai,aj,Z,ak]<;>rfl)
 ·rintro⟨aN,aE,ar⟩ t H e ⟨aw,Za⟩ c O;simp only[qn]at O;try simp only[dB,seval,ah,ai,aj,Z,ak,Za]
  apply sp al O<;>intro _ O
  ·obtain⟨a6,aP,O⟩:=ae O;have U:=bo (eI .i64) aP;simp only[bZ]at U;obtain⟨a7,aQ,O⟩:=ae O;obtain⟨X,Y,aa,ad⟩:=aav (eI .i64) aQ;simp only[bj,bZ,List.length_cons,ahr,Nat.reduceAdd]at X Y;obtain⟨aF,ag,O⟩:=ae O;try simp only[dB,seval,ah,ai,aj,Z,ak,Za,U,X,Y,aa,ad,ag]
   obtain⟨aY,aR,O⟩:=ae O;refine aB (fun s t H e=>match s with|(aS,aI)=>∃av:Nat,t 0=.sl false false p0.length (ab (eI .i64) p0)∧t 1=.sl false false p1.length (ab (eI .i64) p1)∧t 6=.buf 6 av 1 0 (ar).length∧t 7=.sl false false aF.length (ab (eI .i64) aF)∧t 8=.int .i64 aE∧t 9=.int .i64 aS∧t 10=.int .i64 aI∧H 6=some ⟨av,3,ab (eI .i64) ar,false,true,false⟩) (fun o x t H e=>match o with|an=>x=.exit 2∧∃au:Nat,t 0=.sl false false p0.length (ab (eI .i64) p0)∧t 1=.sl false false p1.length (ab (eI .i64) p1)∧t 6=.buf 6 au 1 0 (ar).length∧t 7=.sl false false aF.length (ab (eI .i64) aF)∧t 8=.int .i64 aE∧t 9=.int .i64 an∧H 6=some ⟨au,3,ab (eI .i64) ar,false,true,false⟩) aR ?_ ?_ ?_
   ·refine⟨aw,?_⟩;and_intros<;>first|rfl|(simp only[dB,seval,ah,ai,aj,Z,ak,Za,U,X,Y,aa,ad,ag]<;>rfl)
   ·rintro⟨aS,aI⟩ t H e ⟨av,Zc⟩ c O;simp only[np]at O;try simp only[dB,seval,ah,ai,aj,Z,ak,U,X,Y,aa,ad,ag,Zc]
    apply sp al O<;>intro _ O
    ·obtain⟨aZ,aT,O⟩:=ae O;have aA:=rV aT;have i46:=ud p1 ([aZ]);simp only[bj,bZ,List.length_cons,List.length_nil,ahr,Nat.reduceAdd,aiK]at i46;obtain⟨a8,ao,O⟩:=ae O;obtain⟨ba,aq,O⟩:=ae O;try simp only[dB,seval,ah,ai,aj,Z,ak,U,X,Y,aa,ad,ag,Zc,aA,i46,ao,aq]
     apply sp al O<;>intro _ O
     ·cases O;try simp only[dB,seval,ah,ai,aj,Z,ak,U,X,Y,aa,ad,ag,Zc,aA,i46,ao,aq]
      apply iu;refine⟨av,?_⟩;and_intros<;>first|rfl|(simp only[dB,seval,ah,ai,aj,Z,ak,U,X,Y,aa,ad,ag,Zc,aA,i46,ao,aq]<;>rfl)
     ·cases O;try simp only[dB,seval,ah,ai,aj,Z,ak,U,X,Y,aa,ad,ag,Zc,aA,i46,ao,aq]
      apply iu;refine⟨av,?_⟩;and_intros<;>first|rfl|(simp only[dB,seval,ah,ai,aj,Z,ak,U,X,Y,aa,ad,ag,Zc,aA,i46,ao,aq]<;>rfl)
    ·cases O;try simp only[dB,seval,ah,ai,aj,Z,ak,U,X,Y,aa,ad,ag,Zc]
     apply jv;refine⟨rfl,⟨av,?_⟩⟩;and_intros<;>first|rfl|(simp only[dB,seval,ah,ai,aj,Z,ak,U,X,Y,aa,ad,ag,Zc]<;>rfl)
   ·rintro x t H e hx;obtain⟨an,rfl⟩:∃z,z=aY:=⟨_,rfl⟩;dsimp only at hx O;obtain⟨rfl,⟨au,aU⟩⟩:=hx;obtain⟨bb,aJ,O⟩:=ae O;have aC:=bo (eI .i64) aJ;simp only[bZ]at aC;have aG:=fW (eI .i64) (x':=an) (fo:=0) (cs:=[.int .i64 an]) aJ rfl (ais rfl);simp only[bZ,Nat.add_zero]at aG;have aD:=aG;simp only[putCells,List.length_cons,List.length_nil,ahr,Nat.reduceAdd]at aD;have i52:=xd ([an]);simp only[bj,bZ,List.length_cons,List.length_nil,ahr,Nat.reduceAdd,aiK]at i52;obtain⟨bc,aK,O⟩:=ae O;obtain⟨bd,aL,O⟩:=ae O;obtain⟨bf,aM,O⟩:=ae O;cases O;try simp only[dB,seval,ah,ai,aj,Z,ak,U,X,Y,aa,ad,ag,aU,aC,aG,aD,i52,aK,aL,aM]
    apply iu;refine⟨au,?_⟩;and_intros<;>first|rfl|(simp only[dB,seval,ah,ai,aj,Z,ak,U,X,Y,aa,ad,ag,aU,aC,aG,aD,i52,aK,aL,aM]<;>rfl)
  ·cases O;try simp only[dB,seval,ah,ai,aj,Z,ak,Za]
   apply jv;refine⟨rfl,⟨aw,?_⟩⟩;and_intros<;>first|rfl|(simp only[dB,seval,ah,ai,aj,Z,ak,Za]<;>rfl)
 ·rintro x t H e hx;rcases aX with⟨ax,ay⟩;dsimp only at hx O;obtain⟨rfl,⟨az,a1⟩⟩:=hx;obtain⟨bg,aV,O⟩:=ae O;cases O;try simp only[dB,seval,ah,ai,aj,Z,ak,a1,aV]
def l7 (l:Option (D×Row)) (d:List D):=dW (iD (bC dI) (dS (bC dI))) (fun x:aD×aD=>qk x.1 x.2) (fun r:aD×Int =>.clean (.tup [.agg [.int .i64 r.1.aj,.sl false false r.1.aa.length (ab (eI .i64) r.1.aa)],.int .i64 r.2])) l d
theorem yN {β:Type} {F:aD×aD->Option β} {R:β->RK} (X:Int) (O:(List Int)) (Y:Int) (U:(List Int)):dW (iD (bC dI) (dS (bC dI))) F R none [.agg [.int .i64 X,.sl false false O.length (ab (eI .i64) O)],.agg [.int .i64 Y,.sl false false U.length (ab (eI .i64) U)]]=(F ((aD.mk X O),(aD.mk Y U))).map fun r=>(R r,none):=cU _ _ _ ((aD.mk X O),(aD.mk Y U))
def zi:Env:=(Am.ext (Am.ext (Am.ext bm 84 false bt) 97 false cZ) 122 false kC)
theorem QQ:bH prog zi:=(((bH.none.add fV false).add kW false).add AY false)
theorem eZ:type_of% (ai @w<|ai @ru<|ai @bt.eq_1<|ai @B3<|ai @cZ.eq_1<|ai @B4<|ai @kC.eq_1<|@zi.eq_1):=⟨@w,@ru,@bt.eq_1,@B3,@cZ.eq_1,@B4,@kC.eq_1,@zi.eq_1⟩
theorem EG:bW prog 85 l7:=bW.gN (mode := .clean) tok QQ mixed func85 (by kernel_rfl) (fun _ _=>rfl) (fun _=>by kernel_rfl) fun⟨p0,p1⟩ r O=>by
 replace O:qk p0 p1=some r:=O;apply aH rfl ntmps85 results85;simp only[gR];unfold qk at O;obtain⟨r1,U,O⟩:=ae O;try simp only[eZ,seval,U]
 obtain⟨o2,av,O⟩:=ae O;refine bA 0 (fun s t H e=>match s with|Y=>∃Z:Nat,∃ad:Nat,∃X:Nat,t 2=.ptr 2 Z 0∧t 3=.ptr 3 ad 0∧t 4=.ptr 4 X 0∧t 17=.bool Y∧H 2=some ⟨Z,40,[.int .i64 p0.aj,.sl false false p0.aa.length (ab (eI .i64) p0.aa)],false,false,false⟩∧H 3=some ⟨ad,40,[.int .i64 p1.aj,.sl false false p1.aa.length (ab (eI .i64) p1.aa)],false,false,false⟩∧H 4=some ⟨X,40,[.int .i64 0,.sl true true 0 []],false,false,false⟩) (fun s=>s=o2) ?_ ?_
 ·rintro Y t H e ⟨Z,ad,X,ak⟩ rfl;try dsimp only at O
  try simp only[eZ,seval,U,ak]
  apply sp al O<;>intro _ O
  ·cases O;try simp only[eZ,seval,U,ak]
  ·try simp only[eZ,seval,U,ak]
   obtain⟨o6,aw,O⟩:=ae O;refine aB (fun s t H e=>match s with|(aq,ar)=>∃ag:Nat,t 4=.ptr 4 ag 0∧t 6=.sl false false aq.length (ab (eI .i64) aq)∧t 7=.sl false false ar.length (ab (eI .i64) ar)∧H 4=some ⟨ag,40,[.int .i64 0,.sl true true 0 []],false,false,false⟩) (fun o x t H e=>match o with|ah=>x=.exit 0∧∃ai:Nat,t 4=.ptr 4 ai 0∧t 6=.sl false false ah.length (ab (eI .i64) ah)∧H 4=some ⟨ai,40,[.int .i64 0,.sl true true 0 []],false,false,false⟩) aw ?_ ?_ ?_
   ·refine⟨X,?_⟩;and_intros<;>first|rfl|(simp only[eZ,seval,U,ak]<;>rfl)
   ·rintro⟨aq,ar⟩ t H e ⟨ag,Zb⟩ c O;simp only[pC]at O;try simp only[eZ,seval,U,Zb]
    apply sp al O<;>intro _ O
    ·obtain⟨r8,au,O⟩:=ae O;cases O;try simp only[eZ,seval,U,Zb,au]
     apply iu;refine⟨ag,?_⟩;and_intros<;>first|rfl|(simp only[eZ,seval,U,Zb,au]<;>rfl)
    ·cases O;try simp only[eZ,seval,U,Zb]
     apply jv;refine⟨rfl,⟨ag,?_⟩⟩;and_intros<;>first|rfl|(simp only[eZ,seval,U,Zb]<;>rfl)
   ·rintro x t H e hx;obtain⟨ah,rfl⟩:∃z,z=o6:=⟨_,rfl⟩;dsimp only at hx O;obtain⟨rfl,⟨ai,ax⟩⟩:=hx;obtain⟨r9,ay,O⟩:=ae O;cases O;try simp only[eZ,seval,U,ax,ay]
 ·clear O;have O:=av;try simp only[eZ,seval,U]
  apply sp aR O<;>intro _ O
  ·cases O;try simp only[eZ,seval,U]
   rw[an];refine⟨_,rfl,?_⟩;refine⟨0,0,0,?_⟩;and_intros<;>first|rfl|(simp only[eZ,seval,U]<;>rfl)
  ·obtain⟨az,ao,O⟩:=ae O;cases O;try simp only[eZ,seval,U,ao]
   rw[an];refine⟨_,rfl,?_⟩;refine⟨0,0,0,?_⟩;and_intros<;>first|rfl|(simp only[eZ,seval,U,ao]<;>rfl)
def l9 (l:Option (D×Row)) (d:List D):=dW (iD (mP (eI .i64)) (dS (mP (eI .i64)))) (fun x:(List Int)×(List Int)=>q9 x.1 x.2) (fun r:(List Int) =>.clean (.sl false false r.length (ab (eI .i64) r))) l d
def wR:Env:=(Am.ext (Am.ext bm 129 false ez) 143 false eC)
theorem MZ:bH prog wR:=((bH.none.add nk false).add oc false)
theorem dM:type_of% (ai @w<|ai @Ud<|ai @ez.eq_1<|ai @Wr<|ai @eC.eq_1<|@wR.eq_1):=⟨@w,@Ud,@ez.eq_1,@Wr,@eC.eq_1,@wR.eq_1⟩
theorem AZ:bW prog 127 l9:=bW.gN (mode := .clean) tok MZ mixed func127 (by kernel_rfl) (fun _ _=>rfl) (fun _=>by kernel_rfl) fun⟨p0,p1⟩ r O=>by
 replace O:q9 p0 p1=some r:=O;apply aH rfl ntmps127 results127;simp only[gR];unfold q9 at O;try simp only[dM,seval]
 obtain⟨aE,av,O⟩:=ae O;refine aB (fun s t H e=>match s with|(ar,au,Y)=>∃X:Nat,t 0=.sl false false p0.length (ab (eI .i64) p0)∧t 1=.sl false false p1.length (ab (eI .i64) p1)∧t 5=.buf 5 X 1 0 (Y).length∧t 6=.int .i64 ar∧t 7=.int .i64 au∧H 5=some ⟨X,3,ab (eI .i64) Y,false,true,false⟩) (fun o x t H e=>match o with|Z=>x=.exit 0∧∃aa:Nat,t 5=.buf 5 aa 1 0 (Z).length∧H 5=some ⟨aa,3,ab (eI .i64) Z,false,true,false⟩) av ?_ ?_ ?_
 ·refine⟨1,?_⟩;and_intros<;>first|rfl|(simp only[dM,seval]<;>rfl)
 ·rintro⟨ar,au,Y⟩ t H e ⟨X,Za⟩ c O;simp only[A3]at O;try simp only[dM,seval,Za]
  obtain⟨aF,aw,O⟩:=ae O;refine bA 0 (fun s t H e=>match s with|ad=>∃U:Nat,t 0=.sl false false p0.length (ab (eI .i64) p0)∧t 1=.sl false false p1.length (ab (eI .i64) p1)∧t 5=.buf 5 U 1 0 (Y).length∧t 6=.int .i64 ar∧t 7=.int .i64 au∧t 22=.bool ad∧H 5=some ⟨U,3,ab (eI .i64) Y,false,true,false⟩) (fun s=>s=aF) ?_ ?_
  ·rintro ad t H e ⟨U,ag⟩ rfl;try dsimp only at O
   try simp only[dM,seval,ag]
   apply sp al O<;>intro _ O
   ·obtain⟨aI,ai,O⟩:=ae O;obtain⟨aJ,aj,O⟩:=ae O;obtain⟨aK,ax,O⟩:=ae O;have ay:=yd ax;obtain⟨aL,az,O⟩:=ae O;obtain⟨ak,ah,ao,aq⟩:=iJ (eI .i64) az;simp only[bZ]at ah;obtain⟨aM,aA,O⟩:=ae O;have aC:=rV aA;cases O;try simp only[dM,seval,ag,ai,aj,ay,ak,ah,ao,aq,aC]
    apply iu;refine⟨e+1,?_⟩;and_intros<;>first|rfl|(simp only[dM,seval,ag,ai,aj,ay,ak,ah,ao,aq,aC]<;>rfl)
   ·cases O;try simp only[dM,seval,ag]
    apply jv;refine⟨rfl,⟨U,?_⟩⟩;and_intros<;>first|rfl|(simp only[dM,seval,ag]<;>rfl)
  ·clear O;have O:=aw;try simp only[dM,seval,Za]
   apply sp aR O<;>intro _ O
   ·cases O;try simp only[dM,seval,Za]
    rw[an];refine⟨_,rfl,?_⟩;refine⟨X,?_⟩;and_intros<;>first|rfl|(simp only[dM,seval,Za]<;>rfl)
   ·try simp only[dM,seval,Za]
    apply sp aR O<;>intro _ O
    ·cases O;try simp only[dM,seval,Za]
     rw[an];refine⟨_,rfl,?_⟩;refine⟨X,?_⟩;and_intros<;>first|rfl|(simp only[dM,seval,Za]<;>rfl)
    ·cases O;try simp only[dM,seval,Za]
     rw[an];refine⟨_,rfl,?_⟩;refine⟨X,?_⟩;and_intros<;>first|rfl|(simp only[dM,seval,Za]<;>rfl)
 ·rintro x t H e hx;obtain⟨Z,rfl⟩:∃z,z=aE:=⟨_,rfl⟩;dsimp only at hx O;obtain⟨rfl,⟨aa,aG⟩⟩:=hx;obtain⟨aN,aD,O⟩:=ae O;cases O;try simp only[dM,seval,aG,aD]
def uH (l:Option (D×Row)) (d:List D):=dW (iD (bC dI) (dS (bC dI))) (fun x:aD×aD=>od x.1 x.2) (fun r:aD×aD×Int =>.clean (.tup [.agg [.int .i64 r.1.aj,.sl false false r.1.aa.length (ab (eI .i64) r.1.aa)],.agg [.int .i64 r.2.1.aj,.sl false false r.2.1.aa.length (ab (eI .i64) r.2.1.aa)],.int .i64 r.2.2])) l d
theorem xc (O:(List Int)) (U:(List Int)):l9 none [.sl false false O.length (ab (eI .i64) O),.sl false false U.length (ab (eI .i64) U)]=(q9 O U).map fun r:(List Int)=>(.clean (.sl false false r.length (ab (eI .i64) r)),none):=cU _ _ _ (O,U)
def zh:Env:=(Am.ext (Am.ext (Am.ext (Am.ext (Am.ext bm 84 false bt) 97 false cZ) 122 false kC) 127 false l9) 128 false fZ)
theorem QP:bH prog zh:=(((((bH.none.add fV false).add kW false).add AY false).add AZ false).add sj false)
theorem dt:type_of% (ai @w<|ai @ru<|ai @bt.eq_1<|ai @B3<|ai @cZ.eq_1<|ai @B4<|ai @kC.eq_1<|ai @xc<|ai @fZ.eq_1<|@zh.eq_1):=⟨@w,@ru,@bt.eq_1,@B3,@cZ.eq_1,@B4,@kC.eq_1,@xc,@fZ.eq_1,@zh.eq_1⟩
theorem Rf:bW prog 96 uH:=bW.gN (mode := .clean) tok QP mixed func96 (by kernel_rfl) (fun _ _=>rfl) (fun _=>by kernel_rfl) fun⟨p0,p1⟩ r O=>by
 replace O:od p0 p1=some r:=O;apply aH rfl ntmps96 results96;simp only[gR];unfold od at O;obtain⟨r1,U,O⟩:=ae O;try simp only[dt,seval,U]
 obtain⟨o2,aD,O⟩:=ae O;refine bA 0 (fun s t H e=>match s with|ai=>∃Z:Nat,∃ad:Nat,∃ag:Nat,∃ah:Nat,t 2=.ptr 2 Z 0∧t 3=.ptr 3 ad 0∧t 4=.ptr 4 ag 0∧t 5=.ptr 5 ah 0∧t 16=.bool ai∧H 2=some ⟨Z,40,[.int .i64 p0.aj,.sl false false p0.aa.length (ab (eI .i64) p0.aa)],false,false,false⟩∧H 3=some ⟨ad,40,[.int .i64 p1.aj,.sl false false p1.aa.length (ab (eI .i64) p1.aa)],false,false,false⟩∧H 4=some ⟨ag,40,[.int .i64 0,.sl true true 0 []],false,false,false⟩∧H 5=some ⟨ah,40,[.int .i64 0,.sl true true 0 []],false,false,false⟩) (fun s=>s=o2) ?_ ?_
 ·rintro ai t H e ⟨Z,ad,ag,ah,Y⟩ rfl;try dsimp only at O
  try simp only[dt,seval,U,Y]
  apply sp al O<;>intro _ O
  ·cases O;try simp only[dt,seval,U,Y]
  ·try simp only[dt,seval,U,Y]
   apply sp al O<;>intro _ O
   ·cases O;try simp only[dt,seval,U,Y]
   ·obtain⟨r5,X,O⟩:=ae O;try simp only[dt,seval,U,Y,X]
    obtain⟨o6,aE,O⟩:=ae O;refine bA 0 (fun s t H e=>match s with|ak=>∃ao:Nat,∃aq:Nat,∃ar:Nat,∃au:Nat,t 2=.ptr 2 ao 0∧t 3=.ptr 3 aq 0∧t 4=.ptr 4 ar 0∧t 5=.ptr 5 au 0∧t 7=.sl false false r5.1.length (ab (eI .i64) r5.1)∧t 8=.sl false false r5.2.length (ab (eI .i64) r5.2)∧t 42=.bool ak∧H 2=some ⟨ao,40,[.int .i64 p0.aj,.sl false false p0.aa.length (ab (eI .i64) p0.aa)],false,false,false⟩∧H 3=some ⟨aq,40,[.int .i64 p1.aj,.sl false false p1.aa.length (ab (eI .i64) p1.aa)],false,false,false⟩∧H 4=some ⟨ar,40,[.int .i64 0,.sl true true 0 []],false,false,false⟩∧H 5=some ⟨au,40,[.int .i64 0,.sl true true 0 []],false,false,false⟩) (fun s=>s=o6) ?_ ?_
    ·rintro ak t H e ⟨ao,aq,ar,au,av⟩ rfl;try dsimp only at O
     try simp only[dt,seval,U,X,av]
     apply sp al O<;>intro _ O
     ·obtain⟨r8,aB,O⟩:=ae O;obtain⟨r9,aC,O⟩:=ae O;try simp only[dt,seval,U,X,av,aB,aC]
      refine bJ (by kernel_rfl) ?_;cases O;try simp only[dt,seval,U,X,av,aB,aC]
     ·have i10:=xc r5.1 ([1]);simp only[bj,bZ,List.length_cons,List.length_nil,ahr,Nat.reduceAdd,aiK]at i10;obtain⟨aF,aw,O⟩:=ae O;obtain⟨aG,ax,O⟩:=ae O;obtain⟨aI,ay,O⟩:=ae O;obtain⟨aJ,az,O⟩:=ae O;try simp only[dt,seval,U,X,av,i10,aw,ax,ay,az]
      refine bJ (by kernel_rfl) ?_;cases O;try simp only[dt,seval,U,X,av,i10,aw,ax,ay,az]
    ·clear O;have O:=aE;try simp only[dt,seval,U,Y,X]
     apply sp aR O<;>intro _ O
     ·cases O;try simp only[dt,seval,U,Y,X]
      rw[an];refine⟨_,rfl,?_⟩;refine⟨Z,ad,ag,ah,?_⟩;and_intros<;>first|rfl|(simp only[dt,seval,U,Y,X]<;>rfl)
     ·cases O;try simp only[dt,seval,U,Y,X]
      rw[an];refine⟨_,rfl,?_⟩;refine⟨Z,ad,ag,ah,?_⟩;and_intros<;>first|rfl|(simp only[dt,seval,U,Y,X]<;>rfl)
 ·clear O;have O:=aD;try simp only[dt,seval,U]
  apply sp aR O<;>intro _ O
  ·cases O;try simp only[dt,seval,U]
   rw[an];refine⟨_,rfl,?_⟩;refine⟨0,0,0,0,?_⟩;and_intros<;>first|rfl|(simp only[dt,seval,U]<;>rfl)
  ·obtain⟨aK,aA,O⟩:=ae O;cases O;try simp only[dt,seval,U,aA]
   rw[an];refine⟨_,rfl,?_⟩;refine⟨0,0,0,0,?_⟩;and_intros<;>first|rfl|(simp only[dt,seval,U,aA]<;>rfl)
def ma (l:Option (D×Row)) (d:List D):=dW (iD (bC dI) (dS (bC dI))) (fun x:aD×aD=>sn x.1 x.2) (fun r:aw×Int =>.clean (.tup [.agg [.int .i64 r.1.cu.aj,.sl false false r.1.cu.aa.length (ab (eI .i64) r.1.cu.aa),.int .i64 r.1.ct.aj,.sl false false r.1.ct.aa.length (ab (eI .i64) r.1.ct.aa)],.int .i64 r.2])) l d
def zn:Env:=(Am.ext (Am.ext (Am.ext (Am.ext bm 84 false bt) 85 false l7) 95 false l8) 96 false uH)
theorem QV:bH prog zn:=((((bH.none.add fV false).add EG false).add EI false).add Rf false)
theorem eF:type_of% (ai @w<|ai @ru<|ai @bt.eq_1<|ai @yN<|ai @l7.eq_1<|ai @l8.eq_1<|ai @uH.eq_1<|@zn.eq_1):=⟨@w,@ru,@bt.eq_1,@yN,@l7.eq_1,@l8.eq_1,@uH.eq_1,@zn.eq_1⟩
theorem EJ:bW prog 59 ma:=bW.gN (mode := .clean) tok QV mixed func59 (by kernel_rfl) (fun _ _=>rfl) (fun _=>by kernel_rfl) fun⟨p0,p1⟩ r O=>by
 replace O:sn p0 p1=some r:=O;apply aH rfl ntmps59 results59;simp only[gR];unfold sn at O;obtain⟨r1,U,O⟩:=ae O;try simp only[eF,seval,U]
 obtain⟨o2,ay,O⟩:=ae O;refine bA 0 (fun s t H e=>match s with|ao=>∃ad:Nat,∃ag:Nat,∃ah:Nat,t 2=.ptr 2 ad 0∧t 3=.ptr 3 ag 0∧t 4=.ptr 4 ah 0∧t 21=.bool ao∧H 2=some ⟨ad,40,[.int .i64 p0.aj,.sl false false p0.aa.length (ab (eI .i64) p0.aa)],false,false,false⟩∧H 3=some ⟨ag,40,[.int .i64 p1.aj,.sl false false p1.aa.length (ab (eI .i64) p1.aa)],false,false,false⟩∧H 4=some ⟨ah,42,[.int .i64 0,.sl true true 0 [],.int .i64 0,.sl true true 0 []],false,false,false⟩) (fun s=>s=o2) ?_ ?_
 ·rintro ao t H e ⟨ad,ag,ah,X⟩ rfl;try dsimp only at O
  try simp only[eF,seval,U,X]
  apply sp al O<;>intro _ O
  ·cases O;try simp only[eF,seval,U,X]
  ·try simp only[eF,seval,U,X]
   apply sp al O<;>intro _ O
   ·cases O;try simp only[eF,seval,U,X]
   ·try simp only[eF,seval,U,X]
    obtain⟨o5,az,O⟩:=ae O;refine ki 0 (fun s t H e=>match s with|(ai,Y,ak,Z)=>∃aq:Nat,∃ar:Nat,∃au:Nat,t 2=.ptr 2 aq 0∧t 3=.ptr 3 ar 0∧t 4=.ptr 4 au 0∧H 2=some ⟨aq,40,[.int .i64 ai,.sl false false Y.length (ab (eI .i64) Y)],false,false,false⟩∧H 3=some ⟨ar,40,[.int .i64 ak,.sl false false Z.length (ab (eI .i64) Z)],false,false,false⟩∧H 4=some ⟨au,42,[.int .i64 0,.sl true true 0 [],.int .i64 0,.sl true true 0 []],false,false,false⟩) (fun s=>s=o5) ?_ ?_
    ·rintro⟨ai,Y,ak,Z⟩ t H e ⟨aq,ar,au,aA⟩ rfl;try dsimp only at O
     obtain⟨r6,aB,O⟩:=ae O;obtain⟨r7,aC,O⟩:=ae O;obtain⟨r8,aD,O⟩:=ae O;cases O;try simp only[eF,seval,U,aA,aB,aC,aD]
    ·clear O;have O:=az;try simp only[eF,seval,U,X]
     apply sp al O<;>intro _ O
     ·obtain⟨aE,av,O⟩:=ae O;obtain⟨aF,aw,O⟩:=ae O;cases O;try simp only[eF,seval,U,X,av,aw]
      rw[an];refine⟨_,rfl,?_⟩;refine⟨ad,ag,ah,?_⟩;and_intros<;>first|rfl|(simp only[eF,seval,U,X,av,aw]<;>rfl)
     ·cases O;try simp only[eF,seval,U,X]
      rw[an];refine⟨_,rfl,?_⟩;refine⟨ad,ag,ah,?_⟩;and_intros<;>first|rfl|(simp only[eF,seval,U,X]<;>rfl)
 ·clear O;have O:=ay;try simp only[eF,seval,U]
  apply sp aR O<;>intro _ O
  ·cases O;try simp only[eF,seval,U]
   rw[an];refine⟨_,rfl,?_⟩;refine⟨0,0,0,?_⟩;and_intros<;>first|rfl|(simp only[eF,seval,U]<;>rfl)
  ·obtain⟨aG,ax,O⟩:=ae O;cases O;try simp only[eF,seval,U,ax]
   rw[an];refine⟨_,rfl,?_⟩;refine⟨0,0,0,?_⟩;and_intros<;>first|rfl|(simp only[eF,seval,U,ax]<;>rfl)
def oN (l:Option (D×Row)) (d:List D):=dW (iD (aI .i64) (dS (aI .i64))) (fun x:Int×Int=>xf x.1 x.2) (fun r:aw×Int =>.clean (.tup [.agg [.int .i64 r.1.cu.aj,.sl false false r.1.cu.aa.length (ab (eI .i64) r.1.cu.aa),.int .i64 r.1.ct.aj,.sl false false r.1.ct.aa.length (ab (eI .i64) r.1.ct.aa)],.int .i64 r.2])) l d
theorem Ws {β:Type} {F:Int×Int->Option β} {R:β->RK} (O:Int) (U:Int):dW (iD (aI .i64) (dS (aI .i64))) F R none [.int .i64 O,.int .i64 U]=(F (O,U)).map fun r=>(R r,none):=cU _ _ _ (O,U)
def DD:Env:=(Am.ext (Am.ext bm 59 false ma) 60 false oM)
theorem Vs:bH prog DD:=((bH.none.add EJ false).add Ir false)
theorem aal:type_of% (ai @w<|ai @yN<|ai @ma.eq_1<|ai @FE<|ai @oM.eq_1<|@DD.eq_1):=⟨@w,@yN,@ma.eq_1,@FE,@oM.eq_1,@DD.eq_1⟩
theorem Is:bW prog 30 oN:=bW.gN (mode := .clean) tok Vs mixed func30 (by kernel_rfl) (fun _ _=>rfl) (fun _=>by kernel_rfl) fun⟨Z,p1⟩ r O=>by
 replace O:xf Z p1=some r:=O;apply aH rfl ntmps30 results30;simp only[gR];unfold xf at O;obtain⟨r1,U,O⟩:=ae O;obtain⟨r2,X,O⟩:=ae O;obtain⟨r3,Y,O⟩:=ae O;cases O;try simp only[aal,seval,U,X,Y]
def rA (l:Option (D×Row)) (d:List D):=dW (as0) (fun x:Unit=>xX) (fun r:aw =>.clean (.agg [.int .i64 r.cu.aj,.sl false false r.cu.aa.length (ab (eI .i64) r.cu.aa),.int .i64 r.ct.aj,.sl false false r.ct.aa.length (ab (eI .i64) r.ct.aa)])) l d
theorem sh8 {β:Type} {F:Unit->Option β} {R:β->RK} : dW (as0) F R none []=(F (())).map fun r=>(R r,none):=cU _ _ _ (())
def wJ:Env:=(Am.ext bm 30 false oN)
theorem MR:bH prog wJ:=(bH.none.add Is false)
theorem Sa:type_of% (ai @w<|ai @Ws<|ai @oN.eq_1<|@wJ.eq_1):=⟨@w,@Ws,@oN.eq_1,@wJ.eq_1⟩
theorem OC:bW prog 32 rA:=bW.gN (mode := .clean) tok MR mixed func32 (by kernel_rfl) (fun _ _=>rfl) (fun _=>by kernel_rfl) fun _ r O=>by
 replace O:xX=some r:=O;apply aH rfl ntmps32 results32;simp only[gR];unfold xX at O;obtain⟨X,U,O⟩:=ae O;cases O;try simp only[Sa,seval,U]
def gi (l:Option (D×Row)) (d:List D):=dW (dS (aI .i64)) (fun x:Int=>lH x) (fun r:aw =>.clean (.agg [.int .i64 r.cu.aj,.sl false false r.cu.aa.length (ab (eI .i64) r.cu.aa),.int .i64 r.ct.aj,.sl false false r.ct.aa.length (ab (eI .i64) r.ct.aa)])) l d
def zm:Env:=(Am.ext bm 30 false oN)
theorem QU:bH prog zm:=(bH.none.add Is false)
theorem Wp:type_of% (ai @w<|ai @Ws<|ai @oN.eq_1<|@zm.eq_1):=⟨@w,@Ws,@oN.eq_1,@zm.eq_1⟩
theorem sk:bW prog 25 gi:=bW.gN (mode := .clean) tok QU mixed func25 (by kernel_rfl) (fun _ _=>rfl) (fun _=>by kernel_rfl) fun X r O=>by
 replace O:lH X=some r:=O;apply aH rfl ntmps25 results25;simp only[gR];unfold lH at O;obtain⟨Y,U,O⟩:=ae O;cases O;try simp only[Wp,seval,U]
def rE (l:Option (D×Row)) (d:List D):=dW (iD (bC dI) (dS (bC dI))) (fun x:aD×aD=>yr x.1 x.2) (fun r:Bool =>.clean (.bool r)) l d
theorem OG:bW prog 123 rE:=bW.gN (mode := .clean) tok bH.none mixed func123 (by kernel_rfl) (fun _ _=>rfl) (fun _=>by kernel_rfl) fun⟨p0,p1⟩ r O=>by
 replace O:yr p0 p1=some r:=O;apply aH rfl ntmps123 results123;simp only[gR];unfold yr at O;try simp only[w,seval]
 obtain⟨o1,aq,O⟩:=ae O;refine bA 0 (fun s t H e=>match s with|ad=>∃Y:Nat,∃Z:Nat,t 2=.ptr 2 Y 0∧t 3=.ptr 3 Z 0∧t 19=.bool ad∧H 2=some ⟨Y,40,[.int .i64 p0.aj,.sl false false p0.aa.length (ab (eI .i64) p0.aa)],false,false,false⟩∧H 3=some ⟨Z,40,[.int .i64 p1.aj,.sl false false p1.aa.length (ab (eI .i64) p1.aa)],false,false,false⟩) (fun s=>s=o1) ?_ ?_
 ·rintro ad t H e ⟨Y,Z,ag⟩ rfl;try dsimp only at O
  try simp only[w,seval,ag]
  apply sp al O<;>intro _ O
  ·cases O;try simp only[w,seval,ag]
  ·try simp only[w,seval,ag]
   obtain⟨o7,ar,O⟩:=ae O;refine aB (fun s t H e=>match s with|ak=>∃ah:Nat,∃ai:Nat,t 2=.ptr 2 ah 0∧t 3=.ptr 3 ai 0∧t 5=.int .i64 ak∧H 2=some ⟨ah,40,[.int .i64 p0.aj,.sl false false p0.aa.length (ab (eI .i64) p0.aa)],false,false,false⟩∧H 3=some ⟨ai,40,[.int .i64 p1.aj,.sl false false p1.aa.length (ab (eI .i64) p1.aa)],false,false,false⟩) (fun o x t H e=>match o with|(.inl _)=>x=.exit 0|(.inr r)=>x=.ret∧fF .clean tab none [.tmp 4] ⟨t,EH H,e⟩=some (.clean (.bool r),none)) ar ?_ ?_ ?_
   ·refine⟨Y,Z,?_⟩;and_intros<;>first|rfl|(simp only[w,seval,ag]<;>rfl)
   ·rintro ak t H e ⟨ah,ai,Zb⟩ c O;simp only[A2]at O;try simp only[w,seval,Zb]
    apply sp al O<;>intro _ O
    ·obtain⟨x9,au,O⟩:=ae O;have X:=bo (eI .i64) au;simp only[bZ]at X;obtain⟨av,ao,O⟩:=ae O;have U:=bo (eI .i64) ao;simp only[bZ]at U;try simp only[w,seval,Zb,X,U]
     refine bJ (by kernel_rfl) ?_;try simp only[w,seval,Zb,X,U]
     apply sp al O<;>intro _ O
     ·cases O;try simp only[w,seval,Zb,X,U]
      refine rq ⟨rfl,?_⟩;try simp only[w,seval,Zb,X,U]
     ·cases O;try simp only[w,seval,Zb,X,U]
      apply iu;refine⟨ah,ai,?_⟩;and_intros<;>first|rfl|(simp only[w,seval,Zb,X,U]<;>rfl)
    ·cases O;try simp only[w,seval,Zb]
     apply jv;exact rfl
   ·rintro x t H e hx;rcases o7 with _|rb
    ·dsimp only at hx O;subst hx;cases O;try simp only[w,seval]
    ·dsimp only at hx O;obtain⟨rfl,hE⟩:=hx;cases O;try simp only[bg,aY,bk,cK,cJ,ca,cc]
     exact hE
 ·clear O;have O:=aq;try simp only[w,seval]
  apply sp aR O<;>intro _ O
  ·cases O;try simp only[w,seval]
   rw[an];refine⟨_,rfl,?_⟩;refine⟨0,0,?_⟩;and_intros<;>first|rfl|(simp only[w,seval]<;>rfl)
  ·cases O;try simp only[w,seval]
   rw[an];refine⟨_,rfl,?_⟩;refine⟨0,0,?_⟩;and_intros<;>first|rfl|(simp only[w,seval]<;>rfl)
def mJ (l:Option (D×Row)) (d:List D):=dW (iD (bC dI) (dS (bC dI))) (fun x:aD×aD=>qh x.1 x.2) (fun r:Int =>.clean (.int .i64 r)) l d
def qE:Env:=(Am.ext (Am.ext (Am.ext bm 84 false bt) 123 false rE) 124 false gV)
theorem DL:bH prog qE:=(((bH.none.add fV false).add OG false).add ua false)
theorem bV:type_of% (ai @w<|ai @ru<|ai @bt.eq_1<|ai @yN<|ai @rE.eq_1<|ai @B4<|ai @gV.eq_1<|@qE.eq_1):=⟨@w,@ru,@bt.eq_1,@yN,@rE.eq_1,@B4,@gV.eq_1,@qE.eq_1⟩
theorem EF:bW prog 86 mJ:=bW.gN (mode := .clean) tok DL mixed func86 (by kernel_rfl) (fun _ _=>rfl) (fun _=>by kernel_rfl) fun⟨p0,p1⟩ r U=>by
 replace U:qh p0 p1=some r:=U;apply aH rfl ntmps86 results86;simp only[gR];unfold qh at U;obtain⟨r1,O,U⟩:=ae U;try simp only[bV,seval,O]
 obtain⟨o2,ak,U⟩:=ae U;refine bA 0 (fun s t H e=>match s with|Y=>∃Z:Nat,∃ad:Nat,t 2=.ptr 2 Z 0∧t 3=.ptr 3 ad 0∧t 17=.bool Y∧H 2=some ⟨Z,40,[.int .i64 p0.aj,.sl false false p0.aa.length (ab (eI .i64) p0.aa)],false,false,false⟩∧H 3=some ⟨ad,40,[.int .i64 p1.aj,.sl false false p1.aa.length (ab (eI .i64) p1.aa)],false,false,false⟩) (fun s=>s=o2) ?_ ?_
 ·rintro Y t H e ⟨Z,ad,X⟩ rfl;try dsimp only at U
  try simp only[bV,seval,O,X]
  apply sp al U<;>intro _ U
  ·cases U;try simp only[bV,seval,O,X]
  ·try simp only[bV,seval,O,X]
   apply sp al U<;>intro _ U
   ·try simp only[bV,seval,O,X]
    apply sp al U<;>intro _ U
    ·cases U;try simp only[bV,seval,O,X]
    ·cases U;try simp only[bV,seval,O,X]
   ·obtain⟨r6,ah,U⟩:=ae U;try simp only[bV,seval,O,X,ah]
    refine bJ (by kernel_rfl) ?_;try simp only[bV,seval,O,X,ah]
    apply sp al U<;>intro _ U
    ·cases U;try simp only[bV,seval,O,X,ah]
    ·cases U;try simp only[bV,seval,O,X,ah]
 ·clear U;have U:=ak;try simp only[bV,seval,O]
  apply sp aR U<;>intro _ U
  ·cases U;try simp only[bV,seval,O]
   rw[an];refine⟨_,rfl,?_⟩;refine⟨0,0,?_⟩;and_intros<;>first|rfl|(simp only[bV,seval,O]<;>rfl)
  ·obtain⟨r9,ag,U⟩:=ae U;try simp only[bV,seval,O,ag]
   apply sp aR U<;>intro _ U
   ·cases U;try simp only[bV,seval,O,ag]
    rw[an];refine⟨_,rfl,?_⟩;refine⟨0,0,?_⟩;and_intros<;>first|rfl|(simp only[bV,seval,O,ag]<;>rfl)
   ·obtain⟨ao,ai,U⟩:=ae U;cases U;try simp only[bV,seval,O,ag,ai]
    rw[an];refine⟨_,rfl,?_⟩;refine⟨0,0,?_⟩;and_intros<;>first|rfl|(simp only[bV,seval,O,ag,ai]<;>rfl)
def pS (l:Option (D×Row)) (d:List D):=dW (dS (bC aG)) (fun x:aw=>re x) (fun r:Bool =>.clean (.bool r)) l d
theorem B5 {β:Type} {F:aw->Option β} {R:β->RK} (X:Int) (O:(List Int)) (Y:Int) (U:(List Int)):dW (dS (bC aG)) F R none [.agg [.int .i64 X,.sl false false O.length (ab (eI .i64) O),.int .i64 Y,.sl false false U.length (ab (eI .i64) U)]]=(F ((aw.mk (aD.mk X O) (aD.mk Y U)))).map fun r=>(R r,none):=cU _ _ _ ((aw.mk (aD.mk X O) (aD.mk Y U)))
def tQ:Env:=(Am.ext (Am.ext (Am.ext (Am.ext bm 60 false oM) 84 false bt) 85 false l7) 86 false mJ)
theorem J6:bH prog tQ:=((((bH.none.add Ir false).add fV false).add EG false).add EF false)
theorem eG:type_of% (ai @w<|ai @FE<|ai @oM.eq_1<|ai @ru<|ai @bt.eq_1<|ai @yN<|ai @l7.eq_1<|ai @mJ.eq_1<|@tQ.eq_1):=⟨@w,@FE,@oM.eq_1,@ru,@bt.eq_1,@yN,@l7.eq_1,@mJ.eq_1,@tQ.eq_1⟩
theorem Kj:bW prog 52 pS:=bW.gN (mode := .clean) tok J6 mixed func52 (by kernel_rfl) (fun _ _=>rfl) (fun _=>by kernel_rfl) fun p0 r O=>by
 replace O:re p0=some r:=O;apply aH rfl ntmps52 results52;simp only[gR];unfold re at O;obtain⟨r1,U,O⟩:=ae O;try simp only[eG,seval,U]
 obtain⟨o2,ak,O⟩:=ae O;refine bA 0 (fun s t H e=>match s with|X=>∃Y:Nat,t 1=.ptr 1 Y 0∧t 20=.bool X∧H 1=some ⟨Y,42,[.int .i64 p0.cu.aj,.sl false false p0.cu.aa.length (ab (eI .i64) p0.cu.aa),.int .i64 p0.ct.aj,.sl false false p0.ct.aa.length (ab (eI .i64) p0.ct.aa)],false,false,false⟩) (fun s=>s=o2) ?_ ?_
 ·rintro X t H e ⟨Y,ad⟩ rfl;try dsimp only at O
  try simp only[eG,seval,U,ad]
  apply sp al O<;>intro _ O
  ·cases O;try simp only[eG,seval,U,ad]
  ·obtain⟨r4,ag,O⟩:=ae O;obtain⟨r5,ah,O⟩:=ae O;obtain⟨r6,ai,O⟩:=ae O;try simp only[eG,seval,U,ad,ag,ah,ai]
   refine bJ (by kernel_rfl) ?_;cases O;try simp only[eG,seval,U,ad,ag,ah,ai]
 ·clear O;have O:=ak;try simp only[eG,seval,U]
  apply sp aR O<;>intro _ O
  ·cases O;try simp only[eG,seval,U]
   rw[an];refine⟨_,rfl,?_⟩;refine⟨0,?_⟩;and_intros<;>first|rfl|(simp only[eG,seval,U]<;>rfl)
  ·obtain⟨r8,Z,O⟩:=ae O;try simp only[eG,seval,U,Z]
   apply sp aR O<;>intro _ O
   ·cases O;try simp only[eG,seval,U,Z]
    rw[an];refine⟨_,rfl,?_⟩;refine⟨0,?_⟩;and_intros<;>first|rfl|(simp only[eG,seval,U,Z]<;>rfl)
   ·cases O;try simp only[eG,seval,U,Z]
    rw[an];refine⟨_,rfl,?_⟩;refine⟨0,?_⟩;and_intros<;>first|rfl|(simp only[eG,seval,U,Z]<;>rfl)
def uI (l:Option (D×Row)) (d:List D):=dW (iD (bC dI) (dS (bC dI))) (fun x:aD×aD=>vd x.1 x.2) (fun r:aD×Int =>.clean (.tup [.agg [.int .i64 r.1.aj,.sl false false r.1.aa.length (ab (eI .i64) r.1.aa)],.int .i64 r.2])) l d
def zj:Env:=(Am.ext (Am.ext (Am.ext bm 84 false bt) 97 false cZ) 130 false kL)
theorem QR:bH prog zj:=(((bH.none.add fV false).add kW false).add yn false)
theorem jd:type_of% (ai @w<|ai @ru<|ai @bt.eq_1<|ai @B3<|ai @cZ.eq_1<|ai @B4<|ai @kL.eq_1<|@zj.eq_1):=⟨@w,@ru,@bt.eq_1,@B3,@cZ.eq_1,@B4,@kL.eq_1,@zj.eq_1⟩
theorem Rg:bW prog 98 uI:=bW.gN (mode := .clean) tok QR mixed func98 (by kernel_rfl) (fun _ _=>rfl) (fun _=>by kernel_rfl) fun⟨p0,p1⟩ r O=>by
 replace O:vd p0 p1=some r:=O;apply aH rfl ntmps98 results98;simp only[gR];unfold vd at O;obtain⟨r1,U,O⟩:=ae O;try simp only[jd,seval,U]
 obtain⟨o2,ao,O⟩:=ae O;refine bA 0 (fun s t H e=>match s with|X=>∃Y:Nat,∃Z:Nat,∃ad:Nat,t 2=.ptr 2 Y 0∧t 3=.ptr 3 Z 0∧t 4=.ptr 4 ad 0∧t 13=.bool X∧H 2=some ⟨Y,40,[.int .i64 p0.aj,.sl false false p0.aa.length (ab (eI .i64) p0.aa)],false,false,false⟩∧H 3=some ⟨Z,40,[.int .i64 p1.aj,.sl false false p1.aa.length (ab (eI .i64) p1.aa)],false,false,false⟩∧H 4=some ⟨ad,40,[.int .i64 0,.sl true true 0 []],false,false,false⟩) (fun s=>s=o2) ?_ ?_
 ·rintro X t H e ⟨Y,Z,ad,ag⟩ rfl;try dsimp only at O
  try simp only[jd,seval,U,ag]
  apply sp al O<;>intro _ O
  ·cases O;try simp only[jd,seval,U,ag]
  ·obtain⟨r4,ah,O⟩:=ae O;obtain⟨r5,ai,O⟩:=ae O;try simp only[jd,seval,U,ag,ah,ai]
   refine bJ (by kernel_rfl) ?_;cases O;try simp only[jd,seval,U,ag,ah,ai]
 ·clear O;have O:=ao;try simp only[jd,seval,U]
  apply sp aR O<;>intro _ O
  ·cases O;try simp only[jd,seval,U]
   rw[an];refine⟨_,rfl,?_⟩;refine⟨0,0,0,?_⟩;and_intros<;>first|rfl|(simp only[jd,seval,U]<;>rfl)
  ·obtain⟨r7,ak,O⟩:=ae O;cases O;try simp only[jd,seval,U,ak]
   rw[an];refine⟨_,rfl,?_⟩;refine⟨0,0,0,?_⟩;and_intros<;>first|rfl|(simp only[jd,seval,U,ak]<;>rfl)
def uG (l:Option (D×Row)) (d:List D):=dW (iD (bC dI) (dS (bC dI))) (fun x:aD×aD=>BZ x.1 x.2) (fun r:aD×Int =>.clean (.tup [.agg [.int .i64 r.1.aj,.sl false false r.1.aa.length (ab (eI .i64) r.1.aa)],.int .i64 r.2])) l d
def zg:Env:=(Am.ext (Am.ext (Am.ext (Am.ext (Am.ext bm 84 false bt) 97 false cZ) 124 false gV) 127 false l9) 128 false fZ)
theorem QO:bH prog zg:=(((((bH.none.add fV false).add kW false).add ua false).add AZ false).add sj false)
theorem cy:type_of% (ai @w<|ai @ru<|ai @bt.eq_1<|ai @B3<|ai @cZ.eq_1<|ai @B4<|ai @gV.eq_1<|ai @l9.eq_1<|ai @fZ.eq_1<|@zg.eq_1):=⟨@w,@ru,@bt.eq_1,@B3,@cZ.eq_1,@B4,@gV.eq_1,@l9.eq_1,@fZ.eq_1,@zg.eq_1⟩
theorem Re:bW prog 119 uG:=bW.gN (mode := .clean) tok QO mixed func119 (by kernel_rfl) (fun _ _=>rfl) (fun _=>by kernel_rfl) fun⟨p0,p1⟩ r O=>by
 replace O:BZ p0 p1=some r:=O;apply aH rfl ntmps119 results119;simp only[gR];unfold BZ at O;obtain⟨r1,U,O⟩:=ae O;try simp only[cy,seval,U]
 obtain⟨o2,aB,O⟩:=ae O;refine bA 0 (fun s t H e=>match s with|ah=>∃Y:Nat,∃Z:Nat,∃ad:Nat,t 2=.ptr 2 Y 0∧t 3=.ptr 3 Z 0∧t 4=.ptr 4 ad 0∧t 13=.bool ah∧H 2=some ⟨Y,40,[.int .i64 p0.aj,.sl false false p0.aa.length (ab (eI .i64) p0.aa)],false,false,false⟩∧H 3=some ⟨Z,40,[.int .i64 p1.aj,.sl false false p1.aa.length (ab (eI .i64) p1.aa)],false,false,false⟩∧H 4=some ⟨ad,40,[.int .i64 0,.sl true true 0 []],false,false,false⟩) (fun s=>s=o2) ?_ ?_
 ·rintro ah t H e ⟨Y,Z,ad,X⟩ rfl;try dsimp only at O
  try simp only[cy,seval,U,X]
  apply sp al O<;>intro _ O
  ·cases O;try simp only[cy,seval,U,X]
  ·try simp only[cy,seval,U,X]
   obtain⟨o4,aC,O⟩:=ae O;refine bA 0 (fun s t H e=>match s with|ai=>∃ak:Nat,∃ao:Nat,∃aq:Nat,t 2=.ptr 2 ak 0∧t 3=.ptr 3 ao 0∧t 4=.ptr 4 aq 0∧t 29=.bool ai∧H 2=some ⟨ak,40,[.int .i64 p0.aj,.sl false false p0.aa.length (ab (eI .i64) p0.aa)],false,false,false⟩∧H 3=some ⟨ao,40,[.int .i64 p1.aj,.sl false false p1.aa.length (ab (eI .i64) p1.aa)],false,false,false⟩∧H 4=some ⟨aq,40,[.int .i64 0,.sl true true 0 []],false,false,false⟩) (fun s=>s=o4) ?_ ?_
   ·rintro ai t H e ⟨ak,ao,aq,ag⟩ rfl;try dsimp only at O
    try simp only[cy,seval,U,ag]
    apply sp al O<;>intro _ O
    ·obtain⟨r6,az,O⟩:=ae O;obtain⟨r7,aA,O⟩:=ae O;try simp only[cy,seval,U,ag,az,aA]
     refine bJ (by kernel_rfl) ?_;cases O;try simp only[cy,seval,U,ag,az,aA]
    ·obtain⟨r8,ar,O⟩:=ae O;try simp only[cy,seval,U,ag,ar]
     apply sp al O<;>intro _ O
     ·obtain⟨aD,au,O⟩:=ae O;obtain⟨aE,av,O⟩:=ae O;try simp only[cy,seval,U,ag,ar,au,av]
      refine bJ (by kernel_rfl) ?_;cases O;try simp only[cy,seval,U,ag,ar,au,av]
     ·obtain⟨aF,aw,O⟩:=ae O;obtain⟨aG,ax,O⟩:=ae O;try simp only[cy,seval,U,ag,ar,aw,ax]
      refine bJ (by kernel_rfl) ?_;cases O;try simp only[cy,seval,U,ag,ar,aw,ax]
   ·clear O;have O:=aC;try simp only[cy,seval,U,X]
    apply sp aR O<;>intro _ O
    ·cases O;try simp only[cy,seval,U,X]
     rw[an];refine⟨_,rfl,?_⟩;refine⟨Y,Z,ad,?_⟩;and_intros<;>first|rfl|(simp only[cy,seval,U,X]<;>rfl)
    ·try simp only[cy,seval,U,X]
     apply sp aR O<;>intro _ O
     ·cases O;try simp only[cy,seval,U,X]
      rw[an];refine⟨_,rfl,?_⟩;refine⟨Y,Z,ad,?_⟩;and_intros<;>first|rfl|(simp only[cy,seval,U,X]<;>rfl)
     ·cases O;try simp only[cy,seval,U,X]
      rw[an];refine⟨_,rfl,?_⟩;refine⟨Y,Z,ad,?_⟩;and_intros<;>first|rfl|(simp only[cy,seval,U,X]<;>rfl)
 ·clear O;have O:=aB;try simp only[cy,seval,U]
  apply sp aR O<;>intro _ O
  ·cases O;try simp only[cy,seval,U]
   rw[an];refine⟨_,rfl,?_⟩;refine⟨0,0,0,?_⟩;and_intros<;>first|rfl|(simp only[cy,seval,U]<;>rfl)
  ·obtain⟨aI,ay,O⟩:=ae O;cases O;try simp only[cy,seval,U,ay]
   rw[an];refine⟨_,rfl,?_⟩;refine⟨0,0,0,?_⟩;and_intros<;>first|rfl|(simp only[cy,seval,U,ay]<;>rfl)
def uJ (l:Option (D×Row)) (d:List D):=dW (iD (bC dI) (dS (bC dI))) (fun x:aD×aD=>B0 x.1 x.2) (fun r:aD×Int =>.clean (.tup [.agg [.int .i64 r.1.aj,.sl false false r.1.aa.length (ab (eI .i64) r.1.aa)],.int .i64 r.2])) l d
def zl:Env:=(Am.ext (Am.ext (Am.ext bm 84 false bt) 95 false l8) 119 false uG)
theorem QT:bH prog zl:=(((bH.none.add fV false).add EI false).add Re false)
theorem vB:type_of% (ai @w<|ai @ru<|ai @bt.eq_1<|ai @l8.eq_1<|ai @yN<|ai @uG.eq_1<|@zl.eq_1):=⟨@w,@ru,@bt.eq_1,@l8.eq_1,@yN,@uG.eq_1,@zl.eq_1⟩
theorem Rh:bW prog 99 uJ:=bW.gN (mode := .clean) tok QT mixed func99 (by kernel_rfl) (fun _ _=>rfl) (fun _=>by kernel_rfl) fun⟨Z,p1⟩ r O=>by
 replace O:B0 Z p1=some r:=O;apply aH rfl ntmps99 results99;simp only[gR];unfold B0 at O;obtain⟨r1,U,O⟩:=ae O;try simp only[vB,seval,U]
 apply sp al O<;>intro _ O
 ·cases O;try simp only[vB,seval,U]
 ·obtain⟨r3,X,O⟩:=ae O;obtain⟨r4,Y,O⟩:=ae O;try simp only[vB,seval,U,X,Y]
  refine bJ (by kernel_rfl) ?_;cases O;try simp only[vB,seval,U,X,Y]
def uL (l:Option (D×Row)) (d:List D):=dW (iD (bC aG) (dS (bC aG))) (fun x:aw×aw=>B1 x.1 x.2) (fun r:aw×Int =>.clean (.tup [.agg [.int .i64 r.1.cu.aj,.sl false false r.1.cu.aa.length (ab (eI .i64) r.1.cu.aa),.int .i64 r.1.ct.aj,.sl false false r.1.ct.aa.length (ab (eI .i64) r.1.ct.aa)],.int .i64 r.2])) l d
theorem rf {β:Type} {F:aw×aw->Option β} {R:β->RK} (Z:Int) (O:(List Int)) (aa:Int) (U:(List Int)) (ad:Int) (X:(List Int)) (ae:Int) (Y:(List Int)):dW (iD (bC aG) (dS (bC aG))) F R none [.agg [.int .i64 Z,.sl false false O.length (ab (eI .i64) O),.int .i64 aa,.sl false false U.length (ab (eI .i64) U)],.agg [.int .i64 ad,.sl false false X.length (ab (eI .i64) X),.int .i64 ae,.sl false false Y.length (ab (eI .i64) Y)]]=(F ((aw.mk (aD.mk Z O) (aD.mk aa U)),(aw.mk (aD.mk ad X) (aD.mk ae Y)))).map fun r=>(R r,none):=cU _ _ _ ((aw.mk (aD.mk Z O) (aD.mk aa U)),(aw.mk (aD.mk ad X) (aD.mk ae Y)))
def zo:Env:=(Am.ext (Am.ext (Am.ext (Am.ext bm 52 false pS) 59 false ma) 98 false uI) 99 false uJ)
theorem QW:bH prog zo:=((((bH.none.add Kj false).add EJ false).add Rg false).add Rh false)
theorem jV:type_of% (ai @w<|ai @B5<|ai @pS.eq_1<|ai @yN<|ai @ma.eq_1<|ai @uI.eq_1<|ai @uJ.eq_1<|@zo.eq_1):=⟨@w,@B5,@pS.eq_1,@yN,@ma.eq_1,@uI.eq_1,@uJ.eq_1,@zo.eq_1⟩
theorem Rj:bW prog 61 uL:=bW.gN (mode := .clean) tok QW mixed func61 (by kernel_rfl) (fun _ _=>rfl) (fun _=>by kernel_rfl) fun⟨p0,p1⟩ r O=>by
 replace O:B1 p0 p1=some r:=O;apply aH rfl ntmps61 results61;simp only[gR];unfold B1 at O;obtain⟨r1,U,O⟩:=ae O;try simp only[jV,seval,U]
 obtain⟨o2,ai,O⟩:=ae O;refine bA 0 (fun s t H e=>match s with|X=>∃Y:Nat,∃Z:Nat,∃ad:Nat,t 2=.ptr 2 Y 0∧t 3=.ptr 3 Z 0∧t 4=.ptr 4 ad 0∧t 21=.bool X∧H 2=some ⟨Y,42,[.int .i64 p0.cu.aj,.sl false false p0.cu.aa.length (ab (eI .i64) p0.cu.aa),.int .i64 p0.ct.aj,.sl false false p0.ct.aa.length (ab (eI .i64) p0.ct.aa)],false,false,false⟩∧H 3=some ⟨Z,42,[.int .i64 p1.cu.aj,.sl false false p1.cu.aa.length (ab (eI .i64) p1.cu.aa),.int .i64 p1.ct.aj,.sl false false p1.ct.aa.length (ab (eI .i64) p1.ct.aa)],false,false,false⟩∧H 4=some ⟨ad,42,[.int .i64 0,.sl true true 0 [],.int .i64 0,.sl true true 0 []],false,false,false⟩) (fun s=>s=o2) ?_ ?_
 ·rintro X t H e ⟨Y,Z,ad,ah⟩ rfl;try dsimp only at O
  try simp only[jV,seval,U,ah]
  apply sp al O<;>intro _ O
  ·cases O;try simp only[jV,seval,U,ah]
  ·obtain⟨r4,ak,O⟩:=ae O;obtain⟨r5,ao,O⟩:=ae O;obtain⟨r6,aq,O⟩:=ae O;obtain⟨r7,ar,O⟩:=ae O;obtain⟨r8,au,O⟩:=ae O;cases O;try simp only[jV,seval,U,ah,ak,ao,aq,ar,au]
 ·clear O;have O:=ai;try simp only[jV,seval,U]
  apply sp aR O<;>intro _ O
  ·cases O;try simp only[jV,seval,U]
   rw[an];refine⟨_,rfl,?_⟩;refine⟨0,0,0,?_⟩;and_intros<;>first|rfl|(simp only[jV,seval,U]<;>rfl)
  ·obtain⟨av,ag,O⟩:=ae O;cases O;try simp only[jV,seval,U,ag]
   rw[an];refine⟨_,rfl,?_⟩;refine⟨0,0,0,?_⟩;and_intros<;>first|rfl|(simp only[jV,seval,U,ag]<;>rfl)
def mF (l:Option (D×Row)) (d:List D):=dW (iD (aI .i64) (dS (bC aG))) (fun x:Int×aw=>kP x.1 x.2) (fun r:bP =>.clean (.agg [.sl false false r.au.length (ab (eI .i64) r.au),.sl false false r.ao.length (ab b6 r.ao)])) l d
theorem aev {β:Type} {F:Int×aw->Option β} {R:β->RK} (Z:Int) (X:Int) (O:(List Int)) (Y:Int) (U:(List Int)):dW (iD (aI .i64) (dS (bC aG))) F R none [.int .i64 Z,.agg [.int .i64 X,.sl false false O.length (ab (eI .i64) O),.int .i64 Y,.sl false false U.length (ab (eI .i64) U)]]=(F (Z,(aw.mk (aD.mk X O) (aD.mk Y U)))).map fun r=>(R r,none):=cU _ _ _ (Z,(aw.mk (aD.mk X O) (aD.mk Y U)))
def qA:Env:=(Am.ext (Am.ext bm 25 false gi) 61 false uL)
theorem DH:bH prog qA:=((bH.none.add sk false).add Rj false)
theorem Ge:type_of% (ai @w<|ai @FE<|ai @gi.eq_1<|ai @rf<|ai @uL.eq_1<|@qA.eq_1):=⟨@w,@FE,@gi.eq_1,@rf,@uL.eq_1,@qA.eq_1⟩
theorem EA:bW prog 31 mF:=bW.gN (mode := .clean) tok DH mixed func31 (by kernel_rfl) (fun _ _=>rfl) (fun _=>by kernel_rfl) fun⟨Y,Z⟩ r O=>by
 replace O:kP Y Z=some r:=O;apply aH rfl ntmps31 results31;simp only[gR];unfold kP at O;obtain⟨r1,U,O⟩:=ae O;obtain⟨r2,X,O⟩:=ae O;cases O;try simp only[Ge,seval,U,X]
def ch (l:Option (D×Row)) (d:List D):=dW (iD (aI .i64) (iD (aI .i64) (dS (aI .i64)))) (fun x:Int×Int×Int=>dT x.1 x.2.1 x.2.2) (fun r:Bool =>.clean (.bool r)) l d
theorem BJ {β:Type} {F:Int×Int×Int->Option β} {R:β->RK} (O:Int) (U:Int) (X:Int):dW (iD (aI .i64) (iD (aI .i64) (dS (aI .i64)))) F R none [.int .i64 O,.int .i64 U,.int .i64 X]=(F (O,U,X)).map fun r=>(R r,none):=cU _ _ _ (O,U,X)
theorem iZ:bW prog 35 ch:=bW.gN (mode := .clean) tok bH.none mixed func35 (by kernel_rfl) (fun _ _=>rfl) (fun _=>by kernel_rfl) fun⟨U,X,Y⟩ r O=>by
 replace O:dT U X Y=some r:=O;apply aH rfl ntmps35 results35;simp only[gR];unfold dT at O;try simp only[w,seval]
 apply sp eJ O<;>intro _ O
 ·cases O;try simp only[w,seval]
 ·cases O;try simp only[w,seval]
def ff (l:Option (D×Row)) (d:List D):=dW (dS (mP (eI .i64))) (fun x:(List Int)=>ec x) (fun r:(List Int) =>.clean (.sl false false r.length (ab (eI .i64) r))) l d
theorem nh:bW prog 125 ff:=bW.gN (mode := .clean) tok bH.none mixed func125 (by kernel_rfl) (fun _ _=>rfl) (fun _=>by kernel_rfl) fun Z r O=>by
 replace O:ec Z=some r:=O;apply aH rfl ntmps125 results125;simp only[gR];unfold ec at O;try simp only[w,seval]
 obtain⟨o4,ag,O⟩:=ae O;refine aB (fun s t H e=>match s with|aa=>t 0=.sl false false Z.length (ab (eI .i64) Z)∧t 3=.int .i64 aa) (fun o x t H e=>match o with|X=>x=.exit 0∧t 0=.sl false false Z.length (ab (eI .i64) Z)∧t 3=.int .i64 X) ag ?_ ?_ ?_
 ·and_intros<;>first|rfl|(simp only[w,seval]<;>rfl)
 ·rintro aa t H e Y c O;simp only[kO]at O;try simp only[w,seval,Y]
  apply sp eJ O<;>intro _ O
  ·obtain⟨x6,ah,O⟩:=ae O;have U:=bo (eI .i64) ah;simp only[bZ]at U;try simp only[w,seval,Y,U]
   apply sp al O<;>intro _ O
   ·cases O;try simp only[w,seval,Y,U]
    apply iu;and_intros<;>first|rfl|(simp only[w,seval,Y,U]<;>rfl)
   ·cases O;try simp only[w,seval,Y,U]
    apply jv;refine⟨rfl,?_⟩;and_intros<;>first|rfl|(simp only[w,seval,Y,U]<;>rfl)
  ·cases O;try simp only[w,seval,Y]
   apply jv;refine⟨rfl,?_⟩;and_intros<;>first|rfl|(simp only[w,seval,Y]<;>rfl)
 ·rintro x t H e hx;obtain⟨X,rfl⟩:∃z,z=o4:=⟨_,rfl⟩;dsimp only at hx O;obtain⟨rfl,ai⟩:=hx;obtain⟨x8,aj,O⟩:=ae O;obtain⟨ak,an,ao,aq,ad⟩:=KA (eI .i64) aj;simp only[bZ]at ad;cases O;try simp only[w,seval,ai,ak,an,ao,aq,ad]
def rv:=mkE 3 (eI .i64) (as0) (fun (l:(List Int)) (x:Unit)=>ec l)
theorem Kr (pre post:List D) (O:(List Int)):rv (some (.buf 0 0 1 pre.length O.length,⟨0,3,pre++(ab (eI .i64) O++post),false,true,false⟩)) []=(ec O).map fun r=>(.fresh 3 1 r.length (ab (eI .i64) r),none):=ac8 _ _ _ _ pre post O ()
theorem J9 (pre post:List D) (p0:(List Int)) (r:(List Int)) (O:ec p0=some r):jY (.fresh 3 1) tab bm FU Tryz.f125 (some (.buf 0 0 1 pre.length p0.length,⟨0,3,pre++(ab (eI .i64) p0++post),false,true,false⟩)) []=some (.fresh 3 1 r.length (ab (eI .i64) r),none):=by
 apply Fz rfl ntmps125 results125;unfold ec at O;try simp only[w,seval]
 obtain⟨o4,ai,O⟩:=ae O;refine aB (fun s t H e=>match s with|aa=>∃U:Nat,t 0=.buf 0 U 1 pre.length (p0).length∧t 3=.int .i64 aa∧H 0=some ⟨U,3,pre++(ab (eI .i64) p0++post),false,true,false⟩) (fun o x t H e=>match o with|Z=>x=.exit 0∧∃Y:Nat,t 0=.buf 0 Y 1 pre.length (p0).length∧t 3=.int .i64 Z∧H 0=some ⟨Y,3,pre++(ab (eI .i64) p0++post),false,true,false⟩) ai ?_ ?_ ?_
 ·refine⟨0,?_⟩;and_intros<;>first|rfl|(simp only[w,seval]<;>rfl)
 ·rintro aa t H e ⟨U,Za⟩ c O;simp only[kO]at O;try simp only[w,seval,Za]
  apply sp eJ O<;>intro _ O
  ·obtain⟨x6,aj,O⟩:=ae O;have X:=Nj (pre:=pre) (post:=post) (eI .i64) aj;simp only[bZ]at X;try simp only[w,seval,Za,X]
   apply sp al O<;>intro _ O
   ·cases O;try simp only[w,seval,Za,X]
    apply iu;refine⟨U,?_⟩;and_intros<;>first|rfl|(simp only[w,seval,Za,X]<;>rfl)
   ·cases O;try simp only[w,seval,Za,X]
    apply jv;refine⟨rfl,⟨U,?_⟩⟩;and_intros<;>first|rfl|(simp only[w,seval,Za,X]<;>rfl)
  ·cases O;try simp only[w,seval,Za]
   apply jv;refine⟨rfl,⟨U,?_⟩⟩;and_intros<;>first|rfl|(simp only[w,seval,Za]<;>rfl)
 ·rintro x t H e hx;obtain⟨Z,rfl⟩:∃z,z=o4:=⟨_,rfl⟩;dsimp only at hx O;obtain⟨rfl,⟨Y,ak⟩⟩:=hx;obtain⟨x8,ad,O⟩:=ae O;obtain⟨an,ao,aq,ar,au⟩:=KA (eI .i64) ad;simp only[bZ]at au;obtain⟨ag,ah⟩:=abk (pre:=pre) (post:=post) (eI .i64) ad;simp only[bZ]at ag ah;cases O;try simp only[w,seval,ak,an,ao,aq,ag,ah,ar]
theorem FY:bW prog 125 rv:=bW.ad6 tok bH.none mixed func125 (by kernel_rfl) ⟨by kernel_rfl,by kernel_rfl⟩ (fun _=>ais (by kernel_rfl)) (fun pre post l x r h=>J9 pre post l r h)
def cg (l:Option (D×Row)) (d:List D):=dW (iD (aI .i64) (dS (mP (eI .i64)))) (fun x:Int×(List Int)=>da x.1 x.2) (fun r:aD =>.clean (.agg [.int .i64 r.aj,.sl false false r.aa.length (ab (eI .i64) r.aa)])) l d
def rX:Env:=(Am.ext bm 125 false ff)
theorem FQ:bH prog rX:=(bH.none.add nh false)
theorem sD:type_of% (ai @w<|ai @Ud<|ai @ff.eq_1<|@rX.eq_1):=⟨@w,@Ud,@ff.eq_1,@rX.eq_1⟩
theorem iY:bW prog 87 cg:=bW.gN (mode := .clean) tok FQ mixed func87 (by kernel_rfl) (fun _ _=>rfl) (fun _=>by kernel_rfl) fun⟨X,Y⟩ r O=>by
 replace O:da X Y=some r:=O;apply aH rfl ntmps87 results87;simp only[gR];unfold da at O;obtain⟨Z,U,O⟩:=ae O;try simp only[sD,seval,U]
 apply sp al O<;>intro _ O
 ·cases O;try simp only[sD,seval,U]
 ·cases O;try simp only[sD,seval,U]
def oJ (l:Option (D×Row)) (d:List D):=dW (dS (aI .i64)) (fun x:Int=>rK x) (fun r:aD =>.clean (.agg [.int .i64 r.aj,.sl false false r.aa.length (ab (eI .i64) r.aa)])) l d
def DB:Env:=(Am.ext bm 87 false cg)
theorem Vp:bH prog DB:=(bH.none.add iY false)
theorem gS:type_of% (ai @w<|ai @B3<|ai @cg.eq_1<|@DB.eq_1):=⟨@w,@B3,@cg.eq_1,@DB.eq_1⟩
theorem Io:bW prog 107 oJ:=bW.gN (mode := .clean) tok Vp mixed func107 (by kernel_rfl) (fun _ _=>rfl) (fun _=>by kernel_rfl) fun p0 r O=>by
 replace O:rK p0=some r:=O;apply aH rfl ntmps107 results107;simp only[gR];unfold rK at O;try simp only[gS,seval,-Int.reduceToNat]
 obtain⟨o1,ay,O⟩:=ae O;refine ki 0 (fun s t H e=>match s with|(U,ai)=>∃X:Nat,t 2=.ptr 2 X 0∧t 3=.int .i64 U∧t 4=.int .u64 ai∧H 2=some ⟨X,40,[.int .i64 0,.sl true true 0 []],false,false,false⟩) (fun s=>s=o1) ?_ ?_
 ·rintro⟨U,ai⟩ t H e ⟨X,ar⟩ rfl;try dsimp only at O
  try simp only[gS,seval,-Int.reduceToNat,ar]
  obtain⟨o7,az,O⟩:=ae O;refine aB (fun s t H e=>match s with|(au,aq)=>∃Y:Nat,∃ah:Nat,t 2=.ptr 2 Y 0∧t 3=.int .i64 U∧t 4=.int .u64 au∧t 5=.buf 5 ah 1 0 (aq).length∧H 2=some ⟨Y,40,[.int .i64 0,.sl true true 0 []],false,false,false⟩∧H 5=some ⟨ah,3,ab (eI .i64) aq,false,true,false⟩) (fun o x t H e=>match o with|Z=>x=.exit 0∧∃aa:Nat,∃ad:Nat,t 2=.ptr 2 aa 0∧t 3=.int .i64 U∧t 5=.buf 5 ad 1 0 (Z).length∧H 2=some ⟨aa,40,[.int .i64 0,.sl true true 0 []],false,false,false⟩∧H 5=some ⟨ad,3,ab (eI .i64) Z,false,true,false⟩) az ?_ ?_ ?_
  ·refine⟨X,e,?_⟩;and_intros<;>first|rfl|(simp only[gS,seval,-Int.reduceToNat,ar]<;>rfl)
  ·rintro⟨au,aq⟩ t H e ⟨Y,ah,Zb⟩ c O;simp only[uU]at O;try simp only[gS,seval,-Int.reduceToNat,Zb]
   apply sp al O<;>intro _ O
   ·obtain⟨x9,aA,O⟩:=ae O;obtain⟨aj,ag,ak,ao⟩:=iJ (eI .i64) aA;simp only[bZ]at ag;obtain⟨aD,av,O⟩:=ae O;have aw:=vt av;cases O;try simp only[gS,seval,-Int.reduceToNat,Zb,aj,ag,ak,ao,aw]
    apply iu;refine⟨Y,e+1,?_⟩;and_intros<;>first|rfl|(simp only[gS,seval,-Int.reduceToNat,Zb,aj,ag,ak,ao,aw]<;>rfl)
   ·cases O;try simp only[gS,seval,-Int.reduceToNat,Zb]
    apply jv;refine⟨rfl,⟨Y,ah,?_⟩⟩;and_intros<;>first|rfl|(simp only[gS,seval,-Int.reduceToNat,Zb]<;>rfl)
  ·rintro x t H e hx;obtain⟨Z,rfl⟩:∃z,z=o7:=⟨_,rfl⟩;dsimp only at hx O;obtain⟨rfl,⟨aa,ad,aC⟩⟩:=hx;obtain⟨aE,ax,O⟩:=ae O;cases O;try simp only[gS,seval,-Int.reduceToNat,aC,ax]
 ·clear O;have O:=ay;try simp only[gS,seval,-Int.reduceToNat]
  apply sp al O<;>intro _ O
  ·cases O;try simp only[gS,seval,-Int.reduceToNat]
   rw[an];refine⟨_,rfl,?_⟩;refine⟨0,?_⟩;and_intros<;>first|rfl|(simp only[gS,seval,-Int.reduceToNat]<;>rfl)
  ·cases O;try simp only[gS,seval,-Int.reduceToNat]
   rw[an];refine⟨_,rfl,?_⟩;refine⟨0,?_⟩;and_intros<;>first|rfl|(simp only[gS,seval,-Int.reduceToNat]<;>rfl)
def kz (l:Option (D×Row)) (d:List D):=dW (dS (aI .i64)) (fun x:Int=>jt x) (fun r:aw =>.clean (.agg [.int .i64 r.cu.aj,.sl false false r.cu.aa.length (ab (eI .i64) r.cu.aa),.int .i64 r.ct.aj,.sl false false r.ct.aa.length (ab (eI .i64) r.ct.aa)])) l d
def wE:Env:=(Am.ext bm 107 false oJ)
theorem ML:bH prog wE:=(bH.none.add Io false)
theorem R9:type_of% (ai @w<|ai @FE<|ai @oJ.eq_1<|@wE.eq_1):=⟨@w,@FE,@oJ.eq_1,@wE.eq_1⟩
theorem AV:bW prog 83 kz:=bW.gN (mode := .clean) tok ML mixed func83 (by kernel_rfl) (fun _ _=>rfl) (fun _=>by kernel_rfl) fun Y r O=>by
 replace O:jt Y=some r:=O;apply aH rfl ntmps83 results83;simp only[gR];unfold jt at O;obtain⟨Z,U,O⟩:=ae O;obtain⟨r2,X,O⟩:=ae O;cases O;try simp only[R9,seval,U,X]
def bs (l:Option (D×Row)) (d:List D):=dW (dS (bC dI)) (fun x:aD=>cX x) (fun r:Bool =>.clean (.bool r)) l d
theorem fU:bW prog 79 bs:=bW.gN (mode := .clean) tok bH.none mixed func79 (by kernel_rfl) (fun _ _=>rfl) (fun _=>by kernel_rfl) fun Y r O=>by
 replace O:cX Y=some r:=O;apply aH rfl ntmps79 results79;simp only[gR];unfold cX at O;try simp only[w,seval]
 obtain⟨o5,ao,O⟩:=ae O;refine aB (fun s t H e=>match s with|ag=>∃Z:Nat,t 1=.ptr 1 Z 0∧t 3=.int .i64 (Y.aa.length:Int)∧t 10=.sl false false Y.aa.length (ab (eI .i64) Y.aa)∧t 11=.int .i64 (Y.aa.length:Int)∧t 12=.int .i64 ag∧H 1=some ⟨Z,40,[.int .i64 Y.aj,.sl false false Y.aa.length (ab (eI .i64) Y.aa)],false,false,false⟩) (fun o x t H e=>match o with|(.inl _)=>x=.exit 0∧∃ad:Nat,t 1=.ptr 1 ad 0∧t 3=.int .i64 (Y.aa.length:Int)∧H 1=some ⟨ad,40,[.int .i64 Y.aj,.sl false false Y.aa.length (ab (eI .i64) Y.aa)],false,false,false⟩|(.inr r)=>x=.ret∧fF .clean tab none [.tmp 2] ⟨t,EH H,e⟩=some (.clean (.bool r),none)) ao ?_ ?_ ?_
 ·refine⟨0,?_⟩;and_intros<;>first|rfl|(simp only[w,seval]<;>rfl)
 ·rintro ag t H e ⟨Z,Za⟩ c O;simp only[nS]at O;try simp only[w,seval,Za]
  apply sp al O<;>intro _ O
  ·obtain⟨x7,aq,O⟩:=ae O;have U:=bo (eI .i64) aq;simp only[bZ]at U;try simp only[w,seval,Za,U]
   apply sp aR O<;>intro _ O
   ·cases O;try simp only[w,seval,Za,U]
    refine rq ⟨rfl,?_⟩;try simp only[w,seval,Za,U]
   ·try simp only[w,seval,Za,U]
    apply sp al O<;>intro _ O
    ·cases O;try simp only[w,seval,Za,U]
     refine rq ⟨rfl,?_⟩;try simp only[w,seval,Za,U]
    ·cases O;try simp only[w,seval,Za,U]
     apply iu;refine⟨Z,?_⟩;and_intros<;>first|rfl|(simp only[w,seval,Za,U]<;>rfl)
  ·cases O;try simp only[w,seval,Za]
   apply jv;refine⟨rfl,⟨Z,?_⟩⟩;and_intros<;>first|rfl|(simp only[w,seval,Za]<;>rfl)
 ·rintro x t H e hx;rcases o5 with _|ra
  ·dsimp only at hx O;obtain⟨rfl,⟨ad,X⟩⟩:=hx;try simp only[w,seval,X]
   apply sp al O<;>intro _ O
   ·cases O;try simp only[w,seval,X]
   ·try simp only[w,seval,X]
    apply sp aR O<;>intro _ O
    ·obtain⟨ar,ak,O⟩:=ae O;have ah:=bo (eI .i64) ak;simp only[bZ]at ah;cases O;try simp only[w,seval,X,ah]
    ·try simp only[w,seval,X]
     apply sp eJ O<;>intro _ O
     ·obtain⟨au,an,O⟩:=ae O;have ai:=bo (eI .i64) an;simp only[bZ]at ai;cases O;try simp only[w,seval,X,ai]
     ·cases O;try simp only[w,seval,X]
  ·dsimp only at hx O;obtain⟨rfl,hE⟩:=hx;cases O;try simp only[bg,aY,bk,cK,cJ,ca,cc]
   exact hE
def ke (l:Option (D×Row)) (d:List D):=dW (iD abI (dS (bC dI))) (fun x:Bool×aD=>eD x.1 x.2) (fun r:aD×Int =>.clean (.tup [.agg [.int .i64 r.1.aj,.sl false false r.1.aa.length (ab (eI .i64) r.1.aa)],.int .i64 r.2])) l d
theorem py:bW prog 89 ke:=bW.gN (mode := .clean) tok bH.none mixed func89 (by kernel_rfl) (fun _ _=>rfl) (fun _=>by kernel_rfl) fun⟨U,X⟩ r O=>by
 replace O:eD U X=some r:=O;apply aH rfl ntmps89 results89;simp only[gR];unfold eD at O;try simp only[w,seval]
 apply sp al O<;>intro _ O
 ·cases O;try simp only[w,seval]
 ·cases O;try simp only[w,seval]
theorem zw (r:(List Int)) (O:dc []=some r):jY (.fresh 3 1) tab bm FU Tryz.f88 none [.sl true true 0 []]=some (.fresh 3 1 r.length (ab (eI .i64) r),none):=by
 unfold dc at O;obtain⟨U,X,Y⟩:=BP O;subst U;apply aH rfl ntmps88 results88;simp only[w,seval,Nat.lt_irrefl]
theorem zx (r:(List Int)) (O:dc []=some r):jY (.fresh 3 1) tab bm FU Tryz.f88 none [.sl true false 0 []]=some (.fresh 3 1 r.length (ab (eI .i64) r),none):=by
 unfold dc at O;obtain⟨U,X,Y⟩:=BP O;subst U;apply aH rfl ntmps88 results88;simp only[w,seval,Nat.lt_irrefl]
theorem zy (O r:(List Int)) (X:0<O.length) (U:dc O=some r):jY (.fresh 3 1) tab bm FU Tryz.f88 none [.sl false false O.length (ab (eI .i64) O)]=some (.fresh 3 1 r.length (ab (eI .i64) r),none):=by
 unfold dc at U;have Y:¬O.length=0:=by omega
 obtain⟨Z,qb,qc⟩:=BP U;subst Z;apply aH rfl ntmps88 results88;simp only[w,seval,X,Y,qb,qc]
def il:=dW (dS (mP (eI .i64))) (fun x:(List Int)=>dc x) (fun r:(List Int) =>.fresh 3 1 r.length (ab (eI .i64) r))
theorem fE (O:(List Int)):il none [.sl false false O.length (ab (eI .i64) O)]=(dc O).map fun r:(List Int)=>(.fresh 3 1 r.length (ab (eI .i64) r),none):=cU _ _ _ O
theorem kx:bW prog 88 il:=bW.ad9 (mode:=(.fresh 3 1)) tok bH.none mixed func88 (by kernel_rfl) ⟨by kernel_rfl,by kernel_rfl⟩ (ais (by kernel_rfl)) zw zx zy
def pQ (l:Option (D×Row)) (d:List D):=dW (dS (aI .i64)) (fun x:Int=>ox x) (fun r:Bool =>.clean (.bool r)) l d
theorem Kh:bW prog 118 pQ:=bW.gN (mode := .clean) tok bH.none mixed func118 (by kernel_rfl) (fun _ _=>rfl) (fun _=>by kernel_rfl) fun U r O=>by
 replace O:ox U=some r:=O;apply aH rfl ntmps118 results118;simp only[gR];unfold ox at O;cases O;try simp only[w,seval]
def eR (l:Option (D×Row)) (d:List D):=dW (iD (aI .i64) (dS (aI .i64))) (fun x:Int×Int=>gh x.1 x.2) (fun r:Int =>.clean (.int .i64 r)) l d
def qz:Env:=(Am.ext bm 118 false pQ)
theorem DG:bH prog qz:=(bH.none.add Kh false)
theorem ep:type_of% (ai @w<|ai @FE<|ai @pQ.eq_1<|@qz.eq_1):=⟨@w,@FE,@pQ.eq_1,@qz.eq_1⟩
theorem pA:bW prog 76 eR:=bW.gN (mode := .clean) tok DG mixed func76 (by kernel_rfl) (fun _ _=>rfl) (fun _=>by kernel_rfl) fun⟨Y,Z⟩ r O=>by
 replace O:gh Y Z=some r:=O;apply aH rfl ntmps76 results76;simp only[gR];unfold gh at O;obtain⟨r1,U,O⟩:=ae O;obtain⟨r2,X,O⟩:=ae O;try simp only[ep,seval,U,X]
 apply sp al O<;>intro _ O
 ·try simp only[ep,seval,U,X]
  apply sp al O<;>intro _ O
  ·cases O;try simp only[ep,seval,U,X]
  ·cases O;try simp only[ep,seval,U,X]
 ·try simp only[ep,seval,U,X]
  apply sp al O<;>intro _ O
  ·cases O;try simp only[ep,seval,U,X]
  ·try simp only[ep,seval,U,X]
   apply sp al O<;>intro _ O
   ·cases O;try simp only[ep,seval,U,X]
   ·try simp only[ep,seval,U,X]
    apply sp al O<;>intro _ O
    ·cases O;try simp only[ep,seval,U,X]
    ·cases O;try simp only[ep,seval,U,X]
def eQ (l:Option (D×Row)) (d:List D):=dW (iD (mP (eI .i64)) (dS (mP (eI .i64)))) (fun x:(List Int)×(List Int)=>gg x.1 x.2) (fun r:Int =>.clean (.int .i64 r)) l d
def qy:Env:=(Am.ext bm 76 false eR)
theorem DF:bH prog qy:=(bH.none.add pA false)
theorem cT:type_of% (ai @w<|ai @Ws<|ai @eR.eq_1<|@qy.eq_1):=⟨@w,@Ws,@eR.eq_1,@qy.eq_1⟩
theorem pz:bW prog 91 eQ:=bW.gN (mode := .clean) tok DF mixed func91 (by kernel_rfl) (fun _ _=>rfl) (fun _=>by kernel_rfl) fun⟨p0,p1⟩ r X=>by
 replace X:gg p0 p1=some r:=X;apply aH rfl ntmps91 results91;simp only[gR];unfold gg at X;try simp only[cT,seval]
 apply sp al X<;>intro _ X
 ·obtain⟨r2,ah,X⟩:=ae X;cases X;try simp only[cT,seval,ah]
 ·try simp only[cT,seval]
  obtain⟨o8,ai,X⟩:=ae X;refine aB (fun s t H e=>match s with|ag=>t 0=.sl false false p0.length (ab (eI .i64) p0)∧t 1=.sl false false p1.length (ab (eI .i64) p1)∧t 5=.int .i64 ag) (fun o x t H e=>match o with|(.inl _)=>x=.exit 0|(.inr r)=>x=.ret∧fF .clean tab none [.tmp 4] ⟨t,EH H,e⟩=some (.clean (.int .i64 r),none)) ai ?_ ?_ ?_
  ·and_intros<;>first|rfl|(simp only[cT,seval]<;>rfl)
  ·rintro ag t H e Z c X;simp only[lq]at X;try simp only[cT,seval,Z]
   apply sp al X<;>intro _ X
   ·obtain⟨aj,aa,X⟩:=ae X;have O:=bo (eI .i64) aa;simp only[bZ]at O;obtain⟨ak,ad,X⟩:=ae X;have U:=bo (eI .i64) ad;simp only[bZ]at U;try simp only[cT,seval,Z,O,U]
    refine bJ (by kernel_rfl) ?_;try simp only[cT,seval,Z,O,U]
    apply sp al X<;>intro _ X
    ·have O:=bo (eI .i64) aa;simp only[bZ]at O;have U:=bo (eI .i64) ad;simp only[bZ]at U;obtain⟨an,Y,X⟩:=ae X;try simp only[cT,seval,Z,O,U,O,U,Y]
     refine bJ (by kernel_rfl) ?_;cases X;try simp only[cT,seval,Z,O,U,O,U,Y]
     refine rq ⟨rfl,?_⟩;try simp only[cT,seval,Z,O,U,O,U,Y]
    ·cases X;try simp only[cT,seval,Z,O,U]
     apply iu;and_intros<;>first|rfl|(simp only[cT,seval,Z,O,U]<;>rfl)
   ·cases X;try simp only[cT,seval,Z]
    apply jv;exact rfl
  ·rintro x t H e hx;rcases o8 with _|ra
   ·dsimp only at hx X;subst hx;cases X;try simp only[cT,seval]
   ·dsimp only at hx X;obtain⟨rfl,hE⟩:=hx;cases X;try simp only[bg,aY,bk,cK,cJ,ca,cc]
    exact hE
def pP (l:Option (D×Row)) (d:List D):=dW (iD (mP (eI .i64)) (dS (aI .i64))) (fun x:(List Int)×Int=>mi x.1 x.2) (fun r:(List Int)×Int =>.clean (.tup [.sl false false r.1.length (ab (eI .i64) r.1),.int .i64 r.2])) l d
def tH:Env:=(Am.ext bm 125 false ff)
theorem JX:bH prog tH:=(bH.none.add nh false)
theorem iI:type_of% (ai @w<|ai @Ud<|ai @ff.eq_1<|@tH.eq_1):=⟨@w,@Ud,@ff.eq_1,@tH.eq_1⟩
theorem Kg:bW prog 141 pP:=bW.gN (mode := .clean) tok JX mixed func141 (by kernel_rfl) (fun _ _=>rfl) (fun _=>by kernel_rfl) fun⟨p0,p1⟩ r O=>by
 replace O:mi p0 p1=some r:=O;apply aH rfl ntmps141 results141;simp only[gR];unfold mi at O;obtain⟨x1,aI,O⟩:=ae O;obtain⟨X,Y,Z,U,aa⟩:=mk_one (eI .i64) aI;simp only[bZ]at U;try simp only[iI,seval,-Int.reduceToNat,X,Y,Z,U,aa]
 obtain⟨aJ,au,O⟩:=ae O;refine aB (fun s t H e=>match s with|(av,aw,ar)=>∃ad:Nat,t 0=.sl false false p0.length (ab (eI .i64) p0)∧t 1=.int .i64 p1∧t 6=.buf 6 ad 1 0 (ar).length∧t 7=.int .i64 av∧t 8=.int .i64 aw∧H 6=some ⟨ad,3,ab (eI .i64) ar,false,true,false⟩) (fun o x t H e=>match o with|(ao,ag)=>x=.exit 0∧∃ah:Nat,t 6=.buf 6 ah 1 0 (ag).length∧t 7=.int .i64 ao∧H 6=some ⟨ah,3,ab (eI .i64) ag,false,true,false⟩) au ?_ ?_ ?_
 ·refine⟨1,?_⟩;and_intros<;>first|rfl|(simp only[iI,seval,-Int.reduceToNat,X,Y,Z,U,aa]<;>rfl)
 ·rintro⟨av,aw,ar⟩ t H e ⟨ad,Za⟩ c O;simp only[nU]at O;try simp only[iI,seval,-Int.reduceToNat,X,Y,Z,U,aa,Za]
  apply sp al O<;>intro _ O
  ·obtain⟨aL,ax,O⟩:=ae O;have ay:=B6 ax;obtain⟨aM,az,O⟩:=ae O;have ai:=bo (eI .i64) az;simp only[bZ]at ai;obtain⟨aA,aC,O⟩:=ae O;have aD:=rV aC;obtain⟨aN,aq,O⟩:=ae O;have aj:=bo (eI .i64) aq;simp only[bZ]at aj;have an:=fW (eI .i64) (x':=aA) (fo:=0) (cs:=[.int .i64 aA]) aq rfl (ais rfl);simp only[bZ,Nat.add_zero]at an;have ak:=an;simp only[putCells,List.length_cons,List.length_nil,ahr,Nat.reduceAdd]at ak;obtain⟨aO,aE,O⟩:=ae O;have aF:=yd aE;cases O;try simp only[iI,seval,-Int.reduceToNat,X,Y,Z,U,aa,Za,ay,ai,aD,aj,an,ak,aF]
   apply iu;refine⟨ad,?_⟩;and_intros<;>first|rfl|(simp only[iI,seval,-Int.reduceToNat,X,Y,Z,U,aa,Za,ay,ai,aD,aj,an,ak,aF]<;>rfl)
  ·cases O;try simp only[iI,seval,-Int.reduceToNat,X,Y,Z,U,aa,Za]
   apply jv;refine⟨rfl,⟨ad,?_⟩⟩;and_intros<;>first|rfl|(simp only[iI,seval,-Int.reduceToNat,X,Y,Z,U,aa,Za]<;>rfl)
 ·rintro x t H e hx;rcases aJ with⟨ao,ag⟩;dsimp only at hx O;obtain⟨rfl,⟨ah,aK⟩⟩:=hx;obtain⟨aP,aG,O⟩:=ae O;cases O;try simp only[iI,seval,-Int.reduceToNat,X,Y,Z,U,aa,aK,aG]
section
variable {P:Program} {T:Nat->Option Ty} {N F:Nat} {M:Nat->Prop} {L:jg} {w0:World} {blk:Nat->Option (Nat×Nat)} {t:Nat->D} {h:Nat->Option Row} {a:Act} {w:World} {e:Nat} {Γ:Env} {done:List Nat}
theorem DT (X:rF N M L w0 blk e done t h a w):Holds N M L w0 ⟨t,h,e+1⟩ a w:=by
 refine⟨blk,X.inv.weaken fun x v U =>?_,fun x r ty s nv cs Y Z k3 k4 =>?_⟩
 ·rcases U with⟨O,U|⟨U,_⟩⟩|⟨O,h2,h3,h4⟩
  ·exact .inl ⟨O,.inl (by simp only;omega)⟩
  ·exact .inl ⟨O,.inl (by simp only;omega)⟩
  ·exact .inr ⟨O,by simp only;omega,fun _=>by simp only;omega,h4⟩
 ·have:=X.nv x r ty s nv cs Y Z k3 k4;exact⟨by simp only;omega,fun _=>by simp only;omega⟩
theorem E1 (hT:ig P T) (hΓ:bH P Γ) {ops l:List Oper} {K:(Nat->D)->(Nat->Option Row)->Prop} {Q:Exit->Act->World->Prop} (hI:rF N M L w0 blk e done t h a w) (X:(l.filterMap (·.dst)).Nodup) (hd:∀o∈l,∀d,o.dst=some d->d∉done)
  (hk:kc T Γ N F ops l [] (fun _ t h _=>K t h) t h e) (hQ:∀O h' U w',K O h'->Holds N M L w0 ⟨O,h',e+1⟩ U w'->Q .normal U w'):wpList P ops.toArray Q l a w:=by
 obtain⟨O,h',fs,h1,h2⟩:=yv (T:=T) (Γ:=Γ) (N:=N) (e:=e) (ops:=ops.toArray) l t h hk;exact xk hT hΓ h1 X hd hI fun U w' blk' Y Z=>hQ O h' U w' h2 (DT Z)
theorem Yd (Y:ig P T) (Z:bH P Γ) {ops l:List Oper} {o:Oper} {K:(Nat->D)->(Nat->Option Row)->Prop} {Q:Exit->Act->World->Prop} (hI:rF N M L w0 blk e done t h a w) (hd:∀d,o.dst=some d->d∉done)
  (hk:kc T Γ N F ops [o] [] (fun _ t h _=>K t h) t h e) (hQ:∀O h' U w' blk',K O h'->rF N M L w0 blk' e (o.dst.toList++done) O h' U w'->wpList P ops.toArray Q l U w'):wpList P ops.toArray Q (o::l) a w:=by
 obtain⟨O,h',fs,h1,h2⟩:=yv (T:=T) (Γ:=Γ) (N:=N) (e:=e) (ops:=ops.toArray) [o] t h hk;simp only[zM]at h1;split at h1
 ·rename_i t1 aa f hs;simp only[agL,Prod.mk.injEq]at h1;obtain⟨rfl,rfl,_⟩:=h1;unfold wpList;exact KC Y Z hI hs hd fun U w' blk' X=>hQ _ _ _ _ blk' h2 X
 ·cases h1
theorem xv (hT:ig P T) (hΓ:bH P Γ) (hm:P.follows .mixedOrders=true) {c:Code} {K:Kt} {Q:Exit->Act->World->Prop} (hH:Holds N M L w0 ⟨t,h,e⟩ a w) (X:codeOk c=true) (hk:dh T Γ N F [.code c] K .normal t h e)
  (hQ:∀x Z h' e' O w',K x Z h' e'->Holds N M L w0 ⟨Z,h',e'⟩ O w'->Q (Dv x) O w'):c.wp P Q a w:=by
 obtain⟨x,U,h1,h2⟩:=KU c t h e K hk;exact iH hT hΓ hm c ⟨t,h,e⟩ x U Q a w h1 X hH fun O w' Y=>hQ x U.t U.h U.e O w' h2 Y
theorem gH.maps {h':Nat->Option Row} (Z:∀x,h' x=h x∨∃v ty ks vs fz lst,h' x=some ⟨v,ty,[.mpc ks vs],fz,lst,true⟩):gH e h h':=by
 intro x r' ty' s' U cs' O k2 Y k4;rcases Z x with X|⟨v,ty,ks,vs,fz,lst,X⟩
 ·rw[X]at O;exact⟨r',ty',s',U,cs',O,k2,Y,.inl rfl⟩
 ·rw[X]at O;cases O;cases Y
theorem X5 {d:Nat} (U:d<N) (Y:N<=PK) (X:d∉done):iR N (VE N e done h) d e where
 no:=by
  rintro (⟨_,O|⟨_,O⟩⟩|⟨O,_⟩)
  ·exact absurd O (Nat.lt_irrefl _)
  ·exact X O
  ·have:=cv;omega
 lt:=U
end
theorem map_eraseIdx {α β:Type} (f:α->β):∀(l:List α) (j:Nat),(l.map f).eraseIdx j=(l.eraseIdx j).map f
 | [],_=>rfl
 | a::l,0=>rfl
 | a::l,j+1=>by simp[map_eraseIdx f l j]
theorem x4 {α:Type} : ∀m:List ((Int×Int)×α),dK m=m.map fun q=>vM.k q.1
 | []=>rfl
 | (k,v)::m=>by simp[dK,x4 m]
theorem Ea {α:Type} (A:Arg α):∀m:List ((Int×Int)×α),fC A m=m.map fun q=>A.d q.2
 | []=>rfl
 | (k,v)::m=>by simp[fC,Ea A m]
theorem EO {α:Type} : ∀ {l:List α} {j:Nat} {q:α},l[j]? = some q->l.Perm (q::l.eraseIdx j)
 | [],_,_,h=>by simp at h
 | a::l,0,q,h=>by simp only[List.getElem?_cons_zero,agL]at h;subst h;exact aiM _
 | a::l,j+1,q,h=>by
  simp only[List.getElem?_cons_succ]at h;exact ((EO h).cons a).trans (List.Perm.swap q a _)
def iP (q:(Int×Int)×aw):bL:=bL.mk q.1.1 q.1.2 q.2
def adQ (r:fP×Int) (t:Nat->D) (h:Nat->Option Row) (e:Nat):Prop:=∃(m:List ((Int×Int)×aw)) (ports:Int) (v21 v9 v2 nv:Nat),t 6=.mp 21 v21∧h 21=some ⟨v21,74,[.mpc (dK m) (fC (bC aG) m)],false,true,true⟩ ∧
 t 9=.ptr 9 v9 0∧h 9=some ⟨v9,28,[.nr 65 6 nv [.int .i64 ports,.nx 0 []]],false,false,true⟩∧t 2=.ptr 2 v2 0∧h 2=some ⟨v2,28,[.int .i64 0,.sl true true 0 []],false,false,false⟩∧nv<=4*e∧BX ports m=some r
def Cd:=mkW 65 bB (dS (aFn 43)) (fun (l:List bL) (_:Unit)=>A7 (jm bL.cD bL.jh) l) (fun _:Unit =>.clean (.tup []))
theorem YY (pre post:List D) (O:List bL):Cd (some (.buf 0 0 6 pre.length O.length,⟨0,65,pre++(ab bB O++post),false,true,false⟩)) [.fn 43]=(A7 (jm bL.cD bL.jh) O).map fun r=>(.clean (.tup []),some ⟨0,65,pre++(ab bB r.1++post),false,true,false⟩):=Yz _ _ _ _ _ pre post O ()
theorem VP:bW prog 42 Cd:=Kk tz (fun x=>by rw[nV];rfl) (fun x=>by rw[nV];rfl) 65
def QB:Env:=(Am.vF 9 (65,6,1) (Am.ext bm 42 true Cd))
theorem p5:bH prog QB:=bH.vF (bH.none.add VP true) 9 (65,6,1)
theorem uz:type_of% (ai @w<|@QB.eq_1):=⟨@w,@QB.eq_1⟩
def Sf (m:List ((Int×Int)×aw)) (ports:Int) (O:List ((Int×Int)×aw)) (t:Nat->D) (h:Nat->Option Row) (e:Nat):Prop:=∃(ks:List cr) (vs:List D) (acc:List bL) (U ty v9 v2 nv:Nat),
 t 44=.ptr 44 U 0∧h 44=some ⟨U,ty,[.mpc ks vs],false,true,true⟩∧900000<=ty∧ks.drop (ty-900000)=dK O∧vs.drop (ty-900000)=fC (bC aG) O ∧
 t 9=.ptr 9 v9 0∧h 9=some ⟨v9,28,[.nr 65 6 nv [.int .i64 ports,.nx acc.length (ab bB acc)]],false,false,true⟩∧t 2=.ptr 2 v2 0∧h 2=some ⟨v2,28,[.int .i64 0,.sl true true 0 []],false,false,false⟩∧nv<=4*e∧(acc++O.map iP).Perm (m.map iP)
theorem aa4 {m:List ((Int×Int)×aw)} {ports:Int} (hc:m.length<=8000∧(m.map (·.1)).Nodup) {t:Nat->D} {h:Nat->Option Row} {e:Nat} {w0:World} {M:Nat->Prop} {a:Act} {w:World} (hJ:Sf m ports [] t h e) (hH:Holds 65 M none w0 ⟨t,h,e⟩ a w) :
  (zV 0 (zV 5 (W9 Tryz.f12))).wp prog (bodyPost prog Tryz.f12 fun e w'=>∃v,e=.returned v∧Below w0.heap.size w0 w'∧s3 w0 w' M (fun _=>False) v (.clean (.tup [.agg [.int .i64 ports,.sl false false (nJ (jm bL.cD bL.jh) (m.map iP)).length (ab bB (nJ (jm bL.cD bL.jh) (m.map iP)))],.int .i64 0]))) a w:=by
 obtain⟨ks,vs,acc,vI,ty,v9,v2,nv,i1,i2,i3,i4,i5,i6,i7,i8,i9,i10,i11⟩:=hJ;rw[ahs,aiB]at i11;have hkey:∀x∈acc,∀y∈acc,jm bL.cD bL.jh x y=0->x=y:=by
  intro x Z y hy h0;obtain⟨p,hp,rfl⟩:=agB.1 (i11.mem_iff.1 Z);obtain⟨q,hq,rfl⟩:=agB.1 (i11.mem_iff.1 hy);obtain⟨k1,k2⟩:=RE.1 h0;have hk:p.1=q.1:=Prod.ext k1 k2;have:p=q:=by
   obtain⟨i,hi,rfl⟩:=List.getElem_of_mem hp;obtain⟨j,hj,rfl⟩:=List.getElem_of_mem hq;have:=(List.getElem_inj (h₀:=by simpa using hi) (h₁:=by simpa using hj) hc.2).1 (by simpa using hk);subst this;rfl
  rw[this]
 have O:nJ (jm bL.cD bL.jh) acc=nJ (jm bL.cD bL.jh) (m.map iP):=by
  refine mO (((gY _ acc).trans i11).trans (gY _ _).symm) (fun x Z y hy h1 h2=>hkey x ((gY _ acc).mem_iff.1 Z) y ((gY _ acc).mem_iff.1 hy) ?_) (ly (rm _ _) _) (ly (rm _ _) _);have:=(rm bL.cD bL.jh).neg x y;have:=(rm bL.cD bL.jh).neg y x;omega
 have hlen:acc.length=m.length:=by rw[i11.length_eq,ag6]
 have hs:A7 (jm bL.cD bL.jh) acc=some (nJ (jm bL.cD bL.jh) (m.map iP),()):=by
  unfold A7;rw[if_pos ⟨by omega,hkey⟩,O]
 have U:(nJ (jm bL.cD bL.jh) (m.map iP)).length=acc.length:=by rw[mo,ag6,hlen]
 generalize nJ (jm bL.cD bL.jh) (m.map iP)=X at hs U ⊢;have iq:=YY [] [] acc;simp only[List.nil_append,aiB,List.length_nil,bZ]at iq;refine (show (Code.seq (Code.region _ _ _) (Code.seq (Code.region _ _ _) Code.ret)).wp _ _ _ _ from ?_);refine xv (F:=FU) tok p5 mixed hH (by kernel_rfl) (K:=fun x t h e=>x=.ret∧fF .clean tab none [.cell 2 28,.tmp 3] ⟨t,EH h,e⟩=some (.clean (.tup [.agg [.int .i64 ports,.sl false false X.length (ab bB X)],.int .i64 0]),none)) ?_ ?_
 ·simp only[uz,seval,i6,i7,i8,i9,iq,hs,U]
 ·rintro x t' h' e' a' w' ⟨rfl,hr⟩ aa;have Y:Holds Tryz.f12.ntmps M none w0 ⟨t',h',e'⟩ a' w':=by rw[ntmps12];exact aa
  exact Hp tok Y (by rw[results12];exact hr)
theorem YD (r:fP×Int):K3 prog Tryz.f12 (zV 5 (W9 Tryz.f12)) (.clean (.tup [.agg [.int .i64 r.1.az,.sl false false r.1.aN.length (ab bB r.1.aN)],.int .i64 r.2])) (adQ r):=by
 intro w0 M s a w hJ hH;obtain⟨t0,h0,e0⟩:=s;obtain⟨m,ports,v21,v9,v2,nv,j1,j2,j3,j4,j5,j6,j7,hr⟩:=hJ;dsimp only at j1 j2 j3 j4 j5 j6 j7;unfold BX at hr
 by_cases hc:m.length<=8000∧(m.map (·.1)).Nodup
 rotate_left
 ·rw[if_neg hc]at hr;cases hr
 rw[if_pos hc]at hr;cases hr;rw[ntmps12]at hH;apply wp_seq;apply wp_seq;obtain⟨blk,hI⟩:=hH;apply wp_region_lit;refine Yd (F:=FU) tok p5 hI (fun d _=>by simp) (K:=fun t h=>t=bI t0 43 (.mp 21 v21)∧h=h0) (by simp only[uz,seval,j1,j2]) ?_;rintro t1 h1 a1 w1 aA ⟨rfl,rfl⟩ ad;refine yT rfl ad (by decide) (K:=fun t h=>t=bI (bI t0 43 (.mp 21 v21)) 44 (.ptr 44 e0 0)∧h=bI (bI h1 21 (some ⟨v21,74,[.mpc (dK m) (fC (bC aG) m)],true,true,true⟩)) 44 (some ⟨e0,900000,[.mpc (dK m) (fC (bC aG) m)],false,true,true⟩)) ?_ ?_
 ·refine dY.mono (Qo tok ad.inv (e:=e0) (ty:=74) (d:=44) (k:=77) (el:=42) (x:=21) (v:=v21) (v':=v21) (m := .tmp 43) rfl rfl (X5 (by decide) (by rw[cv];decide) (by simp)) underlying74 (by simp[ev,aq]) j2 (by decide) (by rw[cv];decide) (by decide)) fun v w' hA=>⟨_,⟨rfl,rfl⟩,uQ ad (fun d hd =>?_) (gH.maps fun x =>?_) hA⟩
  ·cases hd;exact⟨by simp,by decide⟩
  ·show bI (bI h1 21 _) 44 _ x=_∨_
   by_cases X:x=44
   ·subst X;rw[aq];exact .inr ⟨_,_,_,_,_,_,rfl⟩
   ·rw[av _ _ X]
    by_cases ag:x=21
    ·subst ag;rw[aq];exact .inr ⟨_,_,_,_,_,_,rfl⟩
    ·rw[av _ _ ag];exact .inl rfl
 ·rintro t2 h2 a2 w2 aB ⟨rfl,rfl⟩ ah;have ai:=DT ah;have ak:Sf m ports m (bI (bI t0 43 (.mp 21 v21)) 44 (.ptr 44 e0 0)) (bI (bI h1 21 (some ⟨v21,74,[.mpc (dK m) (fC (bC aG) m)],true,true,true⟩)) 44 (some ⟨e0,900000,[.mpc (dK m) (fC (bC aG) m)],false,true,true⟩)) (e0+1) :=
   ⟨_,_,[],e0,900000,v9,v2,nv,aq _ _ _,aq _ _ _,agC _,by rw[ahQ,ah6],by rw[ahQ,ah6],by rw[av _ _ (by decide),av _ _ (by decide)];exact j3,by rw[av _ _ (by decide),av _ _ (by decide)];exact j4,by rw[av _ _ (by decide),av _ _ (by decide)];exact j5,by rw[av _ _ (by decide),av _ _ (by decide)];exact j6,by omega,aiM _⟩
  apply wp_block;refine wp_loop_ghost (fun n a w=>∃(Y:List ((Int×Int)×aw)) (t:Nat->D) (h:Nat->Option Row) (e:Nat),Y.length=n∧Sf m ports Y t h e∧Holds 65 M none w0 ⟨t,h,e⟩ a w) m.length ⟨m,_,_,_,rfl,ak,ai⟩ ?_;clear ak ai ah ad hI j1 j2 j3 j4 j5 j6 j7;rintro n a w ⟨Y,t,h,e,hn,⟨ks,vs,acc,vI,ty,v9,v2,nv,i1,i2,i3,i4,i5,i6,i7,i8,i9,i10,i11⟩,blk,hI⟩;replace hI:rF 65 M none w0 blk e [] t h a w:=hI;apply wp_seq;apply wp_region_lit;refine yT rfl hI (by decide) (K:=fun t' h'=>(Y=[]∧t'=bI t 45 (.tup [.bool false])∧h'=h)∨∃(k:Int×Int) (x:aw) (O:List ((Int×Int)×aw)),(Y.map iP).Perm (iP (k,x)::O.map iP)∧Y.length=O.length+1 ∧
   t'=bI t 45 (.tup [.bool true,.agg [.int .i64 k.1,.int .i64 k.2],.agg [.int .i64 x.cu.aj,.sl false false x.cu.aa.length (ab (eI .i64) x.cu.aa),.int .i64 x.ct.aj,.sl false false x.ct.aa.length (ab (eI .i64) x.ct.aa)]]) ∧
   h'=bI h 44 (some ⟨vI,900001,[.mpc (dK ((k,x)::O)) (fC (bC aG) ((k,x)::O))],false,true,true⟩)) ?_ ?_
  ·refine dY.mono (Vd hI.inv (e:=e) (y:=44) (p := .tmp 44) rfl (by simp[ev,i1]) i2 i3 (by rw[cv];decide)) ?_;rintro v w' (⟨q1,q2⟩|⟨j,k,x,q1,q2,q3⟩)
   ·rw[i4,x4]at q1;have ao:Y=[]:=List.map_eq_nil_iff.1 q1;exact⟨_,.inl ⟨ao,rfl,rfl⟩,uQ hI (fun d hd=>by cases hd;exact⟨by simp,by decide⟩) (gH.maps fun x =>.inl rfl) q2⟩
   ·rw[i4,i5]at q3;rw[i4]at q1;rw[i5]at q2;rw[x4]at q1 q3;rw[Ea]at q2 q3;rw[agz]at q1 q2;obtain⟨q,hq,rfl⟩:=agA.1 q1;rw[hq]at q2;cases q2;rw[map_eraseIdx,map_eraseIdx,<- x4,<- Ea]at q3;have hp:=EO hq;refine⟨_,.inr ⟨q.1,q.2,Y.eraseIdx j,hp.map iP,hp.length_eq,rfl,rfl⟩,uQ hI (fun d hd=>by cases hd;exact⟨by simp,by decide⟩) (gH.maps fun x =>?_) q3⟩;show bI h 44 _ x=_∨_
    by_cases X:x=44
    ·subst X;rw[aq];exact .inr ⟨_,_,_,_,_,_,rfl⟩
    ·rw[av _ _ X];exact .inl rfl
  ·rintro t' h' a' w' blk' (⟨rfl,rfl,rfl⟩|⟨k,x,O,p1,p2,rfl,rfl⟩) ae
   ·refine E1 (F:=FU) tok p5 ae (by decide) (by simp) (K:=fun t' U=>t'=bI (bI t 45 (.tup [.bool false])) 46 (.bool false)∧U=h') (by simp only[uz,seval]) ?_;rintro t2 h2 a2 w2 ⟨rfl,rfl⟩ hH;refine (show Code.wp _ (Code.seq (Code.cond _ Code.skip (Code.exit 2)) _) _ a2 w2 from ?_);refine xv (F:=FU) tok p5 mixed hH (by kernel_rfl) (K:=fun x t' U e'=>x=.exit 2∧t'=bI (bI t 45 (.tup [.bool false])) 46 (.bool false)∧U=h2∧e'=e+1) (by simp only[uz,seval]) ?_;rintro x t3 h3 e3 a3 w3 ⟨rfl,rfl,rfl,rfl⟩ ar;refine aa4 hc ⟨ks,vs,acc,vI,ty,v9,v2,nv,?_,i2,i3,i4,i5,?_,i7,?_,i9,by omega,i11⟩ ar
    ·rw[av _ _ (by decide),av _ _ (by decide)];exact i1
    ·rw[av _ _ (by decide),av _ _ (by decide)];exact i6
    ·rw[av _ _ (by decide),av _ _ (by decide)];exact i8
   ·refine E1 (F:=FU) tok p5 ae (by decide) (by simp) (K:=fun t' U=>t'=bI (bI t 45 (.tup [.bool true,.agg [.int .i64 k.1,.int .i64 k.2],.agg [.int .i64 x.cu.aj,.sl false false x.cu.aa.length (ab (eI .i64) x.cu.aa),.int .i64 x.ct.aj,.sl false false x.ct.aa.length (ab (eI .i64) x.ct.aa)]])) 46 (.bool true)∧U=bI h 44 (some ⟨vI,900001,[.mpc (dK ((k,x)::O)) (fC (bC aG) ((k,x)::O))],false,true,true⟩)) (by simp only[uz,seval]) ?_;rintro t2 h2 a2 w2 ⟨rfl,rfl⟩ hH;refine (show Code.wp _ (Code.seq (Code.cond _ Code.skip (Code.exit 2)) (Code.block 3 (Code.seq (Code.region _ (List.toArray _) false) _))) _ a2 w2 from ?_);apply wp_seq;have hF:∃t h,(t 44=.ptr 44 vI 0∧t 9=.ptr 9 v9 0∧t 2=.ptr 2 v2 0∧h 44=some ⟨vI,900001,[.mpc (dK ((k,x)::O)) (fC (bC aG) ((k,x)::O))],false,true,true⟩∧h 9=some ⟨v9,28,[.nr 65 6 nv [.int .i64 ports,.nx acc.length (ab bB acc)]],false,false,true⟩∧h 2=some ⟨v2,28,[.int .i64 0,.sl true true 0 []],false,false,false⟩∧t 46=.bool true)∧Holds 65 M none w0 ⟨t,h,e+1⟩ a2 w2:=by
     refine⟨_,_,⟨?_,?_,?_,aq _ _ _,?_,?_,aq _ _ _⟩,hH⟩
     ·rw[av _ _ (by decide),av _ _ (by decide)];exact i1
     ·rw[av _ _ (by decide),av _ _ (by decide)];exact i6
     ·rw[av _ _ (by decide),av _ _ (by decide)];exact i8
     ·rw[av _ _ (by decide)];exact i7
     ·rw[av _ _ (by decide)];exact i9
    clear hH ae hI i1 i2 i3 i4 i5 i6 i7 i8 i9;clear h t;obtain⟨t,h,⟨f1,f2,f3,f4,f5,f6,f7⟩,hH⟩:=hF;refine xv (F:=FU) tok p5 mixed hH (by kernel_rfl) (K:=fun x t' U e'=>x=.normal∧t'=t∧U=h∧e'=e+1) (by simp only[uz,seval,f7]) ?_;rintro x' t3 h3 e3 a3 w3 ⟨rfl,rfl,rfl,rfl⟩ ⟨al,Z⟩;replace Z:rF 65 M none w0 al (e+1) [] t3 h3 a3 w3:=Z;refine (show Code.wp _ (Code.block 3 (Code.seq (Code.region _ (List.toArray _) false) _)) _ a3 w3 from ?_);apply wp_block;apply wp_seq;apply wp_region_lit;refine yT rfl Z (by decide) (K:=fun t' h'=>t'=bI t3 47 (.tup [.agg [.int .i64 k.1,.int .i64 k.2],.agg [.int .i64 x.cu.aj,.sl false false x.cu.aa.length (ab (eI .i64) x.cu.aa),.int .i64 x.ct.aj,.sl false false x.ct.aa.length (ab (eI .i64) x.ct.aa)]])∧h'=h3) ?_ ?_
    ·refine dY.mono (Ql Z.inv (e:=e+1) (y:=44) (p := .tmp 44) (k:=vM.k k) (x:=(bC aG).d x) (ks:=dK O) (vs:=fC (bC aG) O) rfl (by simp[ev,f1]) f4 (by rw[cv];decide)) fun v w' hA=>⟨_,⟨rfl,rfl⟩,uQ Z (fun d hd=>by cases hd;exact⟨by simp,by decide⟩) (gH.refl _ _) hA⟩
    ·rintro t4 h4 a4 w4 aC ⟨rfl,rfl⟩ au;refine E1 (F:=FU) tok p5 au (by decide) (by simp) (K:=fun t' h'=>t' 44=.ptr 44 vI 0∧t' 9=.ptr 9 v9 0∧t' 2=.ptr 2 v2 0∧t' 10=.ptr 10 (e+1) 0∧t' 11=.ptr 11 (e+1) 0 ∧
      h' 44=some ⟨vI,900001,[.mpc (dK ((k,x)::O)) (fC (bC aG) ((k,x)::O))],false,true,true⟩∧h' 9=some ⟨v9,28,[.nr 65 6 nv [.int .i64 ports,.nx acc.length (ab bB acc)]],false,false,true⟩∧h' 2=some ⟨v2,28,[.int .i64 0,.sl true true 0 []],false,false,false⟩ ∧
      h' 10=some ⟨e+1,77,[.int .i64 k.1,.int .i64 k.2],false,false,false⟩∧h' 11=some ⟨e+1,42,[.int .i64 x.cu.aj,.sl false false x.cu.aa.length (ab (eI .i64) x.cu.aa),.int .i64 x.ct.aj,.sl false false x.ct.aa.length (ab (eI .i64) x.ct.aa)],false,false,false⟩) (by simp only[uz,seval,f1,f2,f3,f4,f5,f6]) ?_
     rintro t5 h5 a5 w5 ⟨g1,g2,g3,g4,g5,g6,g7,g8,g9,g10⟩ ax;have aD:acc.length+1+O.length=m.length:=by
      have:=i11.length_eq;simp only[ahO,ag6]at this;omega
     have an:mh 80 acc [iP (k,x)]=some (acc++[iP (k,x)]):=by
      unfold mh;have:(17592186044416:Nat)<=maxLen:=by decide
      rw[if_pos ⟨by simp;omega,by simp;omega⟩]
     obtain⟨qa,qb,qc,qd⟩:=iJ bB an;simp only[bZ,iP]at qb;have bp:bump nv (e+1+1)=some (4*(e+1+1)+1):=BR (by omega);refine (show Code.wp _ (Code.region _ (List.toArray _) false) _ a5 w5 from ?_);refine xv (F:=FU) tok p5 mixed ax (by kernel_rfl) (K:=fun x' t' h' e'=>x'=.normal∧e'=e+1+1+1∧t' 44=.ptr 44 vI 0∧t' 9=.ptr 9 v9 0∧t' 2=.ptr 2 v2 0 ∧
      h' 44=some ⟨vI,900001,[.mpc (dK ((k,x)::O)) (fC (bC aG) ((k,x)::O))],false,true,true⟩∧h' 9=some ⟨v9,28,[.nr 65 6 (4*(e+1+1)+1) [.int .i64 ports,.nx (acc++[iP (k,x)]).length (ab bB (acc++[iP (k,x)]))]],false,false,true⟩∧h' 2=some ⟨v2,28,[.int .i64 0,.sl true true 0 []],false,false,false⟩)
      (by simp only[uz,seval,g1,g2,g3,g4,g5,g6,g7,g8,g9,g10,qa,qb,qc,qd,bp,iP];exact⟨qc,qd⟩) ?_
     rintro x' t6 h6 e6 a6 w6 ⟨rfl,rfl,l1,l2,l3,l4,l5,l6⟩ ay;refine (show ∃n',n'<n∧∃(Y:List ((Int×Int)×aw)) (t:Nat->D) (h:Nat->Option Row) (e:Nat),Y.length=n'∧Sf m ports Y t h e∧Holds 65 M none w0 ⟨t,h,e⟩ a6 w6 from ?_);refine⟨O.length,by omega,O,t6,h6,_,rfl,⟨_,_,_,vI,900001,v9,v2,_,l1,l4,by decide,?_,?_,l2,l5,l3,l6,by omega,?_⟩,ay⟩
     ·rw[show 900001-900000=1 from ah2 (n:=900000) (m:=1)];rfl
     ·rw[show 900001-900000=1 from ah2 (n:=900000) (m:=1)];rfl
     ·rw[ah0];exact (List.Perm.append_left acc p1.symm).trans i11
def ow (l:Option (D×Row)) (d:List D):=dW (iD (mP (eI .i64)) (dS (mP (eI .i64)))) (fun x:(List Int)×(List Int)=>nT x.1 x.2) (fun r:(List Int) =>.fresh 3 1 r.length (ab (eI .i64) r)) l d
def zc:Env:=(Am.ext bm 125 true rv)
theorem QK:bH prog zc:=(bH.none.add FY true)
theorem fl:type_of% (ai @w<|@zc.eq_1):=⟨@w,@zc.eq_1⟩
theorem Ey:bW prog 126 ow:=bW.gN (mode:=(.fresh 3 1)) tok QK mixed func126 (by kernel_rfl) (fun _ _=>rfl) (fun _=>by kernel_rfl) fun⟨p0,p1⟩ r O=>by
 replace O:nT p0 p1=some r:=O;apply aH rfl ntmps126 results126;simp only[gR];unfold nT at O;obtain⟨x1,aU,O⟩:=ae O;obtain⟨Y,Z,aa,U,ad⟩:=mk_one (eI .i64) aU;simp only[bZ]at U;try simp only[fl,seval,-Int.reduceToNat,Y,Z,aa,U,ad]
 obtain⟨aV,aJ,O⟩:=ae O;refine aB (fun s t H e=>match s with|(ai,aF)=>∃ao:Nat,t 1=.sl false false p1.length (ab (eI .i64) p1)∧t 5=.buf 5 ao 1 0 (aF).length∧t 18=.sl false false p0.length (ab (eI .i64) p0)∧t 19=.int .i64 (p0.length:Int)∧t 20=.int .i64 ai∧H 5=some ⟨ao,3,ab (eI .i64) aF,false,true,false⟩) (fun o x t H e=>match o with|aj=>x=.exit 0∧∃aq:Nat,t 5=.buf 5 aq 1 0 (aj).length∧H 5=some ⟨aq,3,ab (eI .i64) aj,false,true,false⟩) aJ ?_ ?_ ?_
 ·refine⟨1,?_⟩;and_intros<;>first|rfl|(simp only[fl,seval,-Int.reduceToNat,Y,Z,aa,U,ad]<;>rfl)
 ·rintro⟨ai,aF⟩ t H e ⟨ao,Za⟩ c O;simp only[rP]at O;try simp only[fl,seval,-Int.reduceToNat,Y,Z,aa,U,ad,Za]
  apply sp al O<;>intro _ O
  ·obtain⟨aG,aK,O⟩:=ae O;have X:=bo (eI .i64) aK;simp only[bZ]at X;try simp only[fl,seval,-Int.reduceToNat,Y,Z,aa,U,ad,Za,X]
   obtain⟨aW,aL,O⟩:=ae O;refine aB (fun s t H e=>match s with|(aA,aE,aI)=>∃ar:Nat,t 1=.sl false false p1.length (ab (eI .i64) p1)∧t 5=.buf 5 ar 1 0 (aI).length∧t 6=.int .i64 ai∧t 7=.int .i64 aG∧t 8=.int .i64 aA∧t 18=.sl false false p0.length (ab (eI .i64) p0)∧t 19=.int .i64 (p0.length:Int)∧t 20=.int .i64 ai∧t 25=.sl false false p1.length (ab (eI .i64) p1)∧t 26=.int .i64 (p1.length:Int)∧t 27=.int .i64 aE∧H 5=some ⟨ar,3,ab (eI .i64) aI,false,true,false⟩) (fun o x t H e=>match o with|(ak,au)=>x=.exit 2∧∃an:Nat,t 1=.sl false false p1.length (ab (eI .i64) p1)∧t 5=.buf 5 an 1 0 (au).length∧t 6=.int .i64 ai∧t 8=.int .i64 ak∧t 18=.sl false false p0.length (ab (eI .i64) p0)∧t 19=.int .i64 (p0.length:Int)∧t 20=.int .i64 ai∧H 5=some ⟨an,3,ab (eI .i64) au,false,true,false⟩) aL ?_ ?_ ?_
   ·refine⟨ao,?_⟩;and_intros<;>first|rfl|(simp only[fl,seval,-Int.reduceToNat,Y,Z,aa,U,ad,Za,X]<;>rfl)
   ·rintro⟨aA,aE,aI⟩ t H e ⟨ar,Zc⟩ c O;simp only[rQ]at O;try simp only[fl,seval,-Int.reduceToNat,Y,Z,aa,U,ad,X,Zc]
    apply sp al O<;>intro _ O
    ·obtain⟨aM,aN,O⟩:=ae O;have av:=bo (eI .i64) aN;simp only[bZ]at av;obtain⟨aO,aw,O⟩:=ae O;have ag:=bo (eI .i64) aw;simp only[bZ]at ag;obtain⟨aY,aP,O⟩:=ae O;have aQ:=vt aP;have ag:=bo (eI .i64) aw;simp only[bZ]at ag;have aC:=fW (eI .i64) (x':=j0 .and .i64 (IntKind.i64.wrap ((IntKind.i64.wrap (aO+(IntKind.i64.wrap (aG*aM))))+aA)) 1048575) (fo:=0) (cs:=[.int .i64 (j0 .and .i64 (IntKind.i64.wrap ((IntKind.i64.wrap (aO+(IntKind.i64.wrap (aG*aM))))+aA)) 1048575)]) aw rfl (ais rfl);simp only[bZ,Nat.add_zero]at aC;have ax:=aC;simp only[putCells,List.length_cons,List.length_nil,ahr,Nat.reduceAdd]at ax;cases O;try simp only[fl,seval,-Int.reduceToNat,Y,Z,aa,U,ad,X,Zc,av,ag,aQ,ag,aC,ax]
     apply iu;refine⟨ar,?_⟩;and_intros<;>first|rfl|(simp only[fl,seval,-Int.reduceToNat,Y,Z,aa,U,ad,X,Zc,av,ag,aQ,ag,aC,ax]<;>rfl)
    ·cases O;try simp only[fl,seval,-Int.reduceToNat,Y,Z,aa,U,ad,X,Zc]
     apply jv;refine⟨rfl,⟨ar,?_⟩⟩;and_intros<;>first|rfl|(simp only[fl,seval,-Int.reduceToNat,Y,Z,aa,U,ad,X,Zc]<;>rfl)
   ·rintro x t H e hx;rcases aW with⟨ak,au⟩;dsimp only at hx O;obtain⟨rfl,⟨an,aR⟩⟩:=hx;obtain⟨aS,ay,O⟩:=ae O;have ah:=bo (eI .i64) ay;simp only[bZ]at ah;have ah:=bo (eI .i64) ay;simp only[bZ]at ah;have aD:=fW (eI .i64) (x':=IntKind.i64.wrap (aS+ak)) (fo:=0) (cs:=[.int .i64 (IntKind.i64.wrap (aS+ak))]) ay rfl (ais rfl);simp only[bZ,Nat.add_zero]at aD;have az:=aD;simp only[putCells,List.length_cons,List.length_nil,ahr,Nat.reduceAdd]at az;cases O;try simp only[fl,seval,-Int.reduceToNat,Y,Z,aa,U,ad,X,aR,ah,ah,aD,az]
    apply iu;refine⟨an,?_⟩;and_intros<;>first|rfl|(simp only[fl,seval,-Int.reduceToNat,Y,Z,aa,U,ad,X,aR,ah,ah,aD,az]<;>rfl)
  ·cases O;try simp only[fl,seval,-Int.reduceToNat,Y,Z,aa,U,ad,Za]
   apply jv;refine⟨rfl,⟨ao,?_⟩⟩;and_intros<;>first|rfl|(simp only[fl,seval,-Int.reduceToNat,Y,Z,aa,U,ad,Za]<;>rfl)
 ·rintro x t H e hx;obtain⟨aj,rfl⟩:∃z,z=aV:=⟨_,rfl⟩;dsimp only at hx O;obtain⟨rfl,⟨aq,aX⟩⟩:=hx;have i38:=Kr [] [] aj;try simp only[List.nil_append,aiB,List.length_nil,bj,aiK,bZ]at i38
  obtain⟨aZ,aT,O⟩:=ae O;cases O;try simp only[fl,seval,-Int.reduceToNat,Y,Z,aa,U,ad,aX,i38,aT]
def oK:=mkW 3 (eI .i64) (iD (mP (eI .i64)) (dS (aI .i64))) (fun (l:(List Int)) (x:(List Int)×Int)=>fR l x.1 x.2) (fun r:Int =>.clean (.int .i64 r))
theorem EW (pre post:List D) (O:(List Int)) (U:(List Int)) (X:Int):oK (some (.buf 0 0 1 pre.length O.length,⟨0,3,pre++(ab (eI .i64) O++post),false,true,false⟩)) [.sl false false U.length (ab (eI .i64) U),.int .i64 X]=(fR O U X).map fun r=>(.clean (.int .i64 r.2),some ⟨0,3,pre++(ab (eI .i64) r.1++post),false,true,false⟩):=Yz _ _ _ _ _ pre post O (U,X)
theorem D5 (pre post:List D) (p0:(List Int)) (p1:(List Int)) (p2:Int) (r:(List Int)×(Int)) (O:fR p0 p1 p2=some r):jY .clean tab bm FU Tryz.f142 (some (.buf 0 0 1 pre.length p0.length,⟨0,3,pre++(ab (eI .i64) p0++post),false,true,false⟩)) [.sl false false p1.length (ab (eI .i64) p1),.int .i64 p2]=some (.clean (.int .i64 r.2),some ⟨0,3,pre++(ab (eI .i64) r.1++post),false,true,false⟩):=by
 apply Fz rfl ntmps142 results142;unfold fR at O;obtain⟨rw,aO,O⟩:=ae O;split at O;rotate_left
 ·cases O
 cases O;rename_i hlen;replace O:=aO;unfold oT at O;try simp only[w,seval,-Int.reduceToNat]
 obtain⟨o9,aP,O⟩:=ae O;refine aB (fun s t H e=>match s with|(aC,aa,ag)=>t 0=.buf 0 0 1 pre.length (ag).length∧t 1=.sl false false p1.length (ab (eI .i64) p1)∧t 2=.int .i64 p2∧t 7=.int .i64 aC∧t 13=.int .i64 ((p0).length:Int)∧t 14=.int .i64 aa∧H 0=some ⟨0,3,pre++(ab (eI .i64) ag++post),false,true,false⟩) (fun o x t H e=>match o with|(az,Y)=>x=.exit 0∧t 0=.buf 0 0 1 pre.length (Y).length∧t 1=.sl false false p1.length (ab (eI .i64) p1)∧t 2=.int .i64 p2∧t 7=.int .i64 az∧H 0=some ⟨0,3,pre++(ab (eI .i64) Y++post),false,true,false⟩) aP ?_ ?_ ?_
 ·and_intros<;>first|rfl|(simp only[w,seval,-Int.reduceToNat]<;>rfl)
 ·rintro⟨aC,aa,ag⟩ t H e Za c O;simp only[kn]at O;try simp only[w,seval,-Int.reduceToNat,Za]
  apply sp al O<;>intro _ O
  ·obtain⟨aU,ah,O⟩:=ae O;have U:=Nj (pre:=pre) (post:=post) (eI .i64) ah;simp only[bZ]at U;try simp only[w,seval,-Int.reduceToNat,Za,U]
   obtain⟨aQ,aD,O⟩:=ae O;refine ki 0 (fun s t H e=>match s with|ai=>t 0=.buf 0 0 1 pre.length (ag).length∧t 1=.sl false false p1.length (ab (eI .i64) p1)∧t 2=.int .i64 p2∧t 8=.int .i64 aa∧t 9=.int .i64 ai∧t 13=.int .i64 ((p0).length:Int)∧t 14=.int .i64 aa∧H 0=some ⟨0,3,pre++(ab (eI .i64) ag++post),false,true,false⟩) (fun s=>s=aQ) ?_ ?_
   ·rintro ai t H e aE rfl;try dsimp only at O
    have U:=Nj (pre:=pre) (post:=post) (eI .i64) ah;simp only[bZ]at U;have aw:=OT (pre:=pre) (post:=post) (eI .i64) (y':=j0 .and .i64 ai 1048575) ah;simp only[bZ]at aw;have aj:=aw;simp only[putCells,List.length_cons,List.length_nil,ahr,Nat.reduceAdd]at aj;obtain⟨aV,aF,O⟩:=ae O;have aG:=vt aF;cases O;try simp only[w,seval,-Int.reduceToNat,U,aE,U,aw,aj,aG]
    apply iu;and_intros<;>first|rfl|(simp only[w,seval,-Int.reduceToNat,U,aE,U,aw,aj,aG]<;>rfl)
   ·clear O;have O:=aD;try simp only[w,seval,-Int.reduceToNat,Za,U]
    apply sp al O<;>intro _ O
    ·obtain⟨aW,aH,O⟩:=ae O;have ak:=bo (eI .i64) aH;simp only[bZ]at ak;cases O;try simp only[w,seval,-Int.reduceToNat,Za,U,ak]
     rw[an];refine⟨_,rfl,?_⟩;and_intros<;>first|rfl|(simp only[w,seval,-Int.reduceToNat,Za,U,ak]<;>rfl)
    ·cases O;try simp only[w,seval,-Int.reduceToNat,Za,U]
     rw[an];refine⟨_,rfl,?_⟩;and_intros<;>first|rfl|(simp only[w,seval,-Int.reduceToNat,Za,U]<;>rfl)
  ·cases O;try simp only[w,seval,-Int.reduceToNat,Za]
   apply jv;refine⟨rfl,?_⟩;and_intros<;>first|rfl|(simp only[w,seval,-Int.reduceToNat,Za]<;>rfl)
 ·rintro x t H e hx;rcases o9 with⟨az,Y⟩;dsimp only at hx O;obtain⟨rfl,ax⟩:=hx;try simp only[w,seval,-Int.reduceToNat,ax]
  apply sp al O<;>intro _ O
  ·cases O;try simp only[w,seval,-Int.reduceToNat,ax]
  ·try simp only[w,seval,-Int.reduceToNat,ax]
   obtain⟨aR,aI,O⟩:=ae O;refine aB (fun s t H e=>match s with|(aA,ad,ao)=>t 0=.buf 0 0 1 pre.length (ao).length∧t 1=.sl false false p1.length (ab (eI .i64) p1)∧t 2=.int .i64 p2∧t 10=.int .i64 aA∧t 48=.int .i64 ((Y).length:Int)∧t 49=.int .i64 ad∧H 0=some ⟨0,3,pre++(ab (eI .i64) ao++post),false,true,false⟩) (fun o x t H e=>match o with|aq=>x=.exit 2∧t 0=.buf 0 0 1 pre.length (aq).length∧t 2=.int .i64 p2∧H 0=some ⟨0,3,pre++(ab (eI .i64) aq++post),false,true,false⟩) aI ?_ ?_ ?_
   ·and_intros<;>first|rfl|(simp only[w,seval,-Int.reduceToNat,ax]<;>rfl)
   ·rintro⟨aA,ad,ao⟩ t H e Zd c O;simp only[ko]at O;try simp only[w,seval,-Int.reduceToNat,Zd]
    apply sp al O<;>intro _ O
    ·obtain⟨aX,ar,O⟩:=ae O;have X:=Nj (pre:=pre) (post:=post) (eI .i64) ar;simp only[bZ]at X;try simp only[w,seval,-Int.reduceToNat,Zd,X]
     obtain⟨aS,aJ,O⟩:=ae O;refine ki 0 (fun s t H e=>match s with|Z=>t 0=.buf 0 0 1 pre.length (ao).length∧t 1=.sl false false p1.length (ab (eI .i64) p1)∧t 2=.int .i64 p2∧t 10=.int .i64 Z∧t 11=.int .i64 ad∧t 48=.int .i64 ((Y).length:Int)∧t 49=.int .i64 ad∧H 0=some ⟨0,3,pre++(ab (eI .i64) ao++post),false,true,false⟩) (fun s=>s=aS) ?_ ?_
     ·rintro Z t H e aK rfl;try dsimp only at O
      have X:=Nj (pre:=pre) (post:=post) (eI .i64) ar;simp only[bZ]at X;have ay:=OT (pre:=pre) (post:=post) (eI .i64) (y':=j0 .and .i64 Z 1048575) ar;simp only[bZ]at ay;have au:=ay;simp only[putCells,List.length_cons,List.length_nil,ahr,Nat.reduceAdd]at au;obtain⟨aY,aL,O⟩:=ae O;have aM:=vt aL;cases O;try simp only[w,seval,-Int.reduceToNat,X,aK,X,ay,au,aM]
      apply iu;and_intros<;>first|rfl|(simp only[w,seval,-Int.reduceToNat,X,aK,X,ay,au,aM]<;>rfl)
     ·clear O;have O:=aJ;try simp only[w,seval,-Int.reduceToNat,Zd,X]
      apply sp al O<;>intro _ O
      ·obtain⟨aZ,aN,O⟩:=ae O;have av:=bo (eI .i64) aN;simp only[bZ]at av;cases O;try simp only[w,seval,-Int.reduceToNat,Zd,X,av]
       rw[an];refine⟨_,rfl,?_⟩;and_intros<;>first|rfl|(simp only[w,seval,-Int.reduceToNat,Zd,X,av]<;>rfl)
      ·cases O;try simp only[w,seval,-Int.reduceToNat,Zd,X]
       rw[an];refine⟨_,rfl,?_⟩;and_intros<;>first|rfl|(simp only[w,seval,-Int.reduceToNat,Zd,X]<;>rfl)
    ·cases O;try simp only[w,seval,-Int.reduceToNat,Zd]
     apply jv;refine⟨rfl,?_⟩;and_intros<;>first|rfl|(simp only[w,seval,-Int.reduceToNat,Zd]<;>rfl)
   ·rintro x t H e hx;obtain⟨aq,rfl⟩:∃z,z=aR:=⟨_,rfl⟩;dsimp only at hx O;obtain⟨rfl,aT⟩:=hx;cases O;try simp only[w,seval,-Int.reduceToNat,aT]
theorem BA:bW prog 142 oK:=bW.ad7 (mode := .clean) tok bH.none mixed func142 (by kernel_rfl) ⟨by kernel_rfl,by kernel_rfl⟩ (fun _=>ais (by kernel_rfl)) (fun pre post l x l' r h=>D5 pre post l x.1 x.2 (l',r) h)
def lX (l:Option (D×Row)) (d:List D):=dW (iD (mP (eI .i64)) (dS (mP (eI .i64)))) (fun x:(List Int)×(List Int)=>rL x.1 x.2) (fun r:(List Int)×(List Int) =>.clean (.tup [.sl false false r.1.length (ab (eI .i64) r.1),.sl false false r.2.length (ab (eI .i64) r.2)])) l d
theorem vc (O:(List Int)) (U:(List Int)):ow none [.sl false false O.length (ab (eI .i64) O),.sl false false U.length (ab (eI .i64) U)]=(nT O U).map fun r:(List Int)=>(.fresh 3 1 r.length (ab (eI .i64) r),none):=cU _ _ _ (O,U)
theorem mz (O:(List Int)):ff none [.sl false false O.length (ab (eI .i64) O)]=(ec O).map fun r:(List Int)=>(.clean (.sl false false r.length (ab (eI .i64) r)),none):=cU _ _ _ (O)
def zb:Env:=(Am.ext (Am.ext (Am.ext (Am.ext (Am.ext (Am.ext bm 88 false il) 91 false eQ) 125 false ff) 126 false ow) 141 false pP) 142 true oK)
theorem QJ:bH prog zb:=((((((bH.none.add kx false).add pz false).add nh false).add Ey false).add Kg false).add BA true)
theorem bc:type_of% (ai @w<|ai @fE<|ai @B4<|ai @eQ.eq_1<|ai @mz<|ai @vc<|ai @Wr<|ai @pP.eq_1<|@zb.eq_1):=⟨@w,@fE,@B4,@eQ.eq_1,@mz,@vc,@Wr,@pP.eq_1,@zb.eq_1⟩
end Go.Proofs.YtoioidmblipblaaGreat.Am
