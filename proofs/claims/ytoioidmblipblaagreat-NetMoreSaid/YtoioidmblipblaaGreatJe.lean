import Derived.Test.YtoioidmblipblaaGreatJd
set_option linter.unusedSimpArgs false
set_option linter.unusedVariables false
noncomputable section
open Go.Proofs.Tryz
namespace Go.Proofs.YtoioidmblipblaaGreat.Am
open Go.RowKit Go.Proofs.YtoioidmblipblaaGreat.P
def Fv {α:Type} (e:jb α):jb (List α):=⟨fun l=>[.nx l.length (ab e l)],1,fun _=>rfl,by decide,fun x y h=>by
 simp only[ahd,D.nx.injEq,and_true]at h;exact tF e _ _ h.2⟩
theorem u3 {α:Type} (e:jb α) (l:List α):(Fv e).cells l=[.nx l.length (ab e l)]:=ajU
theorem xF {α:Type} (e:jb α):(Fv e).size=1:=ajU
section
variable {α:Type} (E:jb α) {l:List α} {i:Int} {x x':α}
theorem Kk (cs:List D) (o:Nat) (d:D) (h:o<cs.length):(putCells cs o [d]).length=cs.length:=by
 simp[putCells];omega
theorem Kl (cs:List D) (o:Nat) (d O:D) (h:o<cs.length):putCells (putCells cs o [d]) o [O]=putCells cs o [O]:=by
 unfold putCells;have h1:(cs.take o).length=o:=by simp;omega
 have h2:(cs.take o++[d]++cs.drop (o+[d].length)).take o=cs.take o:=by
  rw[aid,aii (by omega),aij (by omega)]
 have h3:(cs.take o++[d]++cs.drop (o+[d].length)).drop (o+[O].length)=cs.drop (o+[O].length):=by
  rw[aie (by simp;omega),aiI (by simp;omega),aiF];rfl
 rw[h2,h3]
theorem J6 (fo:Nat) (h:P.idx l i=some x) (O:fo+1<=E.size):i.toNat*E.size+fo<(ab E l).length:=by
 have:=sc E h;rw[bN];omega
theorem YY (fo:Nat) (d U:D) (h:P.idx l i=some x) (X:E.cells x'=putCells (E.cells x) fo [U]) (O:fo+1<=E.size):putCells (putCells (ab E l) (i.toNat*E.size+fo) [d]) (i.toNat*E.size+fo) [U]=ab E (l.set i.toNat x'):=by
 rw[Kl _ _ _ _ (J6 E fo h O)];exact fK E fo [U] h X O
theorem abf (fo:Nat) (d:D) (h:P.idx l i=some x) (O:fo+1<=E.size):i.toNat*E.size+fo+1<=(putCells (ab E l) (i.toNat*E.size+fo) [d]).length:=by
 rw[Kk _ _ _ (J6 E fo h O)];exact J6 E fo h O
end
theorem IH {t s nv n o:Nat} {fz:Bool} {cs xs cs':List D} : zL t s nv fz cs o (some ⟨nv,t,cs',fz,true,false⟩) (some (.nx n xs))=[.nr t s nv (putCells cs o [.nx n cs'])]:=by
 simp[zL,Im]
theorem IG {t s nv n o:Nat} {fz:Bool} {cs xs:List D} : zL t s nv fz cs o none (some (.nx n xs))=[.nr t s nv (putCells cs o [.und])]:=ajU
theorem aa7 {α:Type} {E:jb α} {T:Nat->Option Ty} {el B ty' s f:Nat} {φ:Ty} {k:IntKind} {n:Int} {z:α} {m:List α} (Y:T el=some φ) (Z:lN φ f=E.cells z) (hs:φ.size=E.size) (hd:(φ.zero.map lO).all e8=true) (hl:φ.zero.length=φ.size) (hn:YH ((φ.zero.map lO).drop f).head? = true) (hB:φ.bytes=B) (h:HX B n n z=some m)
  : ∀(b c:Nat) (z0:List Value) (q:Bool) (e d:Nat),d<1000000->sK T ⟨.slice el,b,c,z0,q⟩ e d ty' s f (.int k n) (.int k n)=some ⟨.buf d e φ.size 0 m.length,[(d,some ⟨e,el,[.nr ty' s (4*e+2) (ab E m)],false,true,true⟩)]⟩:=by
 intro b c z0 q e d U;obtain⟨h1,h2,h3,h4,h5⟩:=mk_one E h;have O:nd (.int k n)=some n.toNat:=by simp[nd,h1]
 have X:=E.pos;unfold sK;simp only[Y,O];rw[if_pos ⟨agP _,by rw[h2];exact h3,by rw[h2,hB];exact h5,by omega,hd,hl,by rw[cr];exact U,hn⟩,Z,h2,h4]
theorem GM {k:IntKind} {n:Int} : e8 (.int k n)=true:=ajU
theorem CE {b:Bool} : e8 (.bool b)=true:=ajU
theorem GN {b:ByteArray} : e8 (.str b)=true:=ajU
theorem LY {a b:Bool} {n:Nat} {xs:List D} : e8 (.sl a b n xs)=true:=ajU
def fh {α β:Type} (A:jh α) (F:α->Option β) (R:β->Nat×Nat×Nat×Nat×Nat×List D):List D->Option (Nat×Nat×Nat×Nat×Nat×List D):=fun ds=>open Classical in if h:∃a,A.ds a=ds then (F (Classical.choose h)).map R else none
theorem YA {α β:Type} {A:jh α} {F:α->Option β} {R:β->Nat×Nat×Nat×Nat×Nat×List D} {ds:List D} {q:Nat×Nat×Nat×Nat×Nat×List D} (h:fh A F R ds=some q):∃a r,ds=A.ds a∧F a=some r∧q=R r:=by
 unfold fh at h;split at h
 ·rename_i he;rw[agN]at h;obtain⟨r,h1,h2⟩:=h;exact⟨_,r,(Classical.choose_spec he).symm,h1,h2.symm⟩
 ·cases h
structure FOk (P:Program) (f:FuncId) (p:List D->Option (Nat×Nat×Nat×Nat×Nat×List D)):Prop where
 callable:dW P f
 calls:∀args ty t s S n cs,p args=some (ty,t,s,S,n,cs)->Jk P f args ty t s S n cs
theorem FOk.of {P:Program} {T:Nat->Option Ty} {Γ:Env} (X:ic P T) (Y:bG P Γ) (hm:P.follows .mixedOrders=true) {α β:Type} {A:jh α} {F:α->Option β} {R:β->Nat×Nat×Nat×Nat×Nat×List D} {f:FuncId} {fn:Func} (U:P.funcs[f]? = some fn) (O:(match fn.body with|some c=>codeOk c|none=>true)=true)
  (Z:(fn.name == "runtime.NumGoroutine")=false∧fn.body.isNone=false) (hn:∀a,(A.ds a).length<=fn.ntmps) (h:∀a r,F a=some r->KN T Γ FU fn (A.ds a)=some (R r)):FOk P f (fh A F R) where
 callable:=⟨fn,U,Z⟩
 calls args ty t s S n cs hg:=by
  obtain⟨a,r,rfl,hr,he⟩:=YA hg;exact KO X Y hm U O (hn a) ((h a r hr).trans (by rw[he]))
def adf {α β γ:Type} (ty t s:Nat) (O:jb γ) (A:jh α) (F:γ->α->Option (γ×β)) (R:β->D):Nat->Nat->Nat->Nat->List D->List D->Option (D×List D):=fun ty' U X o cs args =>
 open Classical in if h:∃p:List D×List D×γ×α,ty'=ty∧U=t∧X=s∧cs=p.1++(O.cells p.2.2.1++p.2.1)∧o=p.1.length∧args=A.ds p.2.2.2 then
  (F (Classical.choose h).2.2.1 (Classical.choose h).2.2.2).map fun r=>(R r.2,(Classical.choose h).1++(O.cells r.1++(Classical.choose h).2.1)) else none
theorem VJ {α β γ:Type} {ty t s:Nat} {O:jb γ} {A:jh α} {F:γ->α->Option (γ×β)} {R:β->D} {ty' X Y o:Nat} {cs args:List D} {d:D} {cs':List D} (h:adf ty t s O A F R ty' X Y o cs args=some (d,cs')) :
  ty'=ty∧X=t∧Y=s∧∃pre post x a r,cs=pre++(O.cells x++post)∧o=pre.length∧args=A.ds a∧F x a=some r∧d=R r.2∧cs'=pre++(O.cells r.1++post):=by
 unfold adf at h;split at h
 ·rename_i he;obtain⟨h1,h2,h3,h4,h5,h6⟩:=Classical.choose_spec he;rw[agN]at h;obtain⟨r,Z,U⟩:=h;simp only[Prod.mk.injEq]at U;exact⟨h1,h2,h3,_,_,_,_,r,h4,h5,h6,Z,U.1.symm,U.2.symm⟩
 ·cases h
structure NOk (P:Program) (f:FuncId) (p:Nat->Nat->Nat->Nat->List D->List D->Option (D×List D)):Prop where
 callable:dW P f
 calls:∀ty t s o cs args d cs',p ty t s o cs args=some (d,cs')->Jl P f ty t s o cs args d cs'
theorem NOk.of {P:Program} {T:Nat->Option Ty} {Γ:Env} (Y:ic P T) (Z:bG P Γ) (hm:P.follows .mixedOrders=true) {α β γ:Type} {ty t s:Nat} {O:jb γ} {A:jh α} {F:γ->α->Option (γ×β)} {R:β->D} {f:FuncId} {fn:Func} (X:P.funcs[f]? = some fn) (U:(match fn.body with|some c=>codeOk c|none=>true)=true)
  (hc:(fn.name == "runtime.NumGoroutine")=false∧fn.body.isNone=false) (hn:∀a,(A.ds a).length+1<=fn.ntmps) (h:∀pre post x a x' r,F x a=some (x',r)->R4 T Γ FU fn ty t s pre.length (pre++(O.cells x++post)) (A.ds a)=some (R r,pre++(O.cells x'++post))):NOk P f (adf ty t s O A F R) where
 callable:=⟨fn,X,hc⟩
 calls ty' t' s' o cs args d cs' hg:=by
  obtain⟨rfl,rfl,rfl,pre,post,x,a,r,rfl,rfl,rfl,hr,rfl,rfl⟩:=VJ hg;exact KP Y Z hm X U (hn a) (h pre post x a r.1 r.2 hr)
theorem Hu {α:Type} {l:List α} : (ad5 l).length=l.length:=ahj ..
section
variable {pre l:List D} {k m:Nat}
end
theorem NC {τ:Ty} {h:Nat->Option Row} {x v o:Nat} : nD τ h x v o none=none:=ajU
theorem Tq {d:D} {l:List D} : (d::l).head? = some d:=ajU
theorem T6 {r:Row} {f:Row->Option Row} : (some r).bind f=f r:=ajU
theorem T5 {f:Row->Option Row} : (none:Option Row).bind f=none:=ajU
theorem LN {x o:Nat} : clP x o none=none:=ajU
theorem Lc {q:Option (List D×List Nat)} : caC none q=none:=ajU
theorem Gq {Γ:Env} {h:Nat->Option Row} {e g:Nat} {dst:Option Nat} : aaJ Γ h e dst g none=none:=ajU
theorem aam {o:Nat} {cs:List D} : mG 0 o cs=cs:=Jg o cs
theorem abI {x o n:Nat} (h:n<1000000):(NK x o=n)=False:=by
 have:=eR x o;have:=cr;exact propext ⟨fun e=>by omega,fun e=>e.elim⟩
theorem WC {x o n:Nat} (h:n<1000000):(n=NK x o)=False:=by
 have:=eR x o;have:=cr;exact propext ⟨fun e=>by omega,fun e=>e.elim⟩
theorem vn:type_of% (ai @IG<|ai @Hu<|ai @IH<|ai @abI<|ai @WC<|ai @VC.eq_1<|ai @LN<|ai @Lc<|ai @Gq<|ai @aam<|ai @T6<|ai @T5<|ai @NC<|ai @Tq<|ai @u3<|ai @GM<|ai @CE<|ai @GN<|ai @LY<|@xF):=⟨@IG,@Hu,@IH,@abI,@WC,@VC.eq_1,@LN,@Lc,@Gq,@aam,@T6,@T5,@NC,@Tq,@u3,@GM,@CE,@GN,@LY,@xF⟩
end Go.Proofs.YtoioidmblipblaaGreat.Am
namespace Go.Proofs.YtoioidmblipblaaGreat.P
def Vu {α:Type} (c:α->α->Int) (x:α):List α->List α
 | []=>[x]
 | y::l=>if c x y<=0 then x::y::l else y::Vu c x l
def nL {α:Type} (c:α->α->Int):List α->List α
 | []=>[]
 | x::l=>Vu c x (nL c l)
theorem zq {α:Type} (c:α->α->Int) (x:α):∀l:List α,(Vu c x l).Perm (x::l)
 | []=>ai0 _
 | y::l=>by
  unfold Vu;split
  ·exact ai0 _
  ·exact ((zq c x l).cons y).trans (List.Perm.swap x y l)
theorem gV {α:Type} (c:α->α->Int):∀l:List α,(nL c l).Perm l
 | []=>ai0 _
 | x::l=>(zq c x _).trans ((gV c l).cons x)
theorem mo {α:Type} (c:α->α->Int) (l:List α):(nL c l).length=l.length:=(gV c l).length_eq
structure WO {α:Type} (c:α->α->Int):Prop where
 total:∀x y,c x y<=0∨c y x<=0
 neg:∀x y,c x y<0↔0<c y x
 trans:∀x y z,c x y<=0->c y z<=0->c x z<=0
theorem AI {α:Type} {c:α->α->Int} (h:WO c) (x:α):∀l:List α,l.Pairwise (fun x y=>c x y<=0)->(Vu c x l).Pairwise (fun x y=>c x y<=0)
 | [],_=>List.pairwise_singleton _ _
 | y::l,hs=>by
  unfold Vu;obtain⟨h1,h2⟩:=aiz.1 hs;split
  ·rename_i U;refine aiz.2 ⟨fun z O =>?_,hs⟩;rcases agW.1 O with rfl|O
   ·exact U
   ·exact h.trans _ _ _ U (h1 z O)
  ·rename_i U;have X:c y x<=0:=(h.total x y).resolve_left U;refine aiz.2 ⟨fun z O =>?_,AI h x l h2⟩;rcases agW.1 ((zq c x l).mem_iff.1 O) with rfl|O
   ·exact X
   ·exact h1 z O
theorem ly {α:Type} {c:α->α->Int} (h:WO c):∀l:List α,(nL c l).Pairwise (fun x y=>c x y<=0)
 | []=>List.Pairwise.nil
 | x::l=>AI h x _ (ly h l)
theorem mR {α:Type} {c:α->α->Int} : ∀ {l m:List α},l.Perm m->(∀x∈l,∀y∈l,c x y<=0->c y x<=0->x=y)->l.Pairwise (fun x y=>c x y<=0)->m.Pairwise (fun x y=>c x y<=0)->l=m
 | [],m,O,_,_,_=>(List.Perm.nil_eq O)
 | x::l,[],O,_,_,_=>absurd O.symm (by intro h;have:=h.length_eq;simp at this)
 | x::l,y::m,O,ha,Y,hm=>by
  obtain⟨Z,l2⟩:=aiz.1 Y;obtain⟨m1,m2⟩:=aiz.1 hm;have U:x=y:=by
   by_cases he:x=y
   ·exact he
   ·have X:y∈l:=by
     have:y∈x::l:=O.mem_iff.2 air;rcases agW.1 this with h|h
     ·exact absurd h.symm he
     ·exact h
    have hx:x∈m:=by
     have:x∈y::m:=O.mem_iff.1 air;rcases agW.1 this with h|h
     ·exact absurd h he
     ·exact h
    exact ha x air y (ais _ X) (Z y X) (m1 x hx)
  subst U;rw[mR ((List.perm_cons x).1 O) (fun a h1 b h2=>ha a (ais _ h1) b (ais _ h2)) l2 m2]
open Classical in
def A0 {α:Type} (c:α->α->Int) (l:List α):Option (List α×Unit):=if l.length<4611686018427387904∧∀x∈l,∀y∈l,c x y=0->x=y then some (nL c l,()) else none
end Go.Proofs.YtoioidmblipblaaGreat.P
namespace Go.Proofs.YtoioidmblipblaaGreat.Am
open Go.RowKit Go.Proofs.YtoioidmblipblaaGreat.P
def WX (O:Bool) (us:List Value):Value:=if O then .agg us.toArray else us.getD 0 undef
def IsV {α:Type} (E:jb α) (w:World) (M:Nat->Prop) (x:α) (us:List Value):Prop:=us.length=E.size∧∀j d,(E.cells x)[j]? = some d->a8 d=true∧RP w M d (us.getD j undef)
def adQ {α:Type} (P:Program) (g:FuncId) (O:Bool) (E:jb α) (c:α->α->Int):Prop:=∀(w:World) (M:Nat->Prop) (x y:α) (U X:List Value),(∀b,M b->b<w.heap.size)->IsV E w M x U->IsV E w M y X ->
 Calls P g #[WX O U,WX O X] w fun e w'=>e=.returned (.int .i64 (c x y))∧∃q os,w'=Go.Sort.grow (w.drewN q) os
def abN (P:Program) (f g:FuncId) (Z:Bool) (k:Nat):Prop:=∀(β:Type) (_:Inhabited β) (enc:β->List Value) (O:β->β->Int),(∀x,(enc x).length=k)->(∀x,∀v∈enc x,v.oneCell'=true)->Go.Sort.SWO (ltOf O)->∀(blk off cap:Nat) (d:Array β) (w:World),
 (∀(m:Nat) (os:Array Obj) (U:Array β),U.size=d.size->∀x y:β,Calls P g #[WX Z (enc x),WX Z (enc y)] (sortWorldK enc k w blk off m U os) fun e w'=>e=.returned (.int .i64 (O x y))∧∃q X,w'=Go.Sort.grow ((sortWorldK enc k w blk off m U os).drewN q) X) ->
 Go.Sort.HoldsK enc k w blk off d->blk<w.heap.size->d.size<4611686018427387904 ->
 Calls P f #[.slice (some ⟨blk,off,none⟩) d.size cap,.func (.func g) #[] #[]] w fun e w'=>e=.returned (.tuple #[])∧∃Y n os,Go.Sort.PermIn 0 d.size d Y∧Go.Sort.SortedIn (ltOf O) 0 d.size Y∧w'=sortWorldK enc k w blk off n Y os
theorem Ta {α:Type} (E:jb α) {l:List α} {i j:Nat} {x:α} (U:l[i]? = some x) (X:j<E.size):(ab E l)[i*E.size+j]? = (E.cells x)[j]?:=by
 have h1:((ab E l).drop (i*E.size))[j]? = (ab E l)[i*E.size+j]?:=ag6;have h2:l.drop i=x::l.drop (i+1):=by
  obtain⟨O,rfl⟩:=ahi.1 U;exact aiT O
 rw[<- h1,u4,h2,bg,aht (by rw[E.len];exact X)]
section
variable {β:Type} [Inhabited β] {enc:β->List Value} {k:Nat}
theorem Km {w:World} {b off:Nat} {d:Array β} {cs:Array Value} {ty:Nat} {fr:Nat×Nat} (h:w.heap[b]? = some (.cells cs ty fr)):(Go.Sort.putRowK enc k w b off d).heap[b]? = some (.cells (Go.Sort.putCells id off (Go.Sort.flatK enc k d) cs) ty fr):=by
 simp[Go.Sort.putRowK,Go.Sort.putRow,Go.Sort.mapBlock,agZ,h,Go.Sort.onCells]
theorem Br {w:World} {b c off:Nat} {d:Array β} (h:c≠b):(Go.Sort.putRowK enc k w b off d).heap[c]? = w.heap[c]?:=by
 simp[Go.Sort.putRowK,Go.Sort.putRow,Go.Sort.mapBlock,agZ,Ne.symm h]
theorem vX {w:World} {b c off m:Nat} {d:Array β} {os:Array Obj} (O:c<w.heap.size) (h:c≠b):(sortWorldK enc k w b off m d os).heap[c]? = w.heap[c]?:=by
 unfold sortWorldK;rw[Go.Sort.heap_grow_old _ _ (by simpa [Go.Sort.putRowK,Go.Sort.ahead] using O),Br h];rfl
theorem nH {w:World} {b off m:Nat} {d:Array β} {os:Array Obj} : w.heap.size<=(sortWorldK enc k w b off m d os).heap.size:=by
 simp[sortWorldK,Go.Sort.putRowK,Go.Sort.ahead]
theorem FZ {w:World} {b off m:Nat} {d:Array β} {os:Array Obj} {cs:Array Value} {ty:Nat} {fr:Nat×Nat} (h:w.heap[b]? = some (.cells cs ty fr)):(sortWorldK enc k w b off m d os).heap[b]? = some (.cells (Go.Sort.putCells id off (Go.Sort.flatK enc k d) cs) ty fr):=by
 have O:=(agT.1 h).1;unfold sortWorldK;rw[Go.Sort.heap_grow_old _ _ (by simpa [Go.Sort.putRowK,Go.Sort.ahead] using O)];exact Km h
theorem FW {off:Nat} {d:Array β} {cs:Array Value} {j:Nat} (O:j<cs.size):(Go.Sort.putCells id off (Go.Sort.flatK enc k d) cs).getD j undef=if off<=j∧j<off+d.size*k then (enc d[(j-off) / k]!)[(j-off) % k]! else cs.getD j undef:=by
 have h1:(Go.Sort.putCells id off (Go.Sort.flatK enc k d) cs)[j]? = some (if off<=j∧j<off+d.size*k then (enc d[(j-off) / k]!)[(j-off) % k]! else cs[j]):=by
  simp only[Go.Sort.putCells,Array.getElem?_mapIdx,ah2 O,Option.map_some,Go.Sort.size_flatK];congr 1;split
  ·rename_i U;rw[Go.Sort.get_flatK _ _ _ _ (by omega)];rfl
  ·rfl
 rw[agU,h1];simp[agU,O]
end
theorem adB {α β:Type} {c:α->α->Int} (h:WO c) (f:β->α):Go.Sort.SWO (ltOf fun x y=>c (f x) (f y)) where
 irrefl x:=by
  simp only[ltOf,decide_eq_false_iff_not];intro X;have:=(h.neg _ _).1 X;omega
 trans x y z h1 h2:=by
  simp only[ltOf,decide_eq_true_eq]at h1 h2 ⊢
  by_cases h3:c (f x) (f z)<0
  ·exact h3
  ·have O:c (f z) (f x)<=0:=by
    have:=(h.neg (f z) (f x));rcases ai1 (c (f z) (f x)) 0 with q|q|q
    ·omega
    ·omega
    ·exact absurd ((h.neg (f x) (f z)).2 q) h3
   have U:=h.trans _ _ _ O (Int.le_of_lt h1);have Y:=(h.neg _ _).1 h2;omega
 ntrans x y z h1 h2:=by
  simp only[ltOf,decide_eq_false_iff_not]at h1 h2 ⊢;intro h3;have O:c (f y) (f x)<=0:=by
   by_cases q:0<c (f y) (f x)
   ·exact absurd ((h.neg _ _).2 q) h1
   ·omega
  have U:c (f z) (f y)<=0:=by
   by_cases q:0<c (f z) (f y)
   ·exact absurd ((h.neg _ _).2 q) h2
   ·omega
  have Y:=h.trans _ _ _ U O;have Z:=(h.neg _ _).1 h3;omega
theorem EB {β:Type} [Inhabited β] {d O:Array β} (h:Go.Sort.PermIn 0 d.size d O):O.toList.Perm d.toList:=by
 obtain⟨h1,-,h2⟩:=h;have e1:(d.extract 0 d.size)=d:=by simp
 have e2:(O.extract 0 d.size)=O:=by rw[<- h1];simp
 rwa [e1,e2]at h2
theorem Zp {α:Type} {E:jb α} {c:α->α->Int} {P:Program} {f g:FuncId} {fn:Func} {ag:Bool} {ty:Nat} {F:List α->Option (List α×Unit)} (hf:P.funcs[f]? = some fn) (hc:(fn.name == "runtime.NumGoroutine")=false∧fn.body.isNone=false)
  (hF:∀l,F l=A0 c l) (h0:∀p cap w,Calls P f #[.slice p 0 cap,.func (.func g) #[] #[]] w fun e w'=>e=.returned (.tuple #[])∧w'=w) (hO:WO c) (hcmp:adQ P g ag E c) (hS:abN P f g ag E.size) :
  bX P f (mkW ty E (dT (aFn g)) (fun l (_:Unit)=>F l) (fun _:Unit =>.clean (.tup []))) where
 callable:=⟨fn,hf,hc⟩
 calls lent la rk out hg:=by
  obtain⟨pre,l,post,a,l',r,rfl,rfl,hr,rfl,rfl⟩:=N5 hg;rw[hF]at hr;unfold A0 at hr
  by_cases Z:l.length<4611686018427387904∧∀x∈l,∀y∈l,c x y=0->x=y
  ·rw[if_pos Z]at hr;obtain⟨hlen,hanti⟩:=Z;obtain rfl:nL c l=l':=congrArg Prod.fst (Option.some.inj hr);intro w M go u0 vs hM aT hz aU hrow aB aa;have aL:vs = #[.func (.func g) #[] #[]]:=by
    have h1:=aa.1;have h2:=aa.2 0 (.fn g) rfl;have h3:vs.size=1:=h1;cases hv:vs.getD 0 undef<;>rw[hv]at h2<;>cases h2;apply Array.ext
    ·simp[h3]
    ·intro i i1 i2;have:i=0:=by omega
     subst this;simpa [Array.getD,h3] using hv
   subst aL
   by_cases hl:l=[]
   ·subst hl;have hu:∃p cp,u0=.slice p 0 cp:=by
     rcases aB.2 ⟨0,0,[],false,false,false⟩ rfl rfl with⟨g',o',cp,N,t,k0,k1,k2,k3,k4,k5⟩|k0
     ·exact⟨_,_,k1⟩
     ·obtain⟨_,_,A,k1⟩:=k0;exact⟨_,_,k1⟩
    obtain⟨p,cp,rfl⟩:=hu;refine (h0 p cp w).mono fun e w' ⟨he,hw⟩ =>?_;subst hw;exact⟨.tuple #[],he,⟨rfl,rfl,rfl,agP _,fun _ _ _=>rfl⟩,⟨rfl,rfl,⟨rfl,rfl⟩,fun g' ak=>rfl,hrow⟩,.tup [] [] rfl (fun j x O=>by simp at O)⟩
   ·have hk:=E.pos;have an:0<l.length:=aiO.2 hl;cases go with
    | none =>
     have aM:pre++(ab E l++post)=[]:=hrow;have:=congrArg List.length aM;rw[ah1,ah1,bN,ahg]at this;have:=Nat.mul_pos an hk;omega
    | some go =>
     obtain⟨cs,h1,h2,h3⟩:=hrow;simp only[ah1,bN]at h2;generalize au:(fun b=>M b∨sV (some go) b)=M' at h3 aa ⊢;have aC:M' go.1:=by rw[<- au];exact .inr ⟨go,rfl,rfl⟩
     have aD:go.1<w.heap.size:=(agT.1 h1).1;have av:∀b,M' b->b<w.heap.size:=by
      intro b hb;rw[<- au]at hb;rcases hb with hb|⟨g',ak,rfl⟩
      ·exact hM b hb
      ·cases ak;exact aD
     rcases aB.2 ⟨0,0,[],false,false,false⟩ rfl rfl with⟨g',o',cp,N,t,k0,k1,k2,k3,k4,k5⟩|⟨k0,_⟩;rotate_left
     ·cases k0
     cases k0;obtain⟨rfl,k6⟩:=k2 (.inl (by omega));subst k1;have aE:∀i,i<l.length->i*E.size+E.size<=l.length*E.size:=by
      intro i hi;have:=ahC E.size (show i+1<=l.length from hi)
      rwa [ahO]at this
     have U:∀i (hi:i<l.length),IsV E w M' l[i] ((List.range E.size).map fun j=>cs.getD (go.2+pre.length+(i*E.size+j)) undef):=by
      intro i hi;refine⟨by simp,fun j d O =>?_⟩;have aF:j<E.size:=by
       have:=(ahi.1 O).1
       rwa [E.len]at this
      have hd:(pre++(ab E l++post))[pre.length+(i*E.size+j)]? = some d:=by
       have:=aE i hi;rw[ahu (by omega),aif,aht (by rw[bN];omega),Ta E (ag2 hi) aF,O]
      have:=h3 _ _ hd;rw[<- aha]at this;simpa [List.getD,aF] using this
     let β:={ p:α×List Value // IsV E w M' p.1 p.2 }
     let enc:β->List Value:=fun p=>p.1.2
     let dl:List β:=List.ofFn fun i:Fin l.length=>(⟨(l[i.1],_),U i.1 i.2⟩:β)
     have ae:dl.length=l.length:=by simp[dl]
     have aG:∀i (hi:i<l.length),dl[i]? = some ⟨(l[i],_),U i hi⟩:=by
      intro i hi;simp[dl,hi]
     have aH:Inhabited β:=⟨⟨(l[0],_),U 0 an⟩⟩;have aI:dl.map (fun p=>p.1.1)=l:=by
      apply ai2;intro i
      by_cases hi:i<l.length
      ·rw[agM,aG i hi,ag2 hi];rfl
      ·rw[aix (by simp[ae];omega),aix (by omega)]
     have ah:∀x:β,(enc x).length=E.size:=fun x=>x.2.1;have aJ:∀x:β,∀v∈enc x,v.oneCell'=true:=by
      intro x v hv;obtain⟨j,O⟩:=ahb hv;have aw:=(ahi.1 O).1;rw[ah]at aw;obtain⟨p1,p2⟩:=x.2.2 j _ (ag2 (by rw[E.len];exact aw));have:x.1.2.getD j undef=v:=by simp only[ahs];rw[show x.1.2[j]? = some v from O];rfl
      rw[this]at p2;exact p2.p6 p1
     have X:∀ {m:Nat} {dk:Array β} {os:Array Obj} {d:D} {u:Value},RP w M' d u->RP (sortWorldK enc E.size w go.1 (go.2+pre.length) m dk os) M' d u:=by
      intro m dk os d u hu;refine hu.keep fun b q1 q2=>⟨agS q1 nH,q2,?_⟩;exact vX q1 (fun e=>q2 (e ▸ aC))
     have hH:Go.Sort.HoldsK enc E.size w go.1 (go.2+pre.length) dl.toArray:=by
      intro j O;simp only[Go.Sort.size_flatK,aib,ae]at O;refine⟨?_,by simp[World.frozen?,h1]⟩;have hq:j / E.size<l.length:=aiN (by rwa [ahP]);have ad:j % E.size<E.size:=ahL _ hk;have ax:j / E.size*E.size+j % E.size=j:=by rw[ahP];exact ai3 j E.size
      rw[Go.Sort.get_flatK _ _ _ _ (by simpa [ae] using O),aR h1 (j:=go.2+pre.length+j) (by omega)];have e1:(dl.toArray)[j / E.size]! = ⟨(l[j / E.size],_),U _ hq⟩:=by
       have h5:=aG _ hq;rw[getElem!_pos dl.toArray (j / E.size) (by simpa [ae] using hq)];have:=(ahi.1 h5).2;simpa using this
      rw[e1];show some _=some (((List.range E.size).map fun j'=>cs.getD (go.2+pre.length+(j / E.size*E.size+j')) undef)[j % E.size]!);rw[getElem!_pos _ _ (by simpa using ad)];simp[ax]
     have aN:=adB hO (fun p:β=>p.1.1);have ai:=hS β aH enc (fun x y=>c x.1.1 y.1.1) ah aJ aN go.1 (go.2+pre.length) cp dl.toArray w (fun m os dk aV x y=>hcmp _ M' x.1.1 y.1.1 x.1.2 y.1.2 (fun b hb=>agS (av b hb) nH) ⟨x.2.1,fun j d O=>⟨(x.2.2 j d O).1,X (x.2.2 j d O).2⟩⟩ ⟨y.2.1,fun j d O=>⟨(y.2.2 j d O).1,X (y.2.2 j d O).2⟩⟩) hH aD (by simpa [ae] using hlen);have ay:dl.toArray.size=l.length:=by simp[ae]
     rw[ay]at ai;refine ai.mono fun e w' ⟨he,Y,n,os,aj,az,hw⟩ =>?_;subst hw;have al:=EB (by rw[ay];exact aj);have ao:Y.size=l.length:=by have:=aj.1;rw[this,ay]
     have aO:Y.toList.map (fun p=>p.1.1)=nL c l:=by
      have aA:(Y.toList.map (fun p=>p.1.1)).Perm l:=by
       have:=al.map (fun p:β=>p.1.1)
       rwa [show dl.toArray.toList.map (fun p:β=>p.1.1)=l from aI]at this
      refine mR (aA.trans (gV c l).symm) (fun x hx y hy h4 h5=>hanti x (aA.mem_iff.1 hx) y (aA.mem_iff.1 hy) ?_) ?_ (ly hO l)
      ·have:=hO.neg x y;have:=hO.neg y x;omega
      ·rw[ai4];rw[ai5];intro i j hi O aP;simp only[Array.length_toList]at hi O;have:=az i j (agQ _) aP (by omega);simp only[ltOf,decide_eq_false_iff_not]at this;rw[getElem!_pos Y j (by omega),getElem!_pos Y i (by omega)]at this;simp only[Array.getElem_toList];have h6:=hO.neg Y[j].1.1 Y[i].1.1;omega
     have aq:(sortWorldK enc E.size w go.1 (go.2+pre.length) n Y os).heap[go.1]? = some (.cells (Go.Sort.putCells id (go.2+pre.length) (Go.Sort.flatK enc E.size Y) cs) ty (0,0)):=FZ h1;have ar:(Go.Sort.putCells id (go.2+pre.length) (Go.Sort.flatK enc E.size Y) cs).size=cs.size:=by simp[Go.Sort.putCells]
     refine⟨.tuple #[],he,⟨rfl,rfl,rfl,nH,fun k hk hn=>vX hk (fun e=>hn ⟨go,rfl,e⟩)⟩,⟨rfl,rfl,⟨rfl,rfl⟩,fun g' ak =>?_,?_⟩,.tup [] [] rfl (fun j x O=>by simp at O)⟩
     ·cases ak;simp[World.shape?,aq,h1,ar]
     ·refine⟨_,aq,?_,fun j d O =>?_⟩
      ·simp only[ah1,bN,mo,ar];exact h2
      ·have aw:j<pre.length+(l.length*E.size+post.length):=by
        have:=(ahi.1 O).1;simpa [bN,mo] using this
       show _∧RP _ (fun b=>M b∨sV (some go) b) d _;rw[au,FW (by omega),ao]
       by_cases aQ:pre.length<=j∧j<pre.length+l.length*E.size
       ·rw[if_pos (by omega)];have e1:go.2+j-(go.2+pre.length)=j-pre.length:=by omega
        rw[e1];have hq:(j-pre.length) / E.size<l.length:=aiN (by rw[ahP];omega);have ad:(j-pre.length) % E.size<E.size:=ahL _ hk;have ax:(j-pre.length) / E.size*E.size+(j-pre.length) % E.size=j-pre.length:=by rw[ahP];exact ai3 _ _
        rw[ahu aQ.1,aht (by rw[bN,mo];omega),<- ax,<- aO,Ta E (x:=(Y[(j-pre.length) / E.size]!).1.1) (by
         rw[agM,ag2 (by simpa [ao] using hq),getElem!_pos Y _ (by omega)];simp) ad]at O
        obtain⟨p1,p2⟩:=(Y[(j-pre.length) / E.size]!).2.2 _ _ O;refine⟨p1,X ?_⟩;have e2:(enc Y[(j-pre.length) / E.size]!)[(j-pre.length) % E.size]! = (Y[(j-pre.length) / E.size]!).1.2.getD ((j-pre.length) % E.size) undef:=by
         rw[getElem!_pos _ _ (by rw[ah];exact ad)];simp only[ahs];rw[ag2 (by have:=(Y[(j-pre.length) / E.size]!).2.1;omega)];rfl
        rw[e2];exact p2
       ·rw[if_neg (by omega)];have aK:(pre++(ab E l++post))[j]? = some d:=by
         by_cases aS:j<pre.length
         ·rw[aht aS]at O ⊢;exact O
         ·rw[ahu (by omega),ahu (by rw[bN,mo];omega),bN,mo]at O;rw[ahu (by omega),ahu (by rw[bN];omega),bN];exact O
        exact⟨(h3 j d aK).1,X (h3 j d aK).2⟩
  ·rw[if_neg Z]at hr;cases hr
end Go.Proofs.YtoioidmblipblaaGreat.Am
namespace Go.Proofs.YtoioidmblipblaaGreat.P
def jg {α:Type} (f g:α->Int) (x y:α):Int:=if Go.Lib.compareInt (f x) (f y)≠0 then Go.Lib.compareInt (f x) (f y) else Go.Lib.compareInt (g x) (g y)
theorem zR {α:Type} {f g:α->Int} {x y:α} : jg f g x y<0↔f x<f y∨(f x=f y∧g x<g y):=by
 unfold jg Go.Lib.compareInt
 repeat' split
 all_goals omega
theorem zS {α:Type} {f g:α->Int} {x y:α} : 0<jg f g x y↔f y<f x∨(f x=f y∧g y<g x):=by
 unfold jg Go.Lib.compareInt
 repeat' split
 all_goals omega
theorem uv {α:Type} {f g:α->Int} {x y:α} : jg f g x y<=0↔f x<f y∨(f x=f y∧g x<=g y):=by
 have h1:=@zR α f g x y;have h2:=@zS α f g x y;omega
theorem RE {α:Type} {f g:α->Int} {x y:α} : jg f g x y=0↔f x=f y∧g x=g y:=by
 have h1:=@zR α f g x y;have h2:=@zS α f g x y;omega
theorem rm {α:Type} (f g:α->Int):WO (jg f g) where
 total x y:=by rw[uv,uv];omega
 neg x y:=by rw[zR,zS];omega
 trans x y z h1 h2:=by rw[uv]at *;omega
end Go.Proofs.YtoioidmblipblaaGreat.P
namespace Go.Proofs.YtoioidmblipblaaGreat.Am
open Go.RowKit Go.Lib Go.Sort Go.Shelf Go.Proofs.YtoioidmblipblaaGreat.P
theorem aba (x:Int) (w:World):Calls prog 118 #[.int .i64 x] w fun e w'=>e=.returned (.bool false)∧w'=w:=by
 go_enter func118,ntmps118
 go_wp2
 go_ret
 exact⟨by simp,rfl⟩
theorem LV (x y:Int) (w:World):Calls prog 76 #[.int .i64 x,.int .i64 y] w fun e w'=>e=.returned (.int .i64 (Lib.compareInt x y))∧w'=w:=by
 go_enter func76,ntmps76
 go_wp2_with (go_at_call 118;refine (aba _ _).mono ?_;rintro e w' ⟨rfl,hw⟩;rw[hw])
 all_goals (go_ret;refine⟨?_,rfl⟩;unfold Lib.compareInt;(repeat' split)<;>first|rfl|(exfalso;omega))
theorem adl (b off cap:Nat) (x y r:Int) (hr:r=if x≠0 then x else y) (w:World) (h0:w.cell? ⟨b,off,none⟩=some (.int .i64 x)) (h1:w.cell? ⟨b,off+1,none⟩=some (.int .i64 y)):Calls prog 75 #[.slice (some ⟨b,off,none⟩) 2 cap] w fun e w'=>e=.returned (.int .i64 r)∧w'=w:=by
 go_enter func75,ntmps75
 go_wp2
 refine wp_loop_rounds 3 ?_;repeat any_goals (rw[rounds_succ];go_wp2)
 all_goals (go_ret;refine⟨?_,rfl⟩;subst hr;simp_all)
theorem Fk (W:World) (A B:Obj) (q:Nat):({ ((W.alloc A).alloc B) with drawn:=q } : World).heap[W.heap.size]? = some A∧({ ((W.alloc A).alloc B) with drawn:=q } : World).heap[W.heap.size+1]? = some B:=by
 constructor
 ·show ((W.heap.push A).push B)[W.heap.size]? = some A;simp[Array.getElem?_push]
 ·show ((W.heap.push A).push B)[W.heap.size+1]? = some B;rw[Array.getElem?_push,if_pos (by simp)]
theorem WW (w:World) (x y:Value) (t:TypeId):(w.alloc (.cells #[x,y] t)).cell? ⟨w.heap.size,0,none⟩=some x∧(w.alloc (.cells #[x,y] t)).cell? ⟨w.heap.size,0+1,none⟩=some y:=by
 have h:(w.alloc (.cells #[x,y] t)).heap[w.heap.size]? = some (.cells #[x,y] t):=by
  show (w.heap.push _)[w.heap.size]? = _;simp
 exact⟨aR h (j:=0) (by simp),aR h (j:=0+1) (by simp)⟩
theorem aae (W:World) (A B:Obj):({ ((W.alloc A).alloc B) with drawn:=((W.alloc A).alloc B).drawn+1 } : World)=grow (W.drewN 1) #[A,B]:=by
 rw[alloc_eq_grow,alloc_eq_grow,grow_grow];rfl
theorem OR {P:Program} {id:Nat} {Q:Exit->Act->World->Prop} {a:Act} {w O:World} {l:List Oper} (n:Nat) (hw:O = { w with drawn:=w.drawn+1 }) (hm:P.follows .mixedOrders=true) (U:Region.lexTailB .any l.toArray n=true)
  (h:wpStill P l.toArray O (fun X=>wpList P l.toArray Q (l.drop n) X O) (l.take n) a):(Code.region id l.toArray true).wp P Q a w:=by
 subst hw;exact wp_region_still_tail n hm U h
set_option maxRecDepth 100000 in
theorem K7 (f1 t1 f2 t2:Int) (a b c d a' b' c' d':Value) (W:World) (h1:∀v∈[a,b,c,d],v.oneCell'=true) (h2:∀v∈[a',b',c',d'],v.oneCell'=true) :
  Calls prog 43 #[.agg #[.int .i64 f1,.int .i64 t1,a,b,c,d],.agg #[.int .i64 f2,.int .i64 t2,a',b',c',d']] W fun e w'=>e=.returned (.int .i64 (if Lib.compareInt f1 f2≠0 then Lib.compareInt f1 f2 else Lib.compareInt t1 t2))∧∃q os',w'=grow (W.drewN q) os':=by
 have hcon:=fun x y W'=>LV x y W';have hor:=fun b off cap x y r hr W' h0 h1=>adl b off cap x y r hr W' h0 h1;generalize hr:(if Lib.compareInt f1 f2≠0 then Lib.compareInt f1 f2 else Lib.compareInt t1 t2)=r;obtain⟨w1,hw1⟩:∃w1:World,w1 = { ((W.alloc (Obj.cells #[.int .i64 f1,.int .i64 t1,a,b,c,d] 65)).alloc (Obj.cells #[.int .i64 f2,.int .i64 t2,a',b',c',d'] 65)) with drawn:=((W.alloc (Obj.cells #[.int .i64 f1,.int .i64 t1,a,b,c,d] 65)).alloc (Obj.cells #[.int .i64 f2,.int .i64 t2,a',b',c',d'] 65)).drawn+1 }:=⟨_,rfl⟩;have hg:∃q os,w1=grow (W.drewN q) os:=⟨_,_,hw1.trans (aae _ _ _)⟩;have hA:w1.heap[W.heap.size]? = some (Obj.cells #[.int .i64 f1,.int .i64 t1,a,b,c,d] 65):=by rw[hw1];exact (Fk _ _ _ _).1
 have hB:w1.heap[W.heap.size+1]? = some (Obj.cells #[.int .i64 f2,.int .i64 t2,a',b',c',d'] 65):=by rw[hw1];exact (Fk _ _ _ _).2
 have c1:w1.cell? ⟨W.heap.size,0,none⟩=some (.int .i64 f1):=aR hA (j:=0) (by simp);have c2:w1.cell? ⟨W.heap.size,1,none⟩=some (.int .i64 t1):=aR hA (j:=1) (by simp);have c3:w1.cell? ⟨W.heap.size+1,0,none⟩=some (.int .i64 f2):=aR hB (j:=0) (by simp);have c4:w1.cell? ⟨W.heap.size+1,1,none⟩=some (.int .i64 t2):=aR hB (j:=1) (by simp);clear hA hB
 go_enter func43,ntmps43
 go_wp2
 refine OR 10 hw1 (by kernel_rfl) (by kernel_rfl) ?_;clear hw1;simp only[List.take_succ_cons,List.take_zero,aiR,aik]
 iterate 4 still_step
 still_call (hcon _ _ _)
 iterate 4 still_step
 still_call (hcon _ _ _)
 apply wpStill_nil;generalize Lib.compareInt f1 f2=r1 at *;generalize Lib.compareInt t1 t2=r2 at *
 go_wp2_with (go_at_call 75;refine (hor _ _ _ _ _ _ hr.symm _ (WW _ _ _ _).1 (WW _ _ _ _).2).mono ?_;rintro e w' ⟨rfl,rfl⟩)
 go_ret
 obtain⟨q,os,hq⟩:=hg;exact⟨rfl,q,_,by rw[hq,alloc_eq_grow,grow_grow]⟩
theorem Zk {α:Type} {E:jb α} (h6:E.size=6) {f g:α->Int} (h0:∀x,(E.cells x)[0]? = some (.int .i64 (f x))) (h1:∀x,(E.cells x)[1]? = some (.int .i64 (g x))) {w:World} {M:Nat->Prop} {x:α} {us:List Value} (h:IsV E w M x us) :
  ∃a b c d,us=[.int .i64 (f x),.int .i64 (g x),a,b,c,d]∧∀v∈[a,b,c,d],v.oneCell'=true:=by
 obtain⟨X,U⟩:=h;rw[h6]at X
 match us,X with
 | [a0,Y,a2,a3,a4,a5],_ =>
  have e0:a0=.int .i64 (f x):=by
   have:=(U 0 _ (h0 x)).2;simp at this;cases this;rfl
  have e1:Y=.int .i64 (g x):=by
   have:=(U 1 _ (h1 x)).2;simp at this;cases this;rfl
  have hlen:=E.len x;rw[h6]at hlen;have O:∀j,j<6->([a0,Y,a2,a3,a4,a5].getD j undef).oneCell'=true:=fun j hj=>by
   obtain⟨p1,p2⟩:=U j _ (ag2 (by omega));exact p2.p6 p1
  subst e0 e1;refine⟨a2,a3,a4,a5,rfl,fun v Z =>?_⟩;simp only[agW,ahY,or_false]at Z;rcases Z with rfl|rfl|rfl|rfl
  ·exact O 2 (by decide)
  ·exact O 3 (by decide)
  ·exact O 4 (by decide)
  ·exact O 5 (by decide)
theorem U4 {α:Type} {E:jb α} (h6:E.size=6) {f g:α->Int} (O:∀x,(E.cells x)[0]? = some (.int .i64 (f x))) (h1:∀x,(E.cells x)[1]? = some (.int .i64 (g x))):adQ prog 43 true E (jg f g):=by
 intro w M x y ux uy hM U X;obtain⟨a,b,c,d,rfl,p⟩:=Zk h6 O h1 U;obtain⟨Y,Z,c',d',rfl,q⟩:=Zk h6 O h1 X;exact K7 _ _ _ _ a b c d Y Z c' d' w p q
theorem V4 {P:Program} {ρ:Go.Shelf.Ren} (L:SlLaysF0.n6 P ρ) {k g:Nat} (Y:∀w,(isAgg (ρ.t 24)).run P w=.ok true w) (Z:∀w,(Go.sizeOf (ρ.t 24)).run P w=.ok k w) (eg:∀args w,(callFunc g args).run P w=.ok (.enter g args) w):abN P (ρ.f 6) g true k :=
 fun β aa enc cf hk h1 hO blk off cap d w O hH hblk U=>AnyQ.slices_SortFunc L k Y Z enc hk h1 cf hO g #[] blk off cap d w eg (fun m os dk X x y=>by simpa [WX] using O m os dk X x y) hH hblk U
theorem Kh {α:Type} {E:jb α} (h6:E.size=6) {f g:α->Int} (O:∀x,(E.cells x)[0]? = some (.int .i64 (f x))) (h1:∀x,(E.cells x)[1]? = some (.int .i64 (g x))) (ty:Nat) :
  bX prog 42 (mkW ty E (dT (aFn 43)) (fun l (_:Unit)=>A0 (jg f g) l) (fun _:Unit =>.clean (.tup []))) :=
 Zp (F:=A0 (jg f g)) func42 ⟨rfl,rfl⟩ (fun _=>rfl) (fun p cap w=>AnyF.slices_SortFunc_none Tryz.Zq p cap _ w) (rm f g) (U4 h6 O h1)
  (by rw[h6];exact V4 Tryz.Zq isAgg65 sizeOf65 (enters_of func43 (by kernel_rfl) rfl))
end Go.Proofs.YtoioidmblipblaaGreat.Am
namespace Go.Proofs.YtoioidmblipblaaGreat.Am
open Go.RowKit Go.Proofs.YtoioidmblipblaaGreat.P
def kq:Nat->Code->Code
 | 0,.seq a _=>a
 | k+1,.seq a b =>.seq a (kq k b)
 | _,c=>c
def zQ:Nat->Code->Code
 | 0,.seq _ b=>b
 | k+1,.seq _ b=>zQ k b
 | _,_ =>.skip
def spine:Nat->Code->Bool
 | 0,.seq _ _=>true
 | k+1,.seq _ b=>spine k b
 | _,_=>false
def Xb (fn:Func):Code:=match fn.body with|some c=>c|none =>.skip
theorem JR (a b:Code):kq 0 (.seq a b)=a:=rfl
theorem JQ (k:Nat) (a b:Code):kq (k+1) (.seq a b)=.seq a (kq k b):=rfl
section
variable {P:Program} {T:Nat->Option Ty} {N:Nat} {M:Nat->Prop} {L:jc} {w0:World} {Γ:Env}
theorem AH (hT:ic P T) (hΓ:bG P Γ) (hm:P.follows .mixedOrders=true) {F:Nat} {Q:Exit->Act->World->Prop} : ∀(k:Nat) (c:Code) (s:St) (x:Ex) (Y:St) (a:Act) (w:World),spine k c=true->fR T Γ N F (kq k c) s=some (x,Y)->codeOk (kq k c)=true->Holds N M L w0 s a w ->
  (x=.normal->∀U w',Holds N M L w0 Y U w'->(zQ k c).wp P Q U w')->(x ≠ .normal->∀U w',Holds N M L w0 Y U w'->Q (Df x) U w')->c.wp P Q a w
 | 0,.seq b c,s,x,Y,a,w,_,Z,X,hH,h1,h2=>by
  refine wp_seq (iE hT hΓ hm b s x Y _ a w Z X hH fun U w' O =>?_);cases x with
  | normal=>exact h1 rfl U w' O
  | exit n=>exact h2 (by intro h;cases h) U w' O
  | ret=>exact h2 (by intro h;cases h) U w' O
 | k+1,.seq b c,s,x,Y,a,w,hs,Z,X,hH,h1,h2=>by
  simp only[kq,codeOk,ahq]at X;simp only[kq,fR,adH]at Z;apply wp_seq;split at Z
  ·rename_i s1 aa;exact iE hT hΓ hm b s .normal s1 _ a w aa X.1 hH fun U w' O=>AH hT hΓ hm k c s1 x Y U w' hs Z X.2 O h1 h2
  ·rename_i r hne;refine iE hT hΓ hm b s x Y _ a w Z X.1 hH fun U w' O =>?_;cases x with
   | normal=>exact absurd Z (fun h=>hne Y h)
   | exit n=>exact h2 (by intro h;cases h) U w' O
   | ret=>exact h2 (by intro h;cases h) U w' O
end
def wz (T:Nat->Option Ty) (rs:List ResultVar) (r:RK×Option Row) (J:(Nat->D)->(Nat->Option Row)->Nat->Prop):Kt:=fun x t h e =>
 match x with
 | .normal=>J t h e
 | .ret=>fF .clean T none rs ⟨t,EH h,e⟩=some r
 | .exit _=>False
section
variable {T:Nat->Option Ty} {Γ:Env} {n F k:Nat} {rs:List ResultVar} {r:RK×Option Row} {J:(Nat->D)->(Nat->Option Row)->Nat->Prop} {t:Nat->D} {h:Nat->Option Row} {e:Nat}
theorem FH:wz T rs r J .normal t h e=J t h e:=ajU
theorem Dk:wz T rs r J .ret t h e=(fF .clean T none rs ⟨t,EH h,e⟩=some r):=ajU
def R3 (T:Nat->Option Ty) (Γ:Env) (F k:Nat) (fn:Func) (args:List D) (K:Kt):Prop:=∃c,fn.body=some c∧∃x s,fR T Γ fn.ntmps F (kq k c) (bZ none args)=some (x,s)∧K x s.t s.h s.e
theorem Wn {fn:Func} {c:Code} {args:List D} (O:fn.body=some c) (U:fn.ntmps=n) (X:fn.results=rs.toArray) (hw:de T Γ n F [.code (kq k c)] (wz T rs r J) .normal (FA args) TR 0):R3 T Γ F k fn args (wz T fn.results.toList r J):=by
 obtain⟨x,s,h1,h2⟩:=KQ _ _ _ _ _ (show PT T Γ n F (kq k c) (FA args) TR 0 (wz T rs r J) from hw);refine⟨c,O,x,s,?_,?_⟩
 ·rw[U];exact h1
 ·rw[X];exact h2
end
section
variable {P:Program} {T:Nat->Option Ty} {Γ:Env}
theorem Pu {n:Nat} {args:List D} {w:World} {M:Nat->Prop} {vs:Array Value} (hM:∀b,M b->b<w.heap.size) (O:xg w M args vs) (hn:args.length<=n) (Y:n<=PK):Holds n M none w (bZ none args) { tmps:=vs++Array.replicate (n-vs.size) undef,defers:=[] } w:=by
 have hI:Inv n M none w (fun _=>none) (fun x v=>x<n∧v<0) (bZ none args).t (bZ none args).h { tmps:=vs++Array.replicate (n-vs.size) undef,defers:=[] } w:={
  tab:=fun b U=>(O.tab b U).less fun b U=>by
   rcases U with U|⟨x,r,g,X,_⟩
   ·exact U
   ·cases X
  below:=ey.refl _ _
  mlt:=hM
  lent:=fun b U=>absurd U pQ
  pin:=fun go hg=>by cases hg
  defers:=rfl
  tsz:=by have:=O.1;simp;omega
  slots:=fun i=>by
   simp only[bZ];rcases ur (n:=n) (i:=i) O.1 with he|he
   ·rw[he]
    by_cases Z:i<args.length
    ·have h1:=O.2 i _ (ag2 Z);have e1:args.getD i .und=args[i]:=by simp[List.getD,Z]
     rw[e1];exact bA (h1.less fun b U=>by
      rcases U with U|⟨x,r,g,X,_⟩
      ·exact U
      ·cases X)
    ·have e1:args.getD i .und=.und:=by simp[List.getD,aix (aiD Z)]
     rw[e1];trivial
   ·rw[he];trivial
  rows:=fun x r X=>by cases X
  inj:=fun x y r s g g' X=>by cases X
  big:=Y
  pha:=fun y r g hy=>by cases hy
  ali:=fun y r g hy=>by cases hy }
 exact⟨_,⟨(by rw[BZ (fun k r hk=>by cases hk)];exact hI.weaken fun x v X=>absurd X.2 (Nat.not_lt_zero _)),fun x r ty s nv cs X=>by cases X⟩⟩
theorem Hi (hT:ic P T) {fn:Func} {M:Nat->Prop} {w w':World} {s:St} {a':Act} {rk:RK} (hH:Holds fn.ntmps M none w s a' w') (U:fF .clean T none fn.results.toList ⟨s.t,EH s.h,s.e⟩=some (rk,none)) :
  a'.defers=[]∧∃v,(results fn a'.tmps).run P w'=.ok v w'∧(∃v',Ending.returned v=.returned v'∧Below w.heap.size w w'∧s6 w w' M (fun _=>False) v' rk):=by
 obtain⟨blk',aa⟩:=hH;obtain⟨sE,X⟩:∃sE:St,sE=⟨s.t,EH s.h,s.e⟩:=⟨_,rfl⟩;have O:Inv fn.ntmps M none w blk' (VE fn.ntmps s.e [] s.h) sE.t sE.h a' w':=by rw[X];exact aa.inv
 rw[<- X]at U;have Y:Below w.heap.size w w':=O.below.below (fun b hb=>absurd hb pQ);refine⟨O.defers,?_⟩;simp only[fF,pc,jE]at U;split at U<;>try (cases U;done)
 rename_i ds fr o Z ho;split at U<;>try (cases U;done)
 simp only[agY,Prod.mk.injEq]at U;obtain⟨rfl,_⟩:=U;obtain⟨v,ab,ad⟩:=qk (P:=P) hT O Z (O.acj fr);exact⟨v,ab,v,rfl,Y,ad⟩
def KZ (P:Program) (fn:Func) (c:Code) (rk:RK) (J:(Nat->D)->(Nat->Option Row)->Nat->Prop):Prop:=∀(w0:World) (M:Nat->Prop) (s:St) (a:Act) (w:World),J s.t s.h s.e->Holds fn.ntmps M none w0 s a w ->
 c.wp P (bodyPost P fn fun e w'=>∃v,e=.returned v∧Below w0.heap.size w0 w'∧s6 w0 w' M (fun _=>False) v rk) a w
theorem bX.front (Z:ic P T) (hΓ:bG P Γ) (hm:P.follows .mixedOrders=true) {α β:Type} {A:jh α} {F:α->Option β} {R:β->RK} {f:FuncId} {fn:Func} {c:Code} {k:Nat} {J:β->(Nat->D)->(Nat->Option Row)->Nat->Prop} (hf:P.funcs[f]? = some fn) (hb:fn.body=some c) (O:(codeOk (kq k c)&&spine k c)=true)
  (hc:(fn.name == "runtime.NumGoroutine")=false∧fn.body.isNone=false) (hn:∀a,(A.ds a).length<=fn.ntmps) (Y:fn.ntmps<=1000000) (h:∀a r,F a=some r->R3 T Γ FU k fn (A.ds a) (wz T fn.results.toList (R r,none) (J r))) (ht:∀r,KZ P fn (zQ k c) (R r) (J r)):bX P f (dV A F R) where
 calls lent la rk out hg:=by
  obtain⟨rfl,rfl,a,r,rfl,hr,rfl⟩:=qY hg;rw[ahq]at O;intro w M vs hM U;obtain⟨c',X,x,s,h1,h2⟩:=h a r hr;rw[hb]at X;cases X;apply calls_of_wp hf hb;refine AH Z hΓ hm k c (bZ none (A.ds a)) x s _ _ O.2 h1 O.1 (Pu hM U (hn a) (by rw[cr];exact Y)) ?_ ?_
  ·rintro rfl a' w' hH;exact ht r w M s a' w' h2 hH
  ·intro hx a' w' hH;cases x with
   | normal=>exact absurd rfl hx
   | exit n=>exact h2.elim
   | ret=>exact Hi Z hH h2
 callable:=⟨fn,hf,hc⟩
end
end Go.Proofs.YtoioidmblipblaaGreat.Am
namespace Go.Proofs.YtoioidmblipblaaGreat.P
open Go.RowKit
structure aB where
 aj:Int
 aa:(List Int)
structure aw where
 cv:aB
 cu:aB
structure fQ where
 bT:Int
 aN:Int
structure bJ where
 cq:Int
 iH:Int
 ef:aw
structure fA where
 aA:Int
 aK:(List bJ)
structure Sp where
 Qx:Int
 acY:Int
structure fI where
 bl:Int
 aQ:Int
 aN:Int
structure s7 where
 bl:Int
 aQ:Int
 aN:Int
 Dh:ByteArray
structure fH where
 al:(List fI)
 aJ:(List s7)
 aD:(List (List aw))
structure bY where
 ao:fH
 a7:(List fQ)
 aA:(List Int)
structure bC where
 ah:(List Int)
 au:(List bY)
def ui (U:(List Int)):(Int)->Option ((Int)⊕((Int)))
 | O =>
  if decide (O>0) then
   (P.idx U (IntKind.i64.wrap (O-1))).bind fun X =>
   if (X==0) then
    some (.inl (IntKind.i64.wrap (O-1)))
   else
    some (.inr O)
  else
   some (.inr O)
def gL (U:(List Int)):Option ((List Int)) :=
 (aS (ui U) (U.length:Int)).bind fun O =>
 (BA U 0 O).bind fun X =>
 (lf 8 [] X).bind fun _ =>
 some X
def fb (U:Int) (X:(List Int)):Option (aB) :=
 (gL X).bind fun O =>
 if ((O.length:Int)==0) then
  some (aB.mk 0 ([]))
 else
  some (aB.mk U O)
def vg:(Int×(List Int))->Option ((Int×(List Int))⊕(((List Int))))
 | (O,U) =>
  if (O != 0) then
   (xY .i64 O 1048576).bind fun X =>
   if decide (X<0) then
    (lf 8 U [IntKind.i64.wrap (0-X)]).bind fun Y =>
    (yP .i64 O 1048576).bind fun Z =>
    some (.inl (Z,Y))
   else
    (lf 8 U [X]).bind fun aa =>
    (yP .i64 O 1048576).bind fun ab =>
    some (.inl (ab,aa))
  else
   some (.inr U)
def uh (X:Int):Option (aB) :=
 if (X==0) then
  some (aB.mk 0 ([]))
 else
  (if decide (X<0) then
   some (-1)
  else
   some 1).bind fun O =>
  (aS (vg) (X,[])).bind fun U =>
  (fb O U).bind fun Y =>
  some Y
def oh (U:aB):(Int)->Option ((Int)⊕((Unit)⊕(Bool)))
 | O =>
  if decide (O<(U.aa.length:Int)) then
   (P.idx U.aa O).bind fun X =>
   if decide (X<0) then
    some (.inr (.inr false))
   else
    if decide (X>=1048576) then
     some (.inr (.inr false))
    else
     some (.inl (IntKind.i64.wrap (O+1)))
  else
   some (.inr (.inl ()))
def cW (O:aB):Option (Bool) :=
 (aS (oh O) 0).bind fun q=>match q with
 | (.inl _) =>
  (if decide (O.aj<(-1)) then
   some true
  else
   if decide (O.aj>1) then
    some true
   else
    some (!(((O.aa.length:Int)==0)==(O.aj==0)))).bind fun U =>
  if U then
   some false
  else
   if ((O.aa.length:Int)==0) then
    some true
   else
    (P.idx O.aa (IntKind.i64.wrap ((O.aa.length:Int)-1))).bind fun X =>
    some (X != 0)
 | (.inr Y) =>
  some Y
def qf (O:aB):Option (aB) :=
 (cW O).bind fun U =>
 if (!U) then
  some (aB.mk 0 ([]))
 else
  (fb (IntKind.i64.wrap (0-O.aj)) O.aa).bind fun X =>
  some X
def iw (O:(List Int)) (U:Int):Option (Int) :=
 if decide (U<(O.length:Int)) then
  (P.idx O U).bind fun X =>
  some X
 else
  some 0
def ou (p0:(List Int)) (p1:(List Int)) (U:Int):(Int×Int×(List Int))->Option ((Int×Int×(List Int))⊕(((List Int))))
 | (X,O,Y) =>
  (if decide (O<(p1.length:Int)) then
   some true
  else
   some (decide (X>0))).bind fun Z =>
  if Z then
   (P.idx Y (IntKind.i64.wrap (U+O))).bind fun aa =>
   (P.idx p0 U).bind fun ab =>
   (iw p1 O).bind fun ad =>
   (xY .i64 (IntKind.i64.wrap ((IntKind.i64.wrap (aa+(IntKind.i64.wrap (ab*ad))))+X)) 1048576).bind fun ae =>
   (yP .i64 (IntKind.i64.wrap ((IntKind.i64.wrap (aa+(IntKind.i64.wrap (ab*ad))))+X)) 1048576).bind fun ag =>
   some (.inl (ag,IntKind.i64.wrap (O+1),(Y.set (IntKind.i64.wrap (U+O)).toNat ae)))
  else
   some (.inr Y)
def ot (Y:(List Int)) (Z:(List Int)):(Int×(List Int))->Option ((Int×(List Int))⊕(((List Int))))
 | (O,U) =>
  if decide (O<(Y.length:Int)) then
   (aS (ou Y Z O) (0,0,U)).bind fun X =>
   some (.inl (IntKind.i64.wrap (O+1),X))
  else
   some (.inr U)
def jR (U:(List Int)) (X:(List Int)):Option ((List Int)) :=
 (HX 8 (IntKind.i64.wrap ((U.length:Int)+(X.length:Int))) (IntKind.i64.wrap ((U.length:Int)+(X.length:Int))) 0).bind fun Z =>
 (aS (ot U X) (0,Z)).bind fun O =>
 (gL O).bind fun Y =>
 some Y
def qg (Y:(List Int)) (Z:(List Int)):(Int)->Option ((Int)⊕((Unit)⊕(Bool)))
 | O =>
  if decide (O>=0) then
   (iw Y O).bind fun U =>
   (iw Z O).bind fun X =>
   if (U != X) then
    some (.inr (.inr (decide (U<X))))
   else
    some (.inl (IntKind.i64.wrap (O-1)))
  else
   some (.inr (.inl ()))
def nn (O:(List Int)) (U:(List Int)):Option (Bool) :=
 (aS (qg O U) (IntKind.i64.wrap ((if (U.length:Int)>(O.length:Int) then (U.length:Int) else (O.length:Int))-1))).bind fun q=>match q with
 | (.inl _) =>
  some false
 | (.inr X) =>
  some X
def oo (p0:(List Int)) (p1:(List Int)):(Int×Int×(List Int))->Option ((Int×Int×(List Int))⊕(((List Int))))
 | (U,O,X) =>
  if decide (O<(p0.length:Int)) then
   (P.idx p0 O).bind fun Y =>
   (iw p1 O).bind fun Z =>
   if decide ((IntKind.i64.wrap ((IntKind.i64.wrap (Y-Z))-U))<0) then
    (lf 8 X [IntKind.i64.wrap ((IntKind.i64.wrap ((IntKind.i64.wrap (Y-Z))-U))+1048576)]).bind fun aa =>
    some (.inl (1,IntKind.i64.wrap (O+1),aa))
   else
    (lf 8 X [IntKind.i64.wrap ((IntKind.i64.wrap (Y-Z))-U)]).bind fun ab =>
    some (.inl (0,IntKind.i64.wrap (O+1),ab))
  else
   some (.inr X)
def jQ (X:(List Int)) (Y:(List Int)):Option ((List Int)) :=
 (aS (oo X Y) (0,0,[])).bind fun O =>
 (gL O).bind fun U =>
 some U
def np (p1:(List Int)) (Y:(List Int)):(Int×Int)->Option ((Int×Int)⊕((Int)))
 | (U,O) =>
  if decide ((IntKind.i64.wrap (O-U))>1) then
   (yP .i64 (IntKind.i64.wrap (U+O)) 2).bind fun X =>
   (jR p1 ([X])).bind fun Z =>
   (nn Y Z).bind fun aa =>
   if aa then
    some (.inl (U,X))
   else
    some (.inl (X,O))
  else
   some (.inr U)
def qh (p0:(List Int)) (p1:(List Int)):((List Int)×Int×(List Int))->Option (((List Int)×Int×(List Int))⊕(((List Int)×(List Int))))
 | (Y,O,X) =>
  if decide (O>=0) then
   (P.idx p0 O).bind fun aa =>
   (lf 8 [aa] Y).bind fun ab =>
   (gL ab).bind fun Z =>
   (aS (np p1 Z) (0,1048576)).bind fun U =>
   (P.idx X O).bind fun ah =>
   (gL ([U])).bind fun ad =>
   (jR p1 ad).bind fun ae =>
   (jQ Z ae).bind fun ag =>
   some (.inl (ag,IntKind.i64.wrap (O-1),(X.set (O).toNat U)))
  else
   some (.inr (Y,X))
def pB (X:(List Int)) (Z:(List Int)):Option ((List Int)×(List Int)) :=
 (HX 8 (X.length:Int) (X.length:Int) 0).bind fun x1 =>
 (aS (qh X Z) ([],IntKind.i64.wrap ((X.length:Int)-1),x1)).bind fun q=>match q with
 | (O,U) =>
  (gL U).bind fun Y =>
  some (Y,O)
def pA:((List Int)×(List Int))->Option (((List Int)×(List Int))⊕(((List Int))))
 | (U,O) =>
  if decide ((O.length:Int)>0) then
   (pB U O).bind fun X =>
   some (.inl (O,X.2))
  else
   some (.inr U)
def qe (Y:aB) (Z:aB):Option (aB×Int) :=
 (cW Y).bind fun r1 =>
 (if (!r1) then
  some true
 else
  (cW Z).bind fun X =>
  some (!X)).bind fun O =>
 if O then
  some ((aB.mk 0 ([])),1)
 else
  (aS (pA) (Y.aa,Z.aa)).bind fun U =>
  (fb 1 U).bind fun r9 =>
  some (r9,0)
def AW (p0:(List Int)) (p1:(List Int)):(Int×Int×(List Int))->Option ((Int×Int×(List Int))⊕(((List Int))))
 | (U,O,Y) =>
  (if decide (O<(p0.length:Int)) then
   some true
  else
   if decide (O<(p1.length:Int)) then
    some true
   else
    some (decide (U>0))).bind fun X =>
  if X then
   (iw p0 O).bind fun Z =>
   (iw p1 O).bind fun aa =>
   (xY .i64 (IntKind.i64.wrap ((IntKind.i64.wrap (Z+aa))+U)) 1048576).bind fun ab =>
   (lf 8 Y [ab]).bind fun ad =>
   (yP .i64 (IntKind.i64.wrap ((IntKind.i64.wrap (Z+aa))+U)) 1048576).bind fun ae =>
   some (.inl (ae,IntKind.i64.wrap (O+1),ad))
  else
   some (.inr Y)
def q9 (X:(List Int)) (Y:(List Int)):Option ((List Int)) :=
 (aS (AW X Y) (0,0,[])).bind fun O =>
 (gL O).bind fun U =>
 some U
def og (Y:aB) (O:aB):Option (aB×aB×Int) :=
 (cW Y).bind fun r1 =>
 (if (!r1) then
  some true
 else
  (cW O).bind fun ab =>
  some (!ab)).bind fun U =>
 if U then
  some ((aB.mk 0 ([])),(aB.mk 0 ([])),1)
 else
  if (O.aj==0) then
   some ((aB.mk 0 ([])),(aB.mk 0 ([])),15)
  else
   (pB Y.aa O.aa).bind fun Z =>
   (if decide ((IntKind.i64.wrap (Y.aj*O.aj))>=0) then
    some true
   else
    some ((Z.2.length:Int)==0)).bind fun X =>
   if X then
    (fb (IntKind.i64.wrap (Y.aj*O.aj)) Z.1).bind fun r8 =>
    (fb Y.aj Z.2).bind fun r9 =>
    some (r8,r9,0)
   else
    (q9 Z.1 ([1])).bind fun ad =>
    (fb (-1) ad).bind fun ae =>
    (jQ O.aa Z.2).bind fun ag =>
    (fb O.aj ag).bind fun ah =>
    some (ae,ah,0)
def sj (p0:aB) (p1:aB):Option (aw×Int) :=
 (cW p0).bind fun r1 =>
 (if (!r1) then
  some true
 else
  (cW p1).bind fun ae =>
  some (!ae)).bind fun Z =>
 if Z then
  some ((aw.mk (aB.mk 0 ([])) (aB.mk 0 ([]))),1)
 else
  if (p1.aj==0) then
   some ((aw.mk (aB.mk 0 ([])) (aB.mk 0 ([]))),15)
  else
   (if decide (p1.aj<0) then
    (qf p0).bind fun ab =>
    (qf p1).bind fun ad =>
    some (ab.aj,ab.aa,ad.aj,ad.aa)
   else
    some (p0.aj,p0.aa,p1.aj,p1.aa)).bind fun q=>match q with
   | (O,U,X,Y) =>
    (qe (aB.mk O U) (aB.mk X Y)).bind fun r6 =>
    (og (aB.mk O U) r6.1).bind fun r7 =>
    (og (aB.mk X Y) r6.1).bind fun r8 =>
    some ((aw.mk r7.1 r8.1),0)
def uj (U:Int) (X:Int):Option (aw×Int) :=
 (uh U).bind fun Y =>
 (uh X).bind fun Z =>
 (sj Y Z).bind fun O =>
 some (O.1,O.2)
def xS:Option (aw) :=
 (uj 1 2).bind fun O =>
 some O.1
def yl (O:Int):Option (aw) :=
 (uj O 1).bind fun U =>
 some U.1
def AV (X:aB) (Y:aB):(Int)->Option ((Int)⊕((Unit)⊕(Bool)))
 | O =>
  if decide (O<(X.aa.length:Int)) then
   (P.idx X.aa O).bind fun Z =>
   (P.idx Y.aa O).bind fun U =>
   if (Z != U) then
    some (.inr (.inr false))
   else
    some (.inl (IntKind.i64.wrap (O+1)))
  else
   some (.inr (.inl ()))
def yk (U:aB) (X:aB):Option (Bool) :=
 (if (U.aj != X.aj) then
  some true
 else
  some ((U.aa.length:Int) != (X.aa.length:Int))).bind fun O =>
 if O then
  some false
 else
  (aS (AV U X) 0).bind fun q=>match q with
  | (.inl _) =>
   some true
  | (.inr Y) =>
   some Y
def p9 (U:aB) (X:aB):Option (Int) :=
 (cW U).bind fun Z =>
 (if (!Z) then
  some true
 else
  (cW X).bind fun r9 =>
  if (!r9) then
   some true
  else
   (yk U X).bind fun Y =>
   some Y).bind fun O =>
 if O then
  some 0
 else
  if (U.aj != X.aj) then
   if decide (U.aj<X.aj) then
    some (-1)
   else
    some 1
  else
   (nn U.aa X.aa).bind fun r6 =>
   if (r6==(decide (U.aj>0))) then
    some (-1)
   else
    some 1
def re (U:aw):Option (Bool) :=
 (cW U.cv).bind fun X =>
 (if (!X) then
  some true
 else
  (cW U.cu).bind fun Y =>
  if (!Y) then
   some true
  else
   some (decide (U.cu.aj<1))).bind fun O =>
 if O then
  some false
 else
  (qe U.cv U.cu).bind fun Z =>
  (uh 1).bind fun r5 =>
  (p9 Z.1 r5).bind fun r6 =>
  some (r6==0)
def vf (U:aB) (X:aB):Option (aB×Int) :=
 (cW U).bind fun Y =>
 (if (!Y) then
  some true
 else
  (cW X).bind fun Z =>
  some (!Z)).bind fun O =>
 if O then
  some ((aB.mk 0 ([])),1)
 else
  (jR U.aa X.aa).bind fun r4 =>
  (fb (IntKind.i64.wrap (U.aj*X.aj)) r4).bind fun r5 =>
  some (r5,0)
def BM (O:aB) (U:aB):Option (aB×Int) :=
 (cW O).bind fun r1 =>
 (if (!r1) then
  some true
 else
  (cW U).bind fun Z =>
  some (!Z)).bind fun X =>
 if X then
  some ((aB.mk 0 ([])),1)
 else
  (if (O.aj==0) then
   some true
  else
   if (U.aj==0) then
    some true
   else
    some (O.aj==U.aj)).bind fun Y =>
  if Y then
   (q9 O.aa U.aa).bind fun r6 =>
   (fb (j0 .or .i64 O.aj U.aj) r6).bind fun r7 =>
   some (r7,0)
  else
   (nn O.aa U.aa).bind fun r8 =>
   if r8 then
    (jQ U.aa O.aa).bind fun ab =>
    (fb U.aj ab).bind fun ad =>
    some (ad,0)
   else
    (jQ O.aa U.aa).bind fun ae =>
    (fb O.aj ae).bind fun ag =>
    some (ag,0)
def BN (X:aB) (O:aB):Option (aB×Int) :=
 (cW O).bind fun Y =>
 if (!Y) then
  some ((aB.mk 0 ([])),1)
 else
  (qf O).bind fun Z =>
  (BM X Z).bind fun U =>
  some (U.1,U.2)
def BO (U:aw) (X:aw):Option (aw×Int) :=
 (re U).bind fun r1 =>
 (if (!r1) then
  some true
 else
  (re X).bind fun Y =>
  some (!Y)).bind fun O =>
 if O then
  some ((aw.mk (aB.mk 0 ([])) (aB.mk 0 ([]))),1)
 else
  (vf U.cv X.cu).bind fun r4 =>
  (vf X.cv U.cu).bind fun r5 =>
  (vf U.cu X.cu).bind fun r6 =>
  (BN r4.1 r5.1).bind fun r7 =>
  (sj r7.1 r6.1).bind fun Z =>
  some (Z.1,Z.2)
def kQ (X:Int) (U:aw):Option (bC) :=
 (yl 1).bind fun O =>
 (BO O U).bind fun Y =>
 some (bC.mk ([20,10]) ([(bY.mk (fH.mk ([(fI.mk 1 0 0),(fI.mk 0 0 0)]) ([(s7.mk 0 0 0 (ByteArray.mk #[]))]) ([[O,O]])) ([(fQ.mk 1 X)]) ([0])),(bY.mk (fH.mk ([(fI.mk 1 0 0)]) ([(s7.mk 0 0 0 (ByteArray.mk #[])),(s7.mk 2 0 0 (ByteArray.mk #[104,101,97,116]))]) ([[U],[Y.1]])) ([(fQ.mk 0 20)]) ([1]))]))
def dR (O:Int) (U:Int) (X:Int):Option (Bool) :=
 if decide (O>=U) then
  some (decide (O<=X))
 else
  some false
def kP (U:(List Int)):(Int)->Option ((Int)⊕((Int)))
 | O =>
  if decide (O>0) then
   (P.idx U (IntKind.i64.wrap (O-1))).bind fun X =>
   if (X==0) then
    some (.inl (IntKind.i64.wrap (O-1)))
   else
    some (.inr O)
  else
   some (.inr O)
def dZ (U:(List Int)):Option ((List Int)) :=
 (aS (kP U) (U.length:Int)).bind fun O =>
 (BA U 0 O).bind fun X =>
 some X
def cY (U:Int) (X:(List Int)):Option (aB) :=
 (dZ X).bind fun O =>
 if ((O.length:Int)==0) then
  some (aB.mk 0 ([]))
 else
  some (aB.mk U O)
def uV:(Int×(List Int))->Option ((Int×(List Int))⊕(((List Int))))
 | (O,U) =>
  if decide (O>0) then
   (lf 8 U [IntKind.i64.wrap (j0 .and .u64 O 1048575)]).bind fun Y =>
   (By .u64 O 20).bind fun X =>
   some (.inl (X,Y))
  else
   some (.inr U)
def rK (Y:Int):Option (aB) :=
 (if decide (Y<0) then
  some ((-1),IntKind.u64.wrap (0-(IntKind.u64.wrap Y)))
 else
  some (1,IntKind.u64.wrap Y)).bind fun q=>match q with
 | (O,U) =>
  (aS (uV) (U,[])).bind fun X =>
  (cY O X).bind fun Z =>
  some Z
def jm (O:Int):Option (aw) :=
 (rK O).bind fun U =>
 (rK 1).bind fun X =>
 some (aw.mk U X)
def nU (U:aB):(Int)->Option ((Int)⊕((Unit)⊕(Bool)))
 | O =>
  if decide (O<(U.aa.length:Int)) then
   (P.idx U.aa O).bind fun X =>
   if decide (X<0) then
    some (.inr (.inr false))
   else
    if decide (X>1048575) then
     some (.inr (.inr false))
    else
     some (.inl (IntKind.i64.wrap (O+1)))
  else
   some (.inr (.inl ()))
def cV (O:aB):Option (Bool) :=
 (aS (nU O) 0).bind fun q=>match q with
 | (.inl _) =>
  if ((O.aa.length:Int)==0) then
   some (O.aj==0)
  else
   if (O.aj==1) then
    (P.idx O.aa (IntKind.i64.wrap ((O.aa.length:Int)-1))).bind fun U =>
    some (U != 0)
   else
    if (O.aj==(-1)) then
     (P.idx O.aa (IntKind.i64.wrap ((O.aa.length:Int)-1))).bind fun X =>
     some (X != 0)
    else
     some false
 | (.inr Y) =>
  some Y
def eC (O:Bool) (U:aB):Option (aB×Int) :=
 if (!O) then
  some ((aB.mk 0 ([])),1)
 else
  some (U,0)
def da (O:(List Int)):Option (List Int):=lf 8 [] O
def oA (O:Int):Option (Bool) :=
 some (O != O)
def gi (O:Int) (p1:Int):Option (Int) :=
 (oA O).bind fun X =>
 (oA p1).bind fun U =>
 if X then
  if U then
   some 0
  else
   some (-1)
 else
  if U then
   some 1
  else
   if decide (O<p1) then
    some (-1)
   else
    if decide (O>p1) then
     some 1
    else
     some 0
def lq (Z:(List Int)) (p1:(List Int)):(Int)->Option ((Int)⊕((Unit)⊕(Int)))
 | O =>
  if decide (O>=0) then
   (P.idx Z O).bind fun U =>
   (P.idx p1 O).bind fun X =>
   if (U != X) then
    (gi U X).bind fun Y =>
    some (.inr (.inr Y))
   else
    some (.inl (IntKind.i64.wrap (O-1)))
  else
   some (.inr (.inl ()))
def gh (O:(List Int)) (U:(List Int)):Option (Int) :=
 if ((O.length:Int) != (U.length:Int)) then
  (gi (O.length:Int) (U.length:Int)).bind fun X =>
  some X
 else
  (aS (lq O U) (IntKind.i64.wrap ((O.length:Int)-1))).bind fun q=>match q with
  | (.inl _) =>
   some 0
  | (.inr Y) =>
   some Y
def nW (p0:(List Int)) (p1:Int):(Int×Int×(List Int))->Option ((Int×Int×(List Int))⊕((Int×(List Int))))
 | (X,O,U) =>
  if decide (O>=0) then
   (FY .i64 X 20).bind fun Y =>
   (P.idx p0 O).bind fun Z =>
   (yP .i64 (j0 .or .i64 Y Z) p1).bind fun aa =>
   (P.idx U O).bind fun ad =>
   (xY .i64 (j0 .or .i64 Y Z) p1).bind fun ab =>
   some (.inl (ab,IntKind.i64.wrap (O-1),(U.set (O).toNat aa)))
  else
   some (.inr (X,U))
def mi (X:(List Int)) (Z:Int):Option ((List Int)×Int) :=
 (HX 8 (X.length:Int) (X.length:Int) 0).bind fun x1 =>
 (aS (nW X Z) (0,IntKind.i64.wrap ((X.length:Int)-1),x1)).bind fun q=>match q with
 | (O,U) =>
  (dZ U).bind fun Y =>
  some (Y,O)
def rQ (p1:(List Int)) (U:Int) (Z:Int):(Int×Int×(List Int))->Option ((Int×Int×(List Int))⊕((Int×(List Int))))
 | (X,O,Y) =>
  if decide (O<(p1.length:Int)) then
   (P.idx p1 O).bind fun aa =>
   (P.idx Y (IntKind.i64.wrap (U+O))).bind fun ab =>
   (By .i64 (IntKind.i64.wrap ((IntKind.i64.wrap (ab+(IntKind.i64.wrap (Z*aa))))+X)) 20).bind fun ad =>
   some (.inl (ad,IntKind.i64.wrap (O+1),(Y.set (IntKind.i64.wrap (U+O)).toNat (j0 .and .i64 (IntKind.i64.wrap ((IntKind.i64.wrap (ab+(IntKind.i64.wrap (Z*aa))))+X)) 1048575))))
  else
   some (.inr (X,Y))
def rP (p0:(List Int)) (Z:(List Int)):(Int×(List Int))->Option ((Int×(List Int))⊕(((List Int))))
 | (O,X) =>
  if decide (O<(p0.length:Int)) then
   (P.idx p0 O).bind fun aa =>
   (aS (rQ Z O aa) (0,0,X)).bind fun q=>match q with
   | (Y,U) =>
    (P.idx U (IntKind.i64.wrap (O+(Z.length:Int)))).bind fun ab =>
    some (.inl (IntKind.i64.wrap (O+1),(U.set (IntKind.i64.wrap (O+(Z.length:Int))).toNat (IntKind.i64.wrap (ab+Y)))))
  else
   some (.inr X)
def nV (U:(List Int)) (X:(List Int)):Option ((List Int)) :=
 (HX 8 (IntKind.i64.wrap ((U.length:Int)+(X.length:Int))) (IntKind.i64.wrap ((U.length:Int)+(X.length:Int))) 0).bind fun Z =>
 (aS (rP U X) (0,Z)).bind fun O =>
 (dZ O).bind fun Y =>
 some Y
def kn (p0:(List Int)) (p1:(List Int)) (p2:Int):(Int×Int×(List Int))->Option ((Int×Int×(List Int))⊕((Int×(List Int))))
 | (X,O,Y) =>
  if decide (O<((p0).length:Int)) then
   (P.idx Y O).bind fun Z =>
   (if decide (O<(p1.length:Int)) then
    (P.idx p1 O).bind fun aa =>
    some (IntKind.i64.wrap ((IntKind.i64.wrap (Z-X))-(IntKind.i64.wrap (p2*aa))))
   else
    some (IntKind.i64.wrap (Z-X))).bind fun U =>
   (By .i64 U 20).bind fun ab =>
   some (.inl (IntKind.i64.wrap (0-ab),IntKind.i64.wrap (O+1),(Y.set (O).toNat (j0 .and .i64 U 1048575))))
  else
   some (.inr (X,Y))
def ko (p1:(List Int)) (Z:(List Int)):(Int×Int×(List Int))->Option ((Int×Int×(List Int))⊕(((List Int))))
 | (X,O,Y) =>
  if decide (O<((Z).length:Int)) then
   (P.idx Y O).bind fun aa =>
   (if decide (O<(p1.length:Int)) then
    (P.idx p1 O).bind fun ab =>
    some (IntKind.i64.wrap ((IntKind.i64.wrap (X+aa))+ab))
   else
    some (IntKind.i64.wrap (X+aa))).bind fun U =>
   (By .i64 U 20).bind fun ad =>
   some (.inl (ad,IntKind.i64.wrap (O+1),(Y.set (O).toNat (j0 .and .i64 U 1048575))))
  else
   some (.inr Y)
def oR (Z:(List Int)) (p1:(List Int)) (Y:Int):Option ((List Int)×(Int)) :=
 (aS (kn Z p1 Y) (0,0,Z)).bind fun q=>match q with
 | (U,O) =>
  if (U==0) then
   some (O,Y)
  else
   (aS (ko p1 O) (0,0,O)).bind fun X =>
   some (X,IntKind.i64.wrap (Y-1))
def fS (O:(List Int)) (U:(List Int)) (X:Int):Option ((List Int)×(Int)):=(oR O U X).bind fun r=>if r.1.length=O.length then some r else none
theorem zr {O:(List Int)} {U:(List Int)} {X:Int} {r:(List Int)×(Int)} (h:fS O U X=some r):r.1.length=O.length:=by
 unfold fS at h;obtain⟨q,Y,h⟩:=ae h;split at h
 ·cases h;assumption
 ·cases h
def rM (X:(List Int)):(Int)->Option ((Int)⊕((Int)))
 | O =>
  (P.idx X (IntKind.i64.wrap ((X.length:Int)-1))).bind fun U =>
  if decide ((IntKind.i64.wrap (U*O))<524288) then
   some (.inl (IntKind.i64.wrap (O*2)))
  else
   some (.inr O)
def rO (Y:(List Int)) (Z:Int) (aa:(List Int)) (ab:Int):(Int×Int)->Option ((Int×Int)⊕((Int)))
 | (O,U) =>
  (if decide (O>=1048576) then
   some true
  else
   if decide (U<1048576) then
    (P.idx Y (IntKind.i64.wrap (((Y).length:Int)-2))).bind fun ad =>
    (FY .i64 U 20).bind fun ae =>
    (P.idx aa (IntKind.i64.wrap ((IntKind.i64.wrap (Z+((Y).length:Int)))-2))).bind fun ag =>
    some (decide ((IntKind.i64.wrap (O*ad))>(j0 .or .i64 ae ag)))
   else
    some false).bind fun X =>
  if X then
   some (.inl (IntKind.i64.wrap (O-1),IntKind.i64.wrap (U+ab)))
  else
   some (.inr O)
def rN (U:(List Int)):(Int×(List Int)×(List Int))->Option ((Int×(List Int)×(List Int))⊕(((List Int)×(List Int))))
 | (O,X,Y) =>
  if decide (O>=0) then
   (P.idx X (IntKind.i64.wrap (O+((U).length:Int)))).bind fun ag =>
   (FY .i64 ag 20).bind fun ab =>
   (P.idx X (IntKind.i64.wrap ((IntKind.i64.wrap (O+((U).length:Int)))-1))).bind fun ad =>
   (P.idx U (IntKind.i64.wrap (((U).length:Int)-1))).bind fun Z =>
   (yP .i64 (j0 .or .i64 ab ad) Z).bind fun ah =>
   (xY .i64 (j0 .or .i64 ab ad) Z).bind fun ai =>
   (aS (rO U O X Z) (ah,ai)).bind fun aa =>
   (BA X O (IntKind.i64.wrap ((IntKind.i64.wrap (O+((U).length:Int)))+1))).bind fun aj =>
   (fS aj U aa).bind fun ae =>
   (P.idx Y O).bind fun ak =>
   some (.inl (IntKind.i64.wrap (O-1),(X.take (O).toNat++(ae.1++X.drop (IntKind.i64.wrap ((IntKind.i64.wrap (O+((U).length:Int)))+1)).toNat)),(Y.set (O).toNat ae.2)))
  else
   some (.inr (X,Y))
def rL (p0:(List Int)) (p1:(List Int)):Option ((List Int)×(List Int)) :=
 (gh p0 p1).bind fun r1 =>
 if decide (r1<0) then
  (da p0).bind fun r3 =>
  some ([],r3)
 else
  if ((p1.length:Int)==1) then
   (P.idx p1 0).bind fun x5 =>
   (mi p0 x5).bind fun r6 =>
   (dZ ([r6.2])).bind fun r8 =>
   some (r6.1,r8)
  else
   (aS (rM p1) 1).bind fun O =>
   (nV p0 ([O])).bind fun ad =>
   (lf 8 ad [0]).bind fun X =>
   (nV p1 ([O])).bind fun Y =>
   (if (((X).length:Int)==(p0.length:Int)) then
    (lf 8 X [0]).bind fun ae =>
    some ae
   else
    some X).bind fun U =>
   (HX 8 (IntKind.i64.wrap (((U).length:Int)-((Y).length:Int))) (IntKind.i64.wrap (((U).length:Int)-((Y).length:Int))) 0).bind fun aa =>
   (aS (rN Y) (IntKind.i64.wrap (((aa).length:Int)-1),U,aa)).bind fun q=>match q with
   | (ab,Z) =>
    (dZ ab).bind fun ag =>
    (mi ag O).bind fun ah =>
    (dZ Z).bind fun ai =>
    some (ai,ah.1)
def oP:((List Int)×(List Int))->Option (((List Int)×(List Int))⊕(((List Int))))
 | (U,O) =>
  if decide ((O.length:Int)>0) then
   (rL U O).bind fun X =>
   some (.inl (O,X.2))
  else
   some (.inr U)
def pR (p0:aB) (p1:aB):Option (aB×Int) :=
 (cV p0).bind fun r1 =>
 (if (!r1) then
  some true
 else
  (cV p1).bind fun Y =>
  some (!Y)).bind fun O =>
 if O then
  (eC false (aB.mk 0 ([]))).bind fun r5 =>
  some (r5.1,r5.2)
 else
  (da p0.aa).bind fun r6 =>
  (aS (oP) (r6,p1.aa)).bind fun U =>
  (da U).bind fun Z =>
  (cY 1 Z).bind fun ab =>
  (eC true ab).bind fun X =>
  some (X.1,X.2)
def rJ (p0:aB):(Int×Int)->Option ((Int×Int)⊕((Int)⊕(Int×Bool)))
 | (X,O) =>
  if decide (O<(p0.aa.length:Int)) then
   (P.idx p0.aa O).bind fun Y =>
   (if (O==3) then
    some (decide (Y>8))
   else
    some false).bind fun U =>
   if U then
    some (.inr (.inr (0,false)))
   else
    (FY .u64 (IntKind.u64.wrap Y) (IntKind.i64.wrap (20*O))).bind fun Z =>
    some (.inl (j0 .or .u64 X Z,IntKind.i64.wrap (O+1)))
  else
   some (.inr (.inl X))
def uT (Y:aB):Option (Int×Bool) :=
 (cV Y).bind fun Z =>
 (if (!Z) then
  some true
 else
  some (decide ((Y.aa.length:Int)>4))).bind fun U =>
 if U then
  some (0,false)
 else
  (aS (rJ Y) (0,0)).bind fun q=>match q with
  | (.inl O) =>
   (if decide (Y.aj<0) then
    some (decide (O<=9223372036854775808))
   else
    some false).bind fun X =>
   if X then
    some (IntKind.i64.wrap (IntKind.u64.wrap (0-O)),true)
   else
    if decide (Y.aj>=0) then
     if decide (O<9223372036854775808) then
      some (IntKind.i64.wrap O,true)
     else
      some (0,false)
    else
     some (0,false)
  | (.inr rb) =>
   some rb
def qU (U:aB):Option (Bool) :=
 (uT U).bind fun O =>
 if O.2 then
  some (O.1==1)
 else
  some false
def dx (U:aw):Option (Bool) :=
 (cV U.cv).bind fun Y =>
 (if (!Y) then
  some true
 else
  (cV U.cu).bind fun Z =>
  if (!Z) then
   some true
  else
   some (U.cu.aj != 1)).bind fun O =>
 if O then
  some false
 else
  (pR U.cv U.cu).bind fun X =>
  if (X.2==0) then
   (qU X.1).bind fun r6 =>
   some r6
  else
   some false
def ir (O:aw):Option (Int) :=
 (dx O).bind fun U =>
 if (!U) then
  some 0
 else
  some O.cv.aj
def uU (U:aB) (X:aB):Option (aB×Int) :=
 (cV U).bind fun r1 =>
 (if (!r1) then
  some true
 else
  (cV X).bind fun Y =>
  some (!Y)).bind fun O =>
 if O then
  (eC false (aB.mk 0 ([]))).bind fun Z =>
  some (Z.1,Z.2)
 else
  (nV U.aa X.aa).bind fun r6 =>
  (cY (IntKind.i64.wrap (U.aj*X.aj)) r6).bind fun r7 =>
  (eC true r7).bind fun r8 =>
  some (r8.1,r8.2)
def cZ (O:aB) (U:aB):Option (aB) :=
 (uU O U).bind fun X =>
 some X.1
def uY (U:(List Int)):(Int)->Option ((Int)⊕((Unit)⊕(Int)))
 | O =>
  if decide (O<(U.length:Int)) then
   (P.idx U O).bind fun X =>
   if (X != 0) then
    some (.inr (.inr X))
   else
    some (.inl (IntKind.i64.wrap (O+1)))
  else
   some (.inr (.inl ()))
def tq (O:(List Int)):Option (Int) :=
 (aS (uY O) 0).bind fun q=>match q with
 | (.inl _) =>
  some 0
 | (.inr U) =>
  some U
def oQ (U:(List Int)) (X:(List Int)):(Int×Int×(List Int))->Option ((Int×Int×(List Int))⊕((Int×(List Int))))
 | (Z,O,aa) =>
  if decide (O<(U.length:Int)) then
   (P.idx U O).bind fun ab =>
   (if decide (O<(X.length:Int)) then
    (P.idx X O).bind fun ad =>
    some (IntKind.i64.wrap ((IntKind.i64.wrap (Z+ab))+ad))
   else
    some (IntKind.i64.wrap (Z+ab))).bind fun Y =>
   (P.idx aa O).bind fun ag =>
   (By .i64 Y 20).bind fun ae =>
   some (.inl (ae,IntKind.i64.wrap (O+1),(aa.set (O).toNat (j0 .and .i64 Y 1048575))))
  else
   some (.inr (Z,aa))
def pS (Z:(List Int)) (p1:(List Int)):Option ((List Int)) :=
 (if decide ((Z.length:Int)<(p1.length:Int)) then
  some (p1,Z)
 else
  some (Z,p1)).bind fun q=>match q with
 | (O,X) =>
  (HX 8 (IntKind.i64.wrap ((O.length:Int)+1)) (IntKind.i64.wrap ((O.length:Int)+1)) 0).bind fun x2 =>
  (aS (oQ O X) (0,0,x2)).bind fun q=>match q with
  | (Y,U) =>
   (P.idx U (O.length:Int)).bind fun ab =>
   (dZ (U.set ((O.length:Int)).toNat Y)).bind fun aa =>
   some aa
def rR (p1:(List Int)) (r1:(List Int)):(Int×Int×(List Int))->Option ((Int×Int×(List Int))⊕(((List Int))))
 | (Y,O,X) =>
  if decide (O<((r1).length:Int)) then
   (P.idx X O).bind fun Z =>
   (if decide (O<(p1.length:Int)) then
    (P.idx p1 O).bind fun aa =>
    some (IntKind.i64.wrap ((IntKind.i64.wrap (Z-Y))-aa))
   else
    some (IntKind.i64.wrap (Z-Y))).bind fun U =>
   (By .i64 U 20).bind fun ab =>
   some (.inl (j0 .and .i64 ab 1,IntKind.i64.wrap (O+1),(X.set (O).toNat (j0 .and .i64 U 1048575))))
  else
   some (.inr X)
def pT (Y:(List Int)) (Z:(List Int)):Option ((List Int)) :=
 (da Y).bind fun X =>
 (aS (rR Z X) (0,0,X)).bind fun O =>
 (dZ O).bind fun U =>
 some U
def uS (O:aB) (U:aB):Option (aB×Int) :=
 (cV O).bind fun r1 =>
 (if (!r1) then
  some true
 else
  (cV U).bind fun ad =>
  some (!ad)).bind fun X =>
 if X then
  (eC false (aB.mk 0 ([]))).bind fun r5 =>
  some (r5.1,r5.2)
 else
  if decide ((IntKind.i64.wrap (O.aj*U.aj))>=0) then
   (tq ([O.aj,U.aj])).bind fun r8 =>
   (pS O.aa U.aa).bind fun r9 =>
   (cY r8 r9).bind fun ae =>
   (eC true ae).bind fun Y =>
   some (Y.1,Y.2)
  else
   (gh O.aa U.aa).bind fun ag =>
   if decide (ag<0) then
    (pT U.aa O.aa).bind fun ah =>
    (cY U.aj ah).bind fun ai =>
    (eC true ai).bind fun Z =>
    some (Z.1,Z.2)
   else
    (pT O.aa U.aa).bind fun ak =>
    (cY O.aj ak).bind fun al =>
    (eC true al).bind fun ab =>
    some (ab.1,ab.2)
def nT (O:aB):Option (aB) :=
 (cV O).bind fun U =>
 if (!U) then
  some (aB.mk 0 ([]))
 else
  (da O.aa).bind fun X =>
  (cY (IntKind.i64.wrap (0-O.aj)) X).bind fun Y =>
  some Y
def nS (X:aB) (O:aB):Option (aB×aB×Int) :=
 (cV X).bind fun r1 =>
 (if (!r1) then
  some true
 else
  (cV O).bind fun ab =>
  some (!ab)).bind fun Y =>
 if Y then
  some ((aB.mk 0 ([])),(aB.mk 0 ([])),1)
 else
  if (O.aj==0) then
   some ((aB.mk 0 ([])),(aB.mk 0 ([])),15)
  else
   (rL X.aa O.aa).bind fun Z =>
   (if decide ((IntKind.i64.wrap (X.aj*O.aj))<0) then
    some (decide ((Z.2.length:Int)>0))
   else
    some false).bind fun U =>
   if U then
    (pS Z.1 ([1])).bind fun r9 =>
    (cY (-1) r9).bind fun ad =>
    (pT O.aa Z.2).bind fun ae =>
    (cY O.aj ae).bind fun ag =>
    some (ad,ag,0)
   else
    (cY (IntKind.i64.wrap (X.aj*O.aj)) Z.1).bind fun ah =>
    (cY X.aj Z.2).bind fun ai =>
    some (ah,ai,0)
def mX (p0:aB) (p1:aB):Option (aw×Int) :=
 (cV p0).bind fun r1 =>
 (if (!r1) then
  some true
 else
  (cV p1).bind fun ae =>
  some (!ae)).bind fun Z =>
 if Z then
  some ((aw.mk (aB.mk 0 ([])) (aB.mk 0 ([]))),1)
 else
  if (p1.aj==0) then
   some ((aw.mk (aB.mk 0 ([])) (aB.mk 0 ([]))),15)
  else
   (if decide (p1.aj<0) then
    (nT p0).bind fun ab =>
    (nT p1).bind fun ad =>
    some (ab.aj,ab.aa,ad.aj,ad.aa)
   else
    some (p0.aj,p0.aa,p1.aj,p1.aa)).bind fun q=>match q with
   | (O,U,X,Y) =>
    (pR (aB.mk O U) (aB.mk X Y)).bind fun r6 =>
    (nS (aB.mk O U) r6.1).bind fun r7 =>
    (nS (aB.mk X Y) r6.1).bind fun r8 =>
    some ((aw.mk r7.1 r8.1),0)
def pf (U:aw) (X:aw):Option (aw×Int) :=
 (dx U).bind fun r1 =>
 (if (!r1) then
  some true
 else
  (dx X).bind fun Y =>
  some (!Y)).bind fun O =>
 if O then
  some ((aw.mk (aB.mk 0 ([])) (aB.mk 0 ([]))),1)
 else
  (cZ U.cv X.cu).bind fun r4 =>
  (cZ X.cv U.cu).bind fun r5 =>
  (uS r4 r5).bind fun r6 =>
  (cZ U.cu X.cu).bind fun r7 =>
  (mX r6.1 r7).bind fun Z =>
  some (Z.1,Z.2)
def oc (O:aw) (U:aw):Option (aw) :=
 (pf O U).bind fun X =>
 some X.1
def kO (U:aB) (X:aB):Option (Int) :=
 (cV U).bind fun Y =>
 (if (!Y) then
  some true
 else
  (cV X).bind fun Z =>
  some (!Z)).bind fun O =>
 if O then
  some 0
 else
  if (U.aj != X.aj) then
   (gi U.aj X.aj).bind fun r5 =>
   some r5
  else
   (gh U.aa X.aa).bind fun r6 =>
   some (IntKind.i64.wrap (U.aj*r6))
def iI (U:aw) (X:aw):Option (Int) :=
 (dx U).bind fun Y =>
 (if (!Y) then
  some true
 else
  (dx X).bind fun Z =>
  some (!Z)).bind fun O =>
 if O then
  some 0
 else
  (cZ U.cv X.cu).bind fun r4 =>
  (cZ X.cv U.cu).bind fun r5 =>
  (kO r4 r5).bind fun r6 =>
  some r6
def od (p0:(List aw)):(Int×Int×(List Int)×Int×(List Int))->Option ((Int×Int×(List Int)×Int×(List Int))⊕((Int×(List Int)×Int×(List Int))⊕(Bool)))
 | (ab,O,U,X,Y) =>
  if decide (ab<(p0.length:Int)) then
   (P.idx p0 ab).bind fun ad =>
   (dx ad).bind fun ae =>
   if (!ae) then
    some (.inr (.inr false))
   else
    (ir ad).bind fun ag =>
    if decide (ag<0) then
     some (.inr (.inr false))
    else
     (oc (aw.mk (aB.mk O U) (aB.mk X Y)) ad).bind fun Z =>
     some (.inl (IntKind.i64.wrap (ab+1),Z.cv.aj,Z.cv.aa,Z.cu.aj,Z.cu.aa))
  else
   some (.inr (.inl (O,U,X,Y)))
def oF (p0:(List aw)):Option (Bool) :=
 (jm 0).bind fun Z =>
 (aS (od p0) (0,Z.cv.aj,Z.cv.aa,Z.cu.aj,Z.cu.aa)).bind fun q=>match q with
 | (.inl (O,U,X,Y)) =>
  (jm 1).bind fun ab =>
  (iI (aw.mk (aB.mk O U) (aB.mk X Y)) ab).bind fun ad =>
  some (ad==0)
 | (.inr ra) =>
  some ra
def jO (X:fH):(Int)->Option ((Int)⊕((Unit)⊕(Bool)))
 | O =>
  if decide (O<(X.aJ.length:Int)) then
   (P.idx X.aJ O).bind fun U =>
   (dR U.bl 0 3).bind fun Y =>
   if (!Y) then
    some (.inr (.inr false))
   else
    if decide (U.aQ<0) then
     some (.inr (.inr false))
    else
     (P.idx X.aD O).bind fun Z =>
     if ((Z.length:Int) != (X.al.length:Int)) then
      some (.inr (.inr false))
     else
      some (.inl (IntKind.i64.wrap (O+1)))
  else
   some (.inr (.inl ()))
def gp (p0:fH) (X:Int):(Int×(List aw))->Option ((Int×(List aw))⊕(((List aw))))
 | (O,U) =>
  if decide (O<(p0.aJ.length:Int)) then
   (P.idx p0.aD O).bind fun Y =>
   (P.idx Y X).bind fun Z =>
   (P.idx U O).bind fun aa =>
   some (.inl (IntKind.i64.wrap (O+1),(U.set (O).toNat Z)))
  else
   some (.inr U)
def jP (U:fH):(Int)->Option ((Int)⊕((Unit)⊕(Bool)))
 | O =>
  if decide (O<(U.al.length:Int)) then
   (P.idx U.al O).bind fun X =>
   (HX 64 (U.aJ.length:Int) (U.aJ.length:Int) (aw.mk (aB.mk 0 ([])) (aB.mk 0 ([])))).bind fun Z =>
   (aS (gp U O) (0,Z)).bind fun Y =>
   (dR X.bl 0 2).bind fun aa =>
   if (!aa) then
    some (.inr (.inr false))
   else
    if decide (X.aQ<0) then
     some (.inr (.inr false))
    else
     (oF Y).bind fun ab =>
     if (!ab) then
      some (.inr (.inr false))
     else
      some (.inl (IntKind.i64.wrap (O+1)))
  else
   some (.inr (.inl ()))
def iU (U:fH):Option (Bool) :=
 (if decide ((U.al.length:Int)>100) then
  some true
 else
  if decide ((U.aJ.length:Int)>100) then
   some true
  else
   some ((U.aD.length:Int) != (U.aJ.length:Int))).bind fun O =>
 if O then
  some false
 else
  (aS (jO U) 0).bind fun q=>match q with
  | (.inl _) =>
   (aS (jP U) 0).bind fun q=>match q with
   | (.inl _) =>
    some true
   | (.inr rc) =>
    some rc
  | (.inr X) =>
   some X
def mw (O:fQ) (U:Int):Option (Bool) :=
 (dR O.bT 0 (IntKind.i64.wrap (U-1))).bind fun X =>
 if (!X) then
  some true
 else
  (dR O.aN 1 1099511627776).bind fun Y =>
  some (!Y)
def my (O:Int) (U:Int):Option (Bool) :=
 (dR O 0 (IntKind.i64.wrap (U-1))).bind fun X =>
 some (!X)
def mQ (O:(List Int)):Option (List Int):=KL O
def cG (O:(List Int)):Option (List Int):=BV O
def lF (U:(List Int)):(Int)->Option ((Int)⊕((Unit)⊕(Bool)))
 | O =>
  if decide (O<((U).length:Int)) then
   (P.idx U O).bind fun X =>
   if (O != X) then
    some (.inr (.inr false))
   else
    some (.inl (IntKind.i64.wrap (O+1)))
  else
   some (.inr (.inl ()))
def jt (U:(List Int)) (X:Int):Option (Bool) :=
 (mQ U).bind fun Y =>
 (cG Y).bind fun O =>
 (aS (lF O) 0).bind fun q=>match q with
 | (.inl _) =>
  some (((O).length:Int)==X)
 | (.inr Z) =>
  some Z
def db (X:(List fQ)) (U:Int):(Int)->Option ((Int)⊕((Unit)⊕(Int)))
 | O =>
  if decide (O<(X.length:Int)) then
   (P.idx X O).bind fun Y =>
   (mw Y U).bind fun Z =>
   if Z then
    some (.inr (.inr O))
   else
    some (.inl (IntKind.i64.wrap (O+1)))
  else
   some (.inr (.inl ()))
def cK (U:(List fQ)) (O:Int):Option (Int) :=
 (aS (db U O) 0).bind fun q=>match q with
 | (.inl _) =>
  some (-1)
 | (.inr X) =>
  some X
def bV (U:(List fQ)) (O:Int):Option (Bool) :=
 (cK U O).bind fun X =>
 some (decide (X>=0))
def dc (X:(List Int)) (U:Int):(Int)->Option ((Int)⊕((Unit)⊕(Int)))
 | O =>
  if decide (O<(X.length:Int)) then
   (P.idx X O).bind fun Y =>
   (my Y U).bind fun Z =>
   if Z then
    some (.inr (.inr O))
   else
    some (.inl (IntKind.i64.wrap (O+1)))
  else
   some (.inr (.inl ()))
def cL (U:(List Int)) (O:Int):Option (Int) :=
 (aS (dc U O) 0).bind fun q=>match q with
 | (.inl _) =>
  some (-1)
 | (.inr X) =>
  some X
def bW (U:(List Int)) (O:Int):Option (Bool) :=
 (cL U O).bind fun X =>
 some (decide (X>=0))
def kT (Z:bY):(Int×(List Int))->Option ((Int×(List Int))⊕(((List Int))))
 | (O,U) =>
  if decide (O<(Z.ao.al.length:Int)) then
   (P.idx Z.ao.al O).bind fun X =>
   if (X.bl==1) then
    (lf 8 U [X.aQ]).bind fun Y =>
    some (.inl (IntKind.i64.wrap (O+1),Y))
   else
    some (.inl (IntKind.i64.wrap (O+1),U))
  else
   some (.inr U)
def kU (Z:bY):(Int×(List Int))->Option ((Int×(List Int))⊕(((List Int))))
 | (O,U) =>
  if decide (O<(Z.ao.aJ.length:Int)) then
   (P.idx Z.ao.aJ O).bind fun X =>
   if (X.bl==0) then
    (lf 8 U [X.aQ]).bind fun Y =>
    some (.inl (IntKind.i64.wrap (O+1),Y))
   else
    some (.inl (IntKind.i64.wrap (O+1),U))
  else
   some (.inr U)
def qZ (O:bY) (p1:Int):Option (Bool) :=
 (iU O.ao).bind fun r1 =>
 if (!r1) then
  some false
 else
  (aS (kT O) (0,[])).bind fun U =>
  (aS (kU O) (0,[])).bind fun X =>
  (jt U (O.a7.length:Int)).bind fun Y =>
  if Y then
   (jt X (O.aA.length:Int)).bind fun Z =>
   if Z then
    (bV O.a7 p1).bind fun aa =>
    if (!aa) then
     (bW O.aA p1).bind fun ab =>
     some (!ab)
    else
     some false
   else
    some false
  else
   some false
def jF (X:bC):(Int)->Option ((Int)⊕((Unit)⊕(Int×Int)))
 | O =>
  if decide (O<(X.ah.length:Int)) then
   (P.idx X.ah O).bind fun Y =>
   (dR Y 1 1099511627776).bind fun U =>
   if (!U) then
    some (.inr (.inr (3,O)))
   else
    some (.inl (IntKind.i64.wrap (O+1)))
  else
   some (.inr (.inl ()))
def jG (X:bY):(Int×(List Int))->Option ((Int×(List Int))⊕(((List Int))))
 | (O,U) =>
  if decide (O<(X.aA.length:Int)) then
   (P.idx X.aA O).bind fun Y =>
   (P.idx U Y).bind fun Z =>
   some (.inl (IntKind.i64.wrap (O+1),(U.set (Y).toNat (IntKind.i64.wrap (Z+1)))))
  else
   some (.inr U)
def jH (Y:bY):(Int×(List Int))->Option ((Int×(List Int))⊕(((List Int))))
 | (O,X) =>
  if decide (O<(Y.a7.length:Int)) then
   (P.idx Y.a7 O).bind fun U =>
   (P.idx X U.bT).bind fun Z =>
   some (.inl (IntKind.i64.wrap (O+1),(X.set (U.bT).toNat (if 1099511627777<(IntKind.i64.wrap (Z+U.aN)) then 1099511627777 else IntKind.i64.wrap (Z+U.aN)))))
  else
   some (.inr X)
def iJ (p0:bC):(Int×(List Int)×(List Int))->Option ((Int×(List Int)×(List Int))⊕(((List Int)×(List Int))⊕(Int×Int)))
 | (O,X,Y) =>
  if decide (O<(p0.au.length:Int)) then
   (P.idx p0.au O).bind fun U =>
   (qZ U (p0.ah.length:Int)).bind fun ab =>
   if (!ab) then
    some (.inr (.inr (1,O)))
   else
    (aS (jG U) (0,X)).bind fun Z =>
    (aS (jH U) (0,Y)).bind fun aa =>
    some (.inl (IntKind.i64.wrap (O+1),Z,aa))
  else
   some (.inr (.inl (X,Y)))
def jI (U:(List Int)):(Int)->Option ((Int)⊕((Unit)⊕(Int×Int)))
 | O =>
  if decide (O<((U).length:Int)) then
   (P.idx U O).bind fun X =>
   if (X==0) then
    some (.inr (.inr (21,O)))
   else
    if decide (X>1) then
     some (.inr (.inr (5,O)))
    else
     some (.inl (IntKind.i64.wrap (O+1)))
  else
   some (.inr (.inl ()))
def jJ (Y:bC) (U:(List Int)):(Int)->Option ((Int)⊕((Unit)⊕(Int×Int)))
 | O =>
  if decide (O<((U).length:Int)) then
   (P.idx U O).bind fun X =>
   (P.idx Y.ah O).bind fun x76 =>
   if decide (X>x76) then
    some (.inr (.inr (25,O)))
   else
    some (.inl (IntKind.i64.wrap (O+1)))
  else
   some (.inr (.inl ()))
def mu (O:bC):Option (Int×Int) :=
 (if decide ((O.ah.length:Int)>2000) then
  some true
 else
  some (decide ((O.au.length:Int)>400))).bind fun U =>
 if U then
  some (6,0)
 else
  (aS (jF O) 0).bind fun q=>match q with
  | (.inl _) =>
   (HX 8 (O.ah.length:Int) (O.ah.length:Int) 0).bind fun X =>
   (aS (iJ O) (0,X,X)).bind fun q=>match q with
   | (.inl (Y,Z)) =>
    (aS (jI Y) 0).bind fun q=>match q with
    | (.inl _) =>
     (aS (jJ O Z) 0).bind fun q=>match q with
     | (.inl _) =>
      some (0,0)
     | (.inr ri) =>
      some ri
    | (.inr rh) =>
     some rh
   | (.inr rc) =>
    some rc
  | (.inr rb) =>
   some rb
def u9 (U:Int) (X:Int):Option (aw×Int) :=
 (rK U).bind fun Y =>
 (rK X).bind fun Z =>
 (mX Y Z).bind fun O =>
 some (O.1,O.2)
def pg (U:aw) (X:aw):Option (aw×Int) :=
 (dx U).bind fun Z =>
 (if (!Z) then
  some true
 else
  (dx X).bind fun r8 =>
  some (!r8)).bind fun O =>
 if O then
  some ((aw.mk (aB.mk 0 ([])) (aB.mk 0 ([]))),1)
 else
  (cZ U.cv X.cv).bind fun r4 =>
  (cZ U.cu X.cu).bind fun r5 =>
  (mX r4 r5).bind fun Y =>
  some (Y.1,Y.2)
def gn (p2:bY) (Z:Int) (X:fQ) (ae:aw×Int):(Int×(List ((Int×Int)×aw)))->Option ((Int×(List ((Int×Int)×aw)))⊕(((List ((Int×Int)×aw)))))
 | (O,U) =>
  if decide (O<(p2.ao.aJ.length:Int)) then
   (P.idx p2.ao.aJ O).bind fun ab =>
   (if (ab.bl != 0) then
    some true
   else
    (P.idx p2.ao.aD O).bind fun ag =>
    (P.idx ag Z).bind fun ah =>
    (ir ah).bind fun ai =>
    some (ai==0)).bind fun aa =>
   if aa then
    some (.inl (IntKind.i64.wrap (O+1),U))
   else
    (P.idx p2.aA ab.aQ).bind fun Y =>
    (P.idx p2.ao.aD O).bind fun aj =>
    (P.idx aj Z).bind fun ak =>
    (pg ae.1 ak).bind fun ad =>
    if lh U (X.bT,Y) then
     (oc (aw.mk ((fl (aw.mk (aB.mk 0 ([])) (aB.mk 0 ([]))) U (X.bT,Y)).cv) ((fl (aw.mk (aB.mk 0 ([])) (aB.mk 0 ([]))) U (X.bT,Y)).cu)) ad.1).bind fun al =>
     some (.inl (IntKind.i64.wrap (O+1),(pz U (X.bT,Y) al)))
    else
     some (.inl (IntKind.i64.wrap (O+1),(pz U (X.bT,Y) ad.1)))
  else
   some (.inr U)
def iu (p1:(List Int)) (p2:bY):(Int×(List ((Int×Int)×aw)))->Option ((Int×(List ((Int×Int)×aw)))⊕(((List ((Int×Int)×aw)))))
 | (O,U) =>
  if decide (O<(p2.ao.al.length:Int)) then
   (P.idx p2.ao.al O).bind fun Y =>
   if (Y.bl != 1) then
    some (.inl (IntKind.i64.wrap (O+1),U))
   else
    (P.idx p2.a7 Y.aQ).bind fun X =>
    (P.idx p1 X.bT).bind fun aa =>
    (u9 X.aN aa).bind fun ab =>
    (aS (gn p2 O X ab) (0,U)).bind fun Z =>
    some (.inl (IntKind.i64.wrap (O+1),Z))
  else
   some (.inr U)
def gX (U:(List ((Int×Int)×aw))) (X:(List Int)) (Y:bY):Option ((List ((Int×Int)×aw))×(Unit)) :=
 (aS (iu X Y) (0,U)).bind fun O =>
 some (O,())
def mv (O:bJ) (U:bJ):Option (Int) :=
 (gi O.cq U.cq).bind fun X =>
 (gi O.iH U.iH).bind fun Y =>
 (tq ([X,Y])).bind fun Z =>
 some Z
def BK (p:Int) (m:List ((Int×Int)×aw)):Option (fA×Int) :=
 if m.length<=8000∧(m.map (·.1)).Nodup then some (fA.mk p (nL (jg bJ.cq bJ.iH) (m.map fun q=>bJ.mk q.1.1 q.1.2 q.2)),0) else none
def oE (X:bC):(Int×(List ((Int×Int)×aw)))->Option ((Int×(List ((Int×Int)×aw)))⊕(((List ((Int×Int)×aw)))))
 | (O,U) =>
  if decide (O<(X.au.length:Int)) then
   (P.idx X.au O).bind fun Z =>
   (gX U X.ah Z).bind fun Y =>
   some (.inl (IntKind.i64.wrap (O+1),Y.1))
  else
   some (.inr U)
def qE (U:bC):Option (fA×Int) :=
 (mu U).bind fun X =>
 if (X.1 != 0) then
  some ((fA.mk 0 ([])),X.1)
 else
  (aS (oE U) (0,([]:(List ((Int×Int)×aw))))).bind fun O =>
  if decide ((O.length:Int)>8000) then
   some ((fA.mk 0 ([])),6)
  else
   BK (U.ah.length:Int) O
def lK (X:aB) (Y:aB):(Int)->Option ((Int)⊕((Unit)⊕(Bool)))
 | O =>
  if decide (O<(X.aa.length:Int)) then
   (P.idx X.aa O).bind fun Z =>
   (P.idx Y.aa O).bind fun U =>
   if (Z != U) then
    some (.inr (.inr false))
   else
    some (.inl (IntKind.i64.wrap (O+1)))
  else
   some (.inr (.inl ()))
def jw (U:aB) (X:aB):Option (Bool) :=
 (if (U.aj != X.aj) then
  some true
 else
  some ((U.aa.length:Int) != (X.aa.length:Int))).bind fun O =>
 if O then
  some false
 else
  (aS (lK U X) 0).bind fun q=>match q with
  | (.inl _) =>
   some true
  | (.inr Y) =>
   some Y
def lJ (O:aw) (U:aw):Option (Bool) :=
 (jw O.cv U.cv).bind fun X =>
 if X then
  (jw O.cu U.cu).bind fun Y =>
  some Y
 else
  some false
def AX (Z:fA) (p1:fA):(Int)->Option ((Int)⊕((Unit)⊕(Bool)))
 | O =>
  if decide (O<(Z.aK.length:Int)) then
   (P.idx Z.aK O).bind fun U =>
   (P.idx p1.aK O).bind fun X =>
   if (U.cq != X.cq) then
    some (.inr (.inr false))
   else
    if (U.iH != X.iH) then
     some (.inr (.inr false))
    else
     (lJ U.ef X.ef).bind fun Y =>
     if (!Y) then
      some (.inr (.inr false))
     else
      some (.inl (IntKind.i64.wrap (O+1)))
  else
   some (.inr (.inl ()))
def uk (U:fA) (X:fA):Option (Bool) :=
 (if (U.aA != X.aA) then
  some true
 else
  some ((U.aK.length:Int) != (X.aK.length:Int))).bind fun O =>
 if O then
  some false
 else
  (aS (AX U X) 0).bind fun q=>match q with
  | (.inl _) =>
   some true
  | (.inr Y) =>
   some Y
def qT (X:aw) (U:aw):Option (aw×Int) :=
 (dx X).bind fun Z =>
 (if (!Z) then
  some true
 else
  (dx U).bind fun r7 =>
  some (!r7)).bind fun O =>
 if O then
  some ((aw.mk (aB.mk 0 ([])) (aB.mk 0 ([]))),1)
 else
  (nT U.cv).bind fun r4 =>
  (pf X (aw.mk r4 U.cu)).bind fun Y =>
  some (Y.1,Y.2)
def lD (X:(List aw)):(Int×(List aw))->Option ((Int×(List aw))⊕(((List aw))))
 | (O,U) =>
  if decide (O<((X).length:Int)) then
   (jm 1).bind fun Y =>
   (P.idx U O).bind fun Z =>
   some (.inl (IntKind.i64.wrap (O+1),(U.set (O).toNat Y)))
  else
   some (.inr U)
def lE (p0:fA):(Int×(List aw))->Option ((Int×(List aw))⊕(((List aw))))
 | (O,U) =>
  if decide (O<(p0.aK.length:Int)) then
   (P.idx p0.aK O).bind fun X =>
   (P.idx U X.cq).bind fun Y =>
   (qT Y X.ef).bind fun Z =>
   some (.inl (IntKind.i64.wrap (O+1),(U.set (X.cq).toNat Z.1)))
  else
   some (.inr U)
def kV (X:fA):Option ((List aw)) :=
 (HX 64 X.aA X.aA (aw.mk (aB.mk 0 ([])) (aB.mk 0 ([])))).bind fun Y =>
 (aS (lD Y) (0,Y)).bind fun O =>
 (aS (lE X) (0,O)).bind fun U =>
 some U
def nf (O:aw):Option (Bool) :=
 (ir O).bind fun U =>
 some (decide (U<0))
def dD (U:(List aw)):(Int)->Option ((Int)⊕((Unit)⊕(Int)))
 | O =>
  if decide (O<(U.length:Int)) then
   (P.idx U O).bind fun X =>
   (nf X).bind fun Y =>
   if Y then
    some (.inr (.inr O))
   else
    some (.inl (IntKind.i64.wrap (O+1)))
  else
   some (.inr (.inl ()))
def di (O:(List aw)):Option (Int) :=
 (aS (dD O) 0).bind fun q=>match q with
 | (.inl _) =>
  some (-1)
 | (.inr U) =>
  some U
def cd (O:(List aw)):Option (Bool) :=
 (di O).bind fun U =>
 some (decide (U>=0))
def lC (Y:fA):(Int)->Option ((Int)⊕((Unit)⊕(Bool)))
 | O =>
  if decide (O<(Y.aK.length:Int)) then
   (P.idx Y.aK O).bind fun U =>
   (dR U.cq 0 (IntKind.i64.wrap (Y.aA-1))).bind fun Z =>
   (if (!Z) then
    some true
   else
    (dR U.iH 0 (IntKind.i64.wrap (Y.aA-1))).bind fun aa =>
    if (!aa) then
     some true
    else
     (dx U.ef).bind fun ab =>
     if (!ab) then
      some true
     else
      (ir U.ef).bind fun ad =>
      some (decide (ad<=0))).bind fun X =>
   if X then
    some (.inr (.inr false))
   else
    if decide (O>0) then
     (P.idx Y.aK (IntKind.i64.wrap (O-1))).bind fun ae =>
     (mv ae U).bind fun ag =>
     if decide (ag>=0) then
      some (.inr (.inr false))
     else
      some (.inl (IntKind.i64.wrap (O+1)))
    else
     some (.inl (IntKind.i64.wrap (O+1)))
  else
   some (.inr (.inl ()))
def kS (U:fA):Option (Bool) :=
 (dR U.aA 0 2000).bind fun Z =>
 (if (!Z) then
  some true
 else
  some (decide ((U.aK.length:Int)>8000))).bind fun O =>
 if O then
  some false
 else
  (aS (lC U) 0).bind fun q=>match q with
  | (.inl _) =>
   (kV U).bind fun X =>
   (cd X).bind fun Y =>
   some (!Y)
  | (.inr rb) =>
   some rb
def jK (p0:fA):(Int×(List (List Int)))->Option ((Int×(List (List Int)))⊕(((List (List Int)))))
 | (O,U) =>
  if decide (O<(p0.aK.length:Int)) then
   (P.idx p0.aK O).bind fun X =>
   (P.idx U X.iH).bind fun Y =>
   (lf 8 Y [X.cq]).bind fun Z =>
   some (.inl (IntKind.i64.wrap (O+1),(U.set (X.iH).toNat Z)))
  else
   some (.inr U)
def jL (Y:(List aw)):(Int×(List Int)×(List Int))->Option ((Int×(List Int)×(List Int))⊕(((List Int)×(List Int))))
 | (O,U,X) =>
  if decide (O<(Y.length:Int)) then
   (P.idx Y O).bind fun Z =>
   (P.idx U O).bind fun ad =>
   (ir Z).bind fun aa =>
   if decide (aa>0) then
    (P.idx (U.set (O).toNat (-1)) O).bind fun ae =>
    (lf 8 X [O]).bind fun ab =>
    some (.inl (IntKind.i64.wrap (O+1),((U.set (O).toNat (-1)).set (O).toNat 0),ab))
   else
    some (.inl (IntKind.i64.wrap (O+1),(U.set (O).toNat (-1)),X))
  else
   some (.inr (U,X))
def jN (aa:Int) (Z:(List Int)):(Int×(List Int)×(List Int))->Option ((Int×(List Int)×(List Int))⊕(((List Int)×(List Int))))
 | (O,U,X) =>
  if decide (O<((Z).length:Int)) then
   (P.idx Z O).bind fun Y =>
   (P.idx U Y).bind fun ab =>
   if (ab==(-1)) then
    (P.idx U aa).bind fun ad =>
    (lf 8 X [Y]).bind fun ae =>
    some (.inl (IntKind.i64.wrap (O+1),(U.set (Y).toNat (IntKind.i64.wrap (ad+1))),ae))
   else
    some (.inl (IntKind.i64.wrap (O+1),U,X))
  else
   some (.inr (U,X))
def jM (U:(List (List Int))):((List Int)×(List Int))->Option (((List Int)×(List Int))⊕(((List Int))))
 | (X,O) =>
  if decide (((O).length:Int)>0) then
   (P.idx O 0).bind fun Y =>
   (BA O 1 (O.length:Int)).bind fun ab =>
   (P.idx U Y).bind fun ad =>
   (aS (jN Y ad) (0,X,ab)).bind fun q=>match q with
   | (Z,aa) =>
    some (.inl (Z,aa))
  else
   some (.inr X)
def iT (O:fA):Option ((List Int)) :=
 (kS O).bind fun r1 =>
 if (!r1) then
  some ([])
 else
  (HX 24 O.aA O.aA ([])).bind fun x3 =>
  (aS (jK O) (0,x3)).bind fun U =>
  (HX 8 O.aA O.aA 0).bind fun aa =>
  (kV O).bind fun ab =>
  (aS (jL ab) (0,aa,[])).bind fun q=>match q with
  | (X,Y) =>
   (aS (jM U) (X,Y)).bind fun Z =>
   some Z
def sM (U:(List Int)) (X:(List Int)):(Int)->Option ((Int)⊕((Unit)⊕(Bool)))
 | O =>
  if decide (O<(U.length:Int)) then
   (P.idx U O).bind fun Y =>
   (P.idx X O).bind fun Z =>
   if (Y != Z) then
    some (.inr (.inr false))
   else
    some (.inl (IntKind.i64.wrap (O+1)))
  else
   some (.inr (.inl ()))
def iK (O:(List Int)) (U:(List Int)):Option (Bool) :=
 if ((O.length:Int) != (U.length:Int)) then
  some false
 else
  (aS (sM O U) 0).bind fun q=>match q with
  | (.inl _) =>
   some true
  | (.inr X) =>
   some X
def xZ (O:fA) (U:Int):Option (aw) :=
 (kS O).bind fun X =>
 if (!X) then
  some (aw.mk (aB.mk 0 ([])) (aB.mk 0 ([])))
 else
  (dR U 0 (IntKind.i64.wrap (O.aA-1))).bind fun Y =>
  if (!Y) then
   some (aw.mk (aB.mk 0 ([])) (aB.mk 0 ([])))
  else
   (kV O).bind fun Z =>
   (P.idx Z U).bind fun x6 =>
   some x6
def ua (Y:(List Int)):(Int×(List Int))->Option ((Int×(List Int))⊕(((List Int))))
 | (O,U) =>
  if decide (O<(Y.length:Int)) then
   (P.idx Y O).bind fun Z =>
   if (Z==(-1)) then
    (lf 8 U [O]).bind fun X =>
    some (.inl (IntKind.i64.wrap (O+1),X))
   else
    some (.inl (IntKind.i64.wrap (O+1),U))
  else
   some (.inr U)
def p5 (U:fA):Option ((List Int)) :=
 (iT U).bind fun X =>
 (aS (ua X) (0,[])).bind fun O =>
 some O
def tV:Option (Bool) :=
 (xS).bind fun U =>
 (kQ 5 U).bind fun r2 =>
 (qE r2).bind fun Y =>
 (if (Y.2 != 0) then
  some true
 else
  (uk Y.1 (fA.mk 2 ([(bJ.mk 0 1 U),(bJ.mk 1 0 U)]))).bind fun aa =>
  if (!aa) then
   some true
  else
   (iT Y.1).bind fun ab =>
   (iK ab ([0,0])).bind fun ad =>
   if (!ad) then
    some true
   else
    (xZ Y.1 1).bind fun ae =>
    (lJ ae U).bind fun ag =>
    some (!ag)).bind fun O =>
 if O then
  some false
 else
  (yl 1).bind fun r6 =>
  (kQ 10 r6).bind fun r7 =>
  (qE r7).bind fun Z =>
  (kQ 11 U).bind fun r9 =>
  (mu r9).bind fun X =>
  if (Z.2==0) then
   (iT Z.1).bind fun ah =>
   (iK ah ([(-1),(-1)])).bind fun ai =>
   if ai then
    (p5 Z.1).bind fun aj =>
    (iK aj ([0,1])).bind fun ak =>
    if ak then
     if (X.1==25) then
      if (X.2==1) then
       (kS Z.1).bind fun al =>
       some al
      else
       some false
     else
      some false
    else
     some false
   else
    some false
  else
   some false
def vk (O:aw) (U:Int):Option (Bool) :=
 if decide ((O.cv.aa.length:Int)<=U) then
  some (decide ((O.cu.aa.length:Int)<=U))
 else
  some false
def eo (U:(List aw)):(Int)->Option ((Int)⊕((Unit)⊕(Bool)))
 | O =>
  if decide (O<(U.length:Int)) then
   (P.idx U O).bind fun X =>
   (vk X 4).bind fun Y =>
   if (!Y) then
    some (.inr (.inr false))
   else
    some (.inl (IntKind.i64.wrap (O+1)))
  else
   some (.inr (.inl ()))
def lL (X:fH):(Int)->Option ((Int)⊕((Unit)⊕(Bool)))
 | O =>
  if decide (O<(X.aD.length:Int)) then
   (P.idx X.aD O).bind fun U =>
   if decide ((U.length:Int)>8) then
    some (.inr (.inr false))
   else
    (aS (eo U) 0).bind fun q=>match q with
    | (.inl _) =>
     some (.inl (IntKind.i64.wrap (O+1)))
    | (.inr rd) =>
     some (.inr (.inr rd))
  else
   some (.inr (.inl ()))
def jx (U:fH):Option (Bool) :=
 (if decide ((U.al.length:Int)>5) then
  some true
 else
  if decide ((U.aJ.length:Int)>5) then
   some true
  else
   some (decide ((U.aD.length:Int)>8))).bind fun O =>
 if O then
  some false
 else
  (aS (lL U) 0).bind fun q=>match q with
  | (.inl _) =>
   some true
  | (.inr X) =>
   some X
def sk (Y:bC):(Int)->Option ((Int)⊕((Unit)⊕(Bool)))
 | O =>
  if decide (O<(Y.au.length:Int)) then
   (P.idx Y.au O).bind fun U =>
   (jx U.ao).bind fun X =>
   if (!X) then
    some (.inr (.inr false))
   else
    if decide ((U.a7.length:Int)>6) then
     some (.inr (.inr false))
    else
     if decide ((U.aA.length:Int)>6) then
      some (.inr (.inr false))
     else
      some (.inl (IntKind.i64.wrap (O+1)))
  else
   some (.inr (.inl ()))
def vl (U:bC):Option (Bool) :=
 (if decide ((U.ah.length:Int)>6) then
  some true
 else
  some (decide ((U.au.length:Int)>5))).bind fun O =>
 if O then
  some false
 else
  (aS (sk U) 0).bind fun q=>match q with
  | (.inl _) =>
   some true
  | (.inr X) =>
   some X
def jo (x5:Int) (r7:fA×Int) (ag:fA×Int) (ah:aw×Int):(Int)->Option ((Int)⊕((Unit)⊕(Bool)))
 | U =>
  if decide (U<(r7.1.aK.length:Int)) then
   (P.idx r7.1.aK U).bind fun O =>
   (if (O.cq==x5) then
    (pg O.ef ah.1).bind fun ad =>
    some (ad.1.cv.aj,ad.1.cv.aa,ad.1.cu.aj,ad.1.cu.aa)
   else
    some (O.ef.cv.aj,O.ef.cv.aa,O.ef.cu.aj,O.ef.cu.aa)).bind fun q=>match q with
   | (X,Y,Z,ab) =>
    (P.idx ag.1.aK U).bind fun ae =>
    if (ae.cq != O.cq) then
     some (.inr (.inr false))
    else
     if (ae.iH != O.iH) then
      some (.inr (.inr false))
     else
      (lJ ae.ef (aw.mk (aB.mk X Y) (aB.mk Z ab))).bind fun ai =>
      if (!ai) then
       some (.inr (.inr false))
      else
       some (.inl (IntKind.i64.wrap (U+1)))
  else
   some (.inr (.inl ()))
def jn (O:bC) (p1:Int) (p2:Int):Option (Bool) :=
 (tV).bind fun r1 =>
 (vl O).bind fun r2 =>
 (if (!r2) then
  some true
 else
  if ((O.ah.length:Int)==0) then
   some true
  else
   some (p2==0)).bind fun Y =>
 if Y then
  some r1
 else
  (xY .i64 (IntKind.i64.wrap p1) (O.ah.length:Int)).bind fun Z =>
  (qE O).bind fun r7 =>
  (if (r7.2 != 0) then
   some true
  else
   (P.idx O.ah Z).bind fun ae =>
   some (decide ((IntKind.i64.wrap (ae+(IntKind.i64.wrap p2)))>1099511627776))).bind fun aa =>
  if aa then
   some r1
  else
   (lf 8 [] O.ah).bind fun _ =>
   (P.idx O.ah Z).bind fun ab =>
   (qE (bC.mk (O.ah.set (Z).toNat (IntKind.i64.wrap (ab+(IntKind.i64.wrap p2)))) O.au)).bind fun U =>
   (iT U.1).bind fun ad =>
   (if (U.2 != 0) then
    some true
   else
    if ((U.1.aK.length:Int) != (r7.1.aK.length:Int)) then
     some true
    else
     some ((ad.length:Int) != (O.ah.length:Int))).bind fun X =>
   if X then
    some false
   else
    (P.idx (O.ah.set (Z).toNat (IntKind.i64.wrap (ab+(IntKind.i64.wrap p2)))) Z).bind fun ag =>
    (uj ab ag).bind fun ai =>
    (aS (jo Z r7 U ai) 0).bind fun q=>match q with
    | (.inl _) =>
     if r1 then
      (P.idx ad Z).bind fun aj =>
      some (aj==0)
     else
      some false
    | (.inr rd) =>
     some rd
end Go.Proofs.YtoioidmblipblaaGreat.P
namespace Go.Proofs.YtoioidmblipblaaGreat.Am
open Go.RowKit Go.Proofs.YtoioidmblipblaaGreat.P
set_option maxRecDepth 100000
set_option maxHeartbeats 4000000
theorem bX.gP {P:Program} {T:Nat->Option Ty} {Γ:Env} (U:ic P T) (X:bG P Γ) (hm:P.follows .mixedOrders=true) {α β:Type} {A:jh α} {F:α->Option β} {R:β->RK} {mode:Mode} {f:FuncId} {fn:Func} {G:Option (D×Row)->List D->Option (RK×Option Row)} (Y:P.funcs[f]? = some fn)
  (O:((match fn.body with|some c=>codeOk c|none=>true)&&(!(fn.name == "runtime.NumGoroutine") && !fn.body.isNone))=true) (hG:∀l d,G l d=dV A F R l d) (Z:∀a,Nat.ble (A.ds a).length fn.ntmps=true) (h:∀a r,F a=some r->jY mode T Γ FU fn none (A.ds a)=some (R r,none)):bX P f G:=by
 have e:G=dV A F R:=funext fun l=>funext fun d=>hG l d;subst e;exact bX.ofB U X hm Y O Z h
theorem vmt:type_of% (ai @acC<|ai @UF<|ai @acD<|ai @ZN<|ai @ZX<|ai @ZE<|ai @ZF<|ai @Kz<|ai @Rv<|ai @ZG<|ai @KA<|ai @ZH<|ai @ZI<|ai @ZJ<|ai @ZK<|ai @ZL<|ai @Rw<|ai @ZM<|ai @KB<|ai @Rx<|ai @Ry<|ai @Rz<|ai @ZO<|ai @RA<|ai @RB<|ai @ZP<|ai @KC<|ai @ZQ<|ai @KD<|ai @RD<|ai @ZR<|ai @ZS<|ai @ZT<|ai @ZU<|ai @ZV<|ai @KE<|ai @ZW<|ai @ZY<|ai @KF<|ai @ZZ<|ai @KG<|ai @UA<|ai @UB<|ai @UC<|ai @UD<|@UE):=⟨@acC,@UF,@acD,@ZN,@ZX,@ZE,@ZF,@Kz,@Rv,@ZG,@KA,@ZH,@ZI,@ZJ,@ZK,@ZL,@Rw,@ZM,@KB,@Rx,@Ry,@Rz,@ZO,@RA,@RB,@ZP,@KC,@ZQ,@KD,@RD,@ZR,@ZS,@ZT,@ZU,@ZV,@KE,@ZW,@ZY,@KF,@ZZ,@KG,@UA,@UB,@UC,@UD,@UE⟩
def dF:jb aB:=Be (lR (eI .i64) (jW (eI .i64))) (fun x=>(x.aj,x.aa)) (by rintro⟨⟩ ⟨⟩ h;simpa using h)
theorem Ap (x:aB):dF.cells x=[.int .i64 x.aj,.sl false false x.aa.length (ab (eI .i64) x.aa)]:=ajU
theorem CX:dF.size=2:=ajU
theorem Ms (x:aB):aB.mk x.aj x.aa=x:=ajU
def aF:jb aw:=Be (lR dF dF) (fun x=>(x.cv,x.cu)) (by rintro⟨⟩ ⟨⟩ h;simpa using h)
theorem xH (x:aw):aF.cells x=[.int .i64 x.cv.aj,.sl false false x.cv.aa.length (ab (eI .i64) x.cv.aa),.int .i64 x.cu.aj,.sl false false x.cu.aa.length (ab (eI .i64) x.cu.aa)]:=ajU
theorem Ar:aF.size=4:=ajU
theorem Hl (x:aw):aw.mk x.cv x.cu=x:=ajU
def fk:jb fQ:=Be (lR (eI .i64) (eI .i64)) (fun x=>(x.bT,x.aN)) (by rintro⟨⟩ ⟨⟩ h;simpa using h)
theorem Aw (x:fQ):fk.cells x=[.int .i64 x.bT,.int .i64 x.aN]:=ajU
theorem C0:fk.size=2:=ajU
theorem Mv (x:fQ):fQ.mk x.bT x.aN=x:=ajU
def bj:jb bJ:=Be (lR (eI .i64) (lR (eI .i64) aF)) (fun x=>(x.cq,x.iH,x.ef)) (by rintro⟨⟩ ⟨⟩ h;simpa using h)
theorem nX (x:bJ):bj.cells x=[.int .i64 x.cq,.int .i64 x.iH,.int .i64 x.ef.cv.aj,.sl false false x.ef.cv.aa.length (ab (eI .i64) x.ef.cv.aa),.int .i64 x.ef.cu.aj,.sl false false x.ef.cu.aa.length (ab (eI .i64) x.ef.cu.aa)]:=ajU
theorem tB:bj.size=6:=ajU
theorem Hn (x:bJ):bJ.mk x.cq x.iH x.ef=x:=ajU
def tz:jb fA:=Be (lR (eI .i64) (jW bj)) (fun x=>(x.aA,x.aK)) (by rintro⟨⟩ ⟨⟩ h;simpa using h)
theorem Au (x:fA):tz.cells x=[.int .i64 x.aA,.sl false false x.aK.length (ab bj x.aK)]:=ajU
theorem CY:tz.size=2:=ajU
theorem Mt (x:fA):fA.mk x.aA x.aK=x:=ajU
def XW:jb Sp:=Be (lR (eI .i64) (eI .i64)) (fun x=>(x.Qx,x.acY)) (by rintro⟨⟩ ⟨⟩ h;simpa using h)
theorem xK (x:Sp):XW.cells x=[.int .i64 x.Qx,.int .i64 x.acY]:=ajU
theorem Ax:XW.size=2:=ajU
theorem Ho (x:Sp):Sp.mk x.Qx x.acY=x:=ajU
def bh:jb fI:=Be (lR (eI .i64) (lR (eI .i64) (eI .i64))) (fun x=>(x.bl,x.aQ,x.aN)) (by rintro⟨⟩ ⟨⟩ h;simpa using h)
theorem tA (x:fI):bh.cells x=[.int .i64 x.bl,.int .i64 x.aQ,.int .i64 x.aN]:=ajU
theorem vT:bh.size=3:=ajU
theorem AB (x:fI):fI.mk x.bl x.aQ x.aN=x:=ajU
def dU:jb s7:=Be (lR (eI .i64) (lR (eI .i64) (lR (eI .i64) XV))) (fun x=>(x.bl,x.aQ,x.aN,x.Dh)) (by rintro⟨⟩ ⟨⟩ h;simpa using h)
theorem Av (x:s7):dU.cells x=[.int .i64 x.bl,.int .i64 x.aQ,.int .i64 x.aN,.str x.Dh]:=ajU
theorem CZ:dU.size=4:=ajU
theorem Mu (x:s7):s7.mk x.bl x.aQ x.aN x.Dh=x:=ajU
def wq:jb fH:=Be (lR (jW bh) (lR (jW dU) (jW (jW aF)))) (fun x=>(x.al,x.aJ,x.aD)) (by rintro⟨⟩ ⟨⟩ h;simpa using h)
theorem xG (x:fH):wq.cells x=[.sl false false x.al.length (ab bh x.al),.sl false false x.aJ.length (ab dU x.aJ),.sl false false x.aD.length (ab (jW aF) x.aD)]:=ajU
theorem Aq:wq.size=3:=ajU
theorem Hk (x:fH):fH.mk x.al x.aJ x.aD=x:=ajU
def b9:jb bY:=Be (lR wq (lR (jW fk) (jW (eI .i64)))) (fun x=>(x.ao,x.a7,x.aA)) (by rintro⟨⟩ ⟨⟩ h;simpa using h)
theorem xI (x:bY):b9.cells x=[.sl false false x.ao.al.length (ab bh x.ao.al),.sl false false x.ao.aJ.length (ab dU x.ao.aJ),.sl false false x.ao.aD.length (ab (jW aF) x.ao.aD),.sl false false x.a7.length (ab fk x.a7),.sl false false x.aA.length (ab (eI .i64) x.aA)]:=ajU
theorem As:b9.size=5:=ajU
theorem Hm (x:bY):bY.mk x.ao x.a7 x.aA=x:=ajU
def nY:jb bC:=Be (lR (jW (eI .i64)) (jW b9)) (fun x=>(x.ah,x.au)) (by rintro⟨⟩ ⟨⟩ h;simpa using h)
theorem vU (x:bC):nY.cells x=[.sl false false x.ah.length (ab (eI .i64) x.ah),.sl false false x.au.length (ab b9 x.au)]:=ajU
theorem xJ:nY.size=2:=ajU
theorem De (x:bC):bC.mk x.ah x.au=x:=ajU
theorem ab7 {l:List _} : (ab (eI .i64) l).length=l.length*1:=bN _ l
theorem RF {l:List _} : (ab (eI .i64) l).take (l.length*1)=ab (eI .i64) l:=by
 have:=gB (eI .i64) l l.length;rw[aiZ]at this;exact this
theorem Z0 {l:List _} {i:Nat} {x:_} : (ab (eI .i64) (l.set i x)).take (l.length*1)=ab (eI .i64) (l.set i x):=by
 have:=@RF (l.set i x)
 rwa [aiY]at this
theorem ab8 {l:List _} : (ab (Fv (eI .i64)) l).length=l.length*1:=bN _ l
theorem RG {l:List _} : (ab (Fv (eI .i64)) l).take (l.length*1)=ab (Fv (eI .i64)) l:=by
 have:=gB (Fv (eI .i64)) l l.length;rw[aiZ]at this;exact this
theorem Z1 {l:List _} {i:Nat} {x:_} : (ab (Fv (eI .i64)) (l.set i x)).take (l.length*1)=ab (Fv (eI .i64)) (l.set i x):=by
 have:=@RG (l.set i x)
 rwa [aiY]at this
theorem ab9 {l:List _} : (ab (jW (eI .i64)) l).length=l.length*1:=bN _ l
theorem RH {l:List _} : (ab (jW (eI .i64)) l).take (l.length*1)=ab (jW (eI .i64)) l:=by
 have:=gB (jW (eI .i64)) l l.length;rw[aiZ]at this;exact this
theorem Z2 {l:List _} {i:Nat} {x:_} : (ab (jW (eI .i64)) (l.set i x)).take (l.length*1)=ab (jW (eI .i64)) (l.set i x):=by
 have:=@RH (l.set i x)
 rwa [aiY]at this
theorem aca {l:List _} : (ab (jW aF) l).length=l.length*1:=bN _ l
theorem RI {l:List _} : (ab (jW aF) l).take (l.length*1)=ab (jW aF) l:=by
 have:=gB (jW aF) l l.length;rw[aiZ]at this;exact this
theorem Z3 {l:List _} {i:Nat} {x:_} : (ab (jW aF) (l.set i x)).take (l.length*1)=ab (jW aF) (l.set i x):=by
 have:=@RI (l.set i x)
 rwa [aiY]at this
theorem acb {l:List _} : (ab aF l).length=l.length*4:=bN _ l
theorem RJ {l:List _} : (ab aF l).take (l.length*4)=ab aF l:=by
 have:=gB aF l l.length;rw[aiZ]at this;exact this
theorem Z4 {l:List _} {i:Nat} {x:_} : (ab aF (l.set i x)).take (l.length*4)=ab aF (l.set i x):=by
 have:=@RJ (l.set i x)
 rwa [aiY]at this
theorem acd {l:List _} : (ab b9 l).length=l.length*5:=bN _ l
theorem RL {l:List _} : (ab b9 l).take (l.length*5)=ab b9 l:=by
 have:=gB b9 l l.length;rw[aiZ]at this;exact this
theorem Z5 {l:List _} {i:Nat} {x:_} : (ab b9 (l.set i x)).take (l.length*5)=ab b9 (l.set i x):=by
 have:=@RL (l.set i x)
 rwa [aiY]at this
theorem ace {l:List _} : (ab dU l).length=l.length*4:=bN _ l
theorem RM {l:List _} : (ab dU l).take (l.length*4)=ab dU l:=by
 have:=gB dU l l.length;rw[aiZ]at this;exact this
theorem Z6 {l:List _} {i:Nat} {x:_} : (ab dU (l.set i x)).take (l.length*4)=ab dU (l.set i x):=by
 have:=@RM (l.set i x)
 rwa [aiY]at this
theorem acf {l:List _} : (ab bh l).length=l.length*3:=bN _ l
theorem RN {l:List _} : (ab bh l).take (l.length*3)=ab bh l:=by
 have:=gB bh l l.length;rw[aiZ]at this;exact this
theorem Z7 {l:List _} {i:Nat} {x:_} : (ab bh (l.set i x)).take (l.length*3)=ab bh (l.set i x):=by
 have:=@RN (l.set i x)
 rwa [aiY]at this
theorem acg {l:List _} : (ab bj l).length=l.length*6:=bN _ l
theorem RO {l:List _} : (ab bj l).take (l.length*6)=ab bj l:=by
 have:=gB bj l l.length;rw[aiZ]at this;exact this
theorem Z8 {l:List _} {i:Nat} {x:_} : (ab bj (l.set i x)).take (l.length*6)=ab bj (l.set i x):=by
 have:=@RO (l.set i x)
 rwa [aiY]at this
theorem ach {l:List _} : (ab fk l).length=l.length*2:=bN _ l
theorem RQ {l:List _} : (ab fk l).take (l.length*2)=ab fk l:=by
 have:=gB fk l l.length;rw[aiZ]at this;exact this
theorem Z9 {l:List _} {i:Nat} {x:_} : (ab fk (l.set i x)).take (l.length*2)=ab fk (l.set i x):=by
 have:=@RQ (l.set i x)
 rwa [aiY]at this
theorem vme:type_of% (ai @xE<|ai @Ao<|ai @CW<|ai @G9<|ai @S8<|ai @CV<|ai @Ha<|ai @Mi<|ai @xL<|ai @u3<|ai @xF<|ai @Ap<|ai @CX<|ai @xH<|ai @Ar<|ai @Aw<|ai @C0<|ai @nX<|ai @tB<|ai @Au<|ai @CY<|ai @xK<|ai @Ax<|ai @tA<|ai @vT<|ai @Av<|ai @CZ<|ai @xG<|ai @Aq<|ai @xI<|ai @As<|ai @vU<|@xJ):=⟨@xE,@Ao,@CW,@G9,@S8,@CV,@Ha,@Mi,@xL,@u3,@xF,@Ap,@CX,@xH,@Ar,@Aw,@C0,@nX,@tB,@Au,@CY,@xK,@Ax,@tA,@vT,@Av,@CZ,@xG,@Aq,@xI,@As,@vU,@xJ⟩
theorem vml:type_of% (ai @bg<|ai @Ms<|ai @Hl<|ai @Mv<|ai @Hn<|ai @Mt<|ai @Ho<|ai @AB<|ai @Mu<|ai @Hk<|ai @Hm<|ai @De<|ai @ab7<|ai @RF<|ai @Z0<|ai @ab8<|ai @RG<|ai @Z1<|ai @ab9<|ai @RH<|ai @Z2<|ai @aca<|ai @RI<|ai @Z3<|ai @acb<|ai @RJ<|ai @Z4<|ai @acd<|ai @RL<|ai @Z5<|ai @ace<|ai @RM<|ai @Z6<|ai @acf<|ai @RN<|ai @Z7<|ai @acg<|ai @RO<|ai @Z8<|ai @ach<|ai @RQ<|@Z9):=⟨@bg,@Ms,@Hl,@Mv,@Hn,@Mt,@Ho,@AB,@Mu,@Hk,@Hm,@De,@ab7,@RF,@Z0,@ab8,@RG,@Z1,@ab9,@RH,@Z2,@aca,@RI,@Z3,@acb,@RJ,@Z4,@acd,@RL,@Z5,@ace,@RM,@Z6,@acf,@RN,@Z7,@acg,@RO,@Z8,@ach,@RQ,@Z9⟩
theorem aau:UO tab ⟨.map 77 42,1,8,[.map none],false⟩ true (.agg [.int .i64 0,.sl false false 0 [],.int .i64 0,.sl false false 0 []]):=⟨_,_,rfl,rfl,rfl,rfl⟩
theorem aco {h:Nat->Option Row} {m:D} {n O:Int} {ok:Bool} : gm tab ⟨.map 77 42,1,8,[.map none],false⟩ h m (.agg [.int .i64 n,.int .i64 O]) ok=lkE true ok (.agg [.int .i64 0,.sl false false 0 [],.int .i64 0,.sl false false 0 []]) (n,some O) (mapOf h m):=ac8 aau rfl
theorem acq {h:Nat->Option Row} {y v:Nat} {n O:Int} {x:D} : cM tab ⟨.map 77 42,1,8,[.map none],false⟩ h (.mp y v) (.agg [.int .i64 n,.int .i64 O]) x=muE true h y v (n,some O) (sZ h x):=adi aau rfl
theorem acp {ty e d:Nat} (O:ty<900000):VK tab (some ⟨.map 77 42,1,8,[.map none],false⟩) ty e d=some ⟨.mp d e,[(d,some ⟨e,ty,[.mpc [] []],false,true,true⟩)]⟩:=aa9 aau O
theorem TG {m:List ((Int×Int)×aw)} {n O:Int} : po (.agg [.int .i64 0,.sl false false 0 [],.int .i64 0,.sl false false 0 []]) (dH m) (fC (bD aF) m) (n,some O)=.agg [.int .i64 (((fl (aw.mk (aB.mk 0 ([])) (aB.mk 0 ([]))) m (n,O)).cv).aj),.sl false false (((fl (aw.mk (aB.mk 0 ([])) (aB.mk 0 ([]))) m (n,O)).cv).aa).length (ab (eI .i64) (((fl (aw.mk (aB.mk 0 ([])) (aB.mk 0 ([]))) m (n,O)).cv).aa)),.int .i64 (((fl (aw.mk (aB.mk 0 ([])) (aB.mk 0 ([]))) m (n,O)).cu).aj),.sl false false (((fl (aw.mk (aB.mk 0 ([])) (aB.mk 0 ([]))) m (n,O)).cu).aa).length (ab (eI .i64) (((fl (aw.mk (aB.mk 0 ([])) (aB.mk 0 ([]))) m (n,O)).cu).aa))]:=HT (A:=(bD aF)) (aw.mk (aB.mk 0 ([])) (aB.mk 0 ([]))) (n,O) m
theorem UJ {m:List ((Int×Int)×aw)} {n O:Int} {v0:Int} {v1:(List Int)} {v2:Int} {v3:(List Int)} : D.mpc (wZ (dH m) (n,some O)) (Bt (dH m) (fC (bD aF) m) (n,some O) (.agg [.int .i64 v0,.sl false false v1.length (ab (eI .i64) v1),.int .i64 v2,.sl false false v3.length (ab (eI .i64) v3)]))=.mpc (dH (pz m (n,O) (aw.mk (aB.mk v0 v1) (aB.mk v2 v3)))) (fC (bD aF) (pz m (n,O) (aw.mk (aB.mk v0 v1) (aB.mk v2 v3)))):=by
 rw[<- OM (n,O) (aw.mk (aB.mk v0 v1) (aB.mk v2 v3)) m,<- OO (n,O) (aw.mk (aB.mk v0 v1) (aB.mk v2 v3)) m];rfl
theorem Yx {e d:Nat} (O:d<1000000):Yw ⟨.struct [(22,0),(23,1)],2,48,[.slice none 0 0,.slice none 0 0],false⟩ 25 e d 3 1 0=some ⟨.ptr d e 0,[(d,some ⟨e,25,[.nr 3 1 (4*e+2) [.nx 0 [],.sl false false 0 []]],false,false,true⟩)]⟩:=by
 unfold Yw;rw[if_pos ⟨by decide,rfl,rfl,by rw[cr];exact O,rfl⟩];rfl
theorem Yy {e d:Nat} (O:d<1000000):Yw ⟨.struct [(3,0),(26,1)],2,32,[.int .i64 0,.slice none 0 0],false⟩ 28 e d 65 6 1=some ⟨.ptr d e 0,[(d,some ⟨e,28,[.nr 65 6 (4*e+2) [.int .i64 0,.nx 0 []]],false,false,true⟩)]⟩:=by
 unfold Yw;rw[if_pos ⟨by decide,rfl,rfl,by rw[cr];exact O,rfl⟩];rfl
theorem vmm:type_of% (ai @aco<|ai @acq<|ai @acp<|ai @TG<|ai @UJ<|@vi):=⟨@aco,@acq,@acp,@TG,@UJ,@vi⟩
theorem w:type_of% (ai @v<|ai @vmt<|ai @vme<|ai @vml<|ai @vn<|ai @Yx<|ai @Yy<|@vmm):=⟨@v,@vmt,@vme,@vml,@vn,@Yx,@Yy,@vmm⟩
theorem bS:type_of% (ai @vme<|ai @aiQ<|ai @aiF<|ai @ahg<|ai @aiR<|@aik):=⟨@vme,@aiQ,@aiF,@ahg,@aiR,@aik⟩
def ez (l:Option (D×Row)) (d:List D):=dV (dT (mS (eI .i64))) (fun x:(List Int)=>gL x) (fun r:(List Int) =>.clean (.sl false false r.length (ab (eI .i64) r))) l d
theorem Ub {β:Type} {F:(List Int)->Option β} {R:β->RK} (O:(List Int)):dV (dT (mS (eI .i64))) F R none [.sl false false O.length (ab (eI .i64) O)]=(F (O)).map fun r=>(R r,none):=cP _ _ _ (O)
theorem nk:bX prog 129 ez:=bX.gP (mode := .clean) tok bG.none mixed func129 (by kernel_rfl) (fun _ _=>rfl) (fun _=>by kernel_rfl) fun p0 r O=>by
 replace O:gL p0=some r:=O;apply aG rfl ntmps129 results129;simp only[gQ];unfold gL at O;try simp only[w,seval]
 obtain⟨o4,aj,O⟩:=ae O;refine aC (fun s t H e=>match s with|aa=>t 0=.sl false false p0.length (ab (eI .i64) p0)∧t 3=.int .i64 aa) (fun o x t H e=>match o with|Y=>x=.exit 0∧t 0=.sl false false p0.length (ab (eI .i64) p0)∧t 3=.int .i64 Y) aj ?_ ?_ ?_
 ·and_intros<;>first|rfl|(simp only[w,seval]<;>rfl)
 ·rintro aa t H e Z c O;simp only[ui]at O;try simp only[w,seval,Z]
  apply sp e7 O<;>intro _ O
  ·obtain⟨x6,al,O⟩:=ae O;have U:=bn (eI .i64) al;simp only[bS]at U;try simp only[w,seval,Z,U]
   apply sp ak O<;>intro _ O
   ·cases O;try simp only[w,seval,Z,U]
    apply iS;and_intros<;>first|rfl|(simp only[w,seval,Z,U]<;>rfl)
   ·cases O;try simp only[w,seval,Z,U]
    apply ka;refine⟨rfl,?_⟩;and_intros<;>first|rfl|(simp only[w,seval,Z,U]<;>rfl)
  ·cases O;try simp only[w,seval,Z]
   apply ka;refine⟨rfl,?_⟩;and_intros<;>first|rfl|(simp only[w,seval,Z]<;>rfl)
 ·rintro x t H e hx;obtain⟨Y,rfl⟩:∃z,z=o4:=⟨_,rfl⟩;dsimp only at hx O;obtain⟨rfl,an⟩:=hx;obtain⟨x8,ao,O⟩:=ae O;obtain⟨aq,ar,au,av,ad⟩:=Kw (eI .i64) ao;simp only[bS]at ad;obtain⟨aw,ag,O⟩:=ae O;obtain⟨X,ah,ai⟩:=xk ag;replace X:=X.symm;subst X;cases O;try simp only[w,seval,an,aq,ar,au,av,ad,ah,ai]
def cX (l:Option (D×Row)) (d:List D):=dV (ie (aI .i64) (dT (mS (eI .i64)))) (fun x:Int×(List Int)=>fb x.1 x.2) (fun r:aB =>.clean (.agg [.int .i64 r.aj,.sl false false r.aa.length (ab (eI .i64) r.aa)])) l d
theorem BR {β:Type} {F:Int×(List Int)->Option β} {R:β->RK} (U:Int) (O:(List Int)):dV (ie (aI .i64) (dT (mS (eI .i64)))) F R none [.int .i64 U,.sl false false O.length (ab (eI .i64) O)]=(F (U,O)).map fun r=>(R r,none):=cP _ _ _ (U,O)
def wL:Env:=(Am.ext bm 129 false ez)
theorem MS:bG prog wL:=(bG.none.add nk false)
theorem xe:type_of% (ai @w<|ai @Ub<|ai @ez.eq_1<|@wL.eq_1):=⟨@w,@Ub,@ez.eq_1,@wL.eq_1⟩
theorem kW:bX prog 97 cX:=bX.gP (mode := .clean) tok MS mixed func97 (by kernel_rfl) (fun _ _=>rfl) (fun _=>by kernel_rfl) fun⟨X,Y⟩ r O=>by
 replace O:fb X Y=some r:=O;apply aG rfl ntmps97 results97;simp only[gQ];unfold fb at O;obtain⟨Z,U,O⟩:=ae O;try simp only[xe,seval,U]
 apply sp ak O<;>intro _ O
 ·cases O;try simp only[xe,seval,U]
 ·cases O;try simp only[xe,seval,U]
def oL (l:Option (D×Row)) (d:List D):=dV (dT (aI .i64)) (fun x:Int=>uh x) (fun r:aB =>.clean (.agg [.int .i64 r.aj,.sl false false r.aa.length (ab (eI .i64) r.aa)])) l d
theorem KT {β:Type} {F:Int->Option β} {R:β->RK} (O:Int):dV (dT (aI .i64)) F R none [.int .i64 O]=(F (O)).map fun r=>(R r,none):=cP _ _ _ (O)
def Dn:Env:=(Am.ext bm 97 false cX)
theorem Vr:bG prog Dn:=(bG.none.add kW false)
theorem eW:type_of% (ai @w<|ai @BR<|ai @cX.eq_1<|@Dn.eq_1):=⟨@w,@BR,@cX.eq_1,@Dn.eq_1⟩
theorem Ik:bX prog 60 oL:=bX.gP (mode := .clean) tok Vr mixed func60 (by kernel_rfl) (fun _ _=>rfl) (fun _=>by kernel_rfl) fun p0 r O=>by
 replace O:uh p0=some r:=O;apply aG rfl ntmps60 results60;simp only[gQ];unfold uh at O;try simp only[eW,seval]
 apply sp ak O<;>intro _ O
 ·cases O;try simp only[eW,seval]
 ·try simp only[eW,seval]
  obtain⟨o2,aK,O⟩:=ae O;refine jA 0 (fun s t H e=>match s with|U=>∃X:Nat,t 0=.int .i64 p0∧t 2=.ptr 2 X 0∧t 3=.int .i64 U∧H 2=some ⟨X,40,[.int .i64 0,.sl true true 0 []],false,false,false⟩) (fun s=>s=o2) ?_ ?_
  ·rintro U t H e ⟨X,ax⟩ rfl;try dsimp only at O
   try simp only[eW,seval,ax]
   obtain⟨aL,ay,O⟩:=ae O;refine aC (fun s t H e=>match s with|(az,aw)=>∃Y:Nat,∃aj:Nat,t 0=.int .i64 az∧t 2=.ptr 2 Y 0∧t 3=.int .i64 U∧t 4=.buf 4 aj 1 0 (aw).length∧H 2=some ⟨Y,40,[.int .i64 0,.sl true true 0 []],false,false,false⟩∧H 4=some ⟨aj,3,ab (eI .i64) aw,false,true,false⟩) (fun o x t H e=>match o with|Z=>x=.exit 0∧∃aa:Nat,∃ad:Nat,t 2=.ptr 2 aa 0∧t 3=.int .i64 U∧t 4=.buf 4 ad 1 0 (Z).length∧H 2=some ⟨aa,40,[.int .i64 0,.sl true true 0 []],false,false,false⟩∧H 4=some ⟨ad,3,ab (eI .i64) Z,false,true,false⟩) ay ?_ ?_ ?_
   ·refine⟨X,e,?_⟩;and_intros<;>first|rfl|(simp only[eW,seval,ax]<;>rfl)
   ·rintro⟨az,aw⟩ t H e ⟨Y,aj,Zb⟩ c O;simp only[vg]at O;try simp only[eW,seval,Zb]
    apply sp ak O<;>intro _ O
    ·obtain⟨aN,aA,O⟩:=ae O;have ag:=vb aA;try simp only[eW,seval,Zb,ag]
     apply sp ak O<;>intro _ O
     ·obtain⟨aO,aB,O⟩:=ae O;obtain⟨al,ah,ao,aq⟩:=iG (eI .i64) aB;simp only[bS]at ah;obtain⟨aP,aD,O⟩:=ae O;have aE:=rU aD;cases O;try simp only[eW,seval,Zb,ag,al,ah,ao,aq,aE]
      apply iS;refine⟨Y,e+1+1+1+1,?_⟩;and_intros<;>first|rfl|(simp only[eW,seval,Zb,ag,al,ah,ao,aq,aE]<;>rfl)
     ·obtain⟨aQ,aF,O⟩:=ae O;obtain⟨ar,ai,au,av⟩:=iG (eI .i64) aF;simp only[bS]at ai;obtain⟨aR,aH,O⟩:=ae O;have aI:=rU aH;cases O;try simp only[eW,seval,Zb,ag,ar,ai,au,av,aI]
      apply iS;refine⟨Y,e+1+1+1,?_⟩;and_intros<;>first|rfl|(simp only[eW,seval,Zb,ag,ar,ai,au,av,aI]<;>rfl)
    ·cases O;try simp only[eW,seval,Zb]
     apply ka;refine⟨rfl,⟨Y,aj,?_⟩⟩;and_intros<;>first|rfl|(simp only[eW,seval,Zb]<;>rfl)
   ·rintro x t H e hx;obtain⟨Z,rfl⟩:∃z,z=aL:=⟨_,rfl⟩;dsimp only at hx O;obtain⟨rfl,⟨aa,ad,aM⟩⟩:=hx;obtain⟨aS,aJ,O⟩:=ae O;cases O;try simp only[eW,seval,aM,aJ]
  ·clear O;have O:=aK;try simp only[eW,seval]
   apply sp ak O<;>intro _ O
   ·cases O;try simp only[eW,seval]
    rw[an];refine⟨_,rfl,?_⟩;refine⟨0,?_⟩;and_intros<;>first|rfl|(simp only[eW,seval]<;>rfl)
   ·cases O;try simp only[eW,seval]
    rw[an];refine⟨_,rfl,?_⟩;refine⟨0,?_⟩;and_intros<;>first|rfl|(simp only[eW,seval]<;>rfl)
def bu (l:Option (D×Row)) (d:List D):=dV (dT (bD dF)) (fun x:aB=>cW x) (fun r:Bool =>.clean (.bool r)) l d
theorem rq {β:Type} {F:aB->Option β} {R:β->RK} (U:Int) (O:(List Int)):dV (dT (bD dF)) F R none [.agg [.int .i64 U,.sl false false O.length (ab (eI .i64) O)]]=(F ((aB.mk U O))).map fun r=>(R r,none):=cP _ _ _ ((aB.mk U O))
theorem fW:bX prog 84 bu:=bX.gP (mode := .clean) tok bG.none mixed func84 (by kernel_rfl) (fun _ _=>rfl) (fun _=>by kernel_rfl) fun Z r O=>by
 replace O:cW Z=some r:=O;apply aG rfl ntmps84 results84;simp only[gQ];unfold cW at O;try simp only[w,seval]
 obtain⟨o5,av,O⟩:=ae O;refine aC (fun s t H e=>match s with|ao=>∃ad:Nat,t 1=.ptr 1 ad 0∧t 3=.int .i64 ao∧H 1=some ⟨ad,40,[.int .i64 Z.aj,.sl false false Z.aa.length (ab (eI .i64) Z.aa)],false,false,false⟩) (fun o x t H e=>match o with|(.inl _)=>x=.exit 0∧∃X:Nat,t 1=.ptr 1 X 0∧H 1=some ⟨X,40,[.int .i64 Z.aj,.sl false false Z.aa.length (ab (eI .i64) Z.aa)],false,false,false⟩|(.inr r)=>x=.ret∧fF .clean tab none [.tmp 2] ⟨t,EH H,e⟩=some (.clean (.bool r),none)) av ?_ ?_ ?_
 ·refine⟨0,?_⟩;and_intros<;>first|rfl|(simp only[w,seval]<;>rfl)
 ·rintro ao t H e ⟨ad,Za⟩ c O;simp only[oh]at O;try simp only[w,seval,Za]
  apply sp ak O<;>intro _ O
  ·obtain⟨x7,aq,O⟩:=ae O;have U:=bn (eI .i64) aq;simp only[bS]at U;try simp only[w,seval,Za,U]
   apply sp aP O<;>intro _ O
   ·cases O;try simp only[w,seval,Za,U]
    refine qH ⟨rfl,?_⟩;try simp only[w,seval,Za,U]
   ·have U:=bn (eI .i64) aq;simp only[bS]at U;try simp only[w,seval,Za,U,U]
    apply sp ak O<;>intro _ O
    ·cases O;try simp only[w,seval,Za,U,U]
     refine qH ⟨rfl,?_⟩;try simp only[w,seval,Za,U,U]
    ·cases O;try simp only[w,seval,Za,U,U]
     apply iS;refine⟨ad,?_⟩;and_intros<;>first|rfl|(simp only[w,seval,Za,U,U]<;>rfl)
  ·cases O;try simp only[w,seval,Za]
   apply ka;refine⟨rfl,⟨ad,?_⟩⟩;and_intros<;>first|rfl|(simp only[w,seval,Za]<;>rfl)
 ·rintro x t H e hx;rcases o5 with _|ra
  ·dsimp only at hx O;obtain⟨rfl,⟨X,Y⟩⟩:=hx;try simp only[w,seval,Y]
   obtain⟨aw,ar,O⟩:=ae O;refine bB 0 (fun s t H e=>match s with|ag=>∃ah:Nat,t 1=.ptr 1 ah 0∧t 4=.int .i64 (Z.aa.length:Int)∧t 44=.bool ag∧H 1=some ⟨ah,40,[.int .i64 Z.aj,.sl false false Z.aa.length (ab (eI .i64) Z.aa)],false,false,false⟩) (fun s=>s=aw) ?_ ?_
   ·rintro ag t H e ⟨ah,ai⟩ rfl;try dsimp only at O
    try simp only[w,seval,ai]
    apply sp ak O<;>intro _ O
    ·cases O;try simp only[w,seval,ai]
    ·try simp only[w,seval,ai]
     apply sp aP O<;>intro _ O
     ·cases O;try simp only[w,seval,ai]
     ·obtain⟨ax,au,O⟩:=ae O;have al:=bn (eI .i64) au;simp only[bS]at al;cases O;try simp only[w,seval,ai,al]
   ·clear O;have O:=ar;try simp only[w,seval,Y]
    apply sp aP O<;>intro _ O
    ·cases O;try simp only[w,seval,Y]
     rw[an];refine⟨_,rfl,?_⟩;refine⟨X,?_⟩;and_intros<;>first|rfl|(simp only[w,seval,Y]<;>rfl)
    ·try simp only[w,seval,Y]
     apply sp aP O<;>intro _ O
     ·cases O;try simp only[w,seval,Y]
      rw[an];refine⟨_,rfl,?_⟩;refine⟨X,?_⟩;and_intros<;>first|rfl|(simp only[w,seval,Y]<;>rfl)
     ·cases O;try simp only[w,seval,Y]
      rw[an];refine⟨_,rfl,?_⟩;refine⟨X,?_⟩;and_intros<;>first|rfl|(simp only[w,seval,Y]<;>rfl)
  ·dsimp only at hx O;obtain⟨rfl,hE⟩:=hx;cases O;try simp only[bd,aX,bk,cJ,cI,ca,cc]
   exact hE
def l8 (l:Option (D×Row)) (d:List D):=dV (dT (bD dF)) (fun x:aB=>qf x) (fun r:aB =>.clean (.agg [.int .i64 r.aj,.sl false false r.aa.length (ab (eI .i64) r.aa)])) l d
def zi:Env:=(Am.ext (Am.ext bm 84 false bu) 97 false cX)
theorem QP:bG prog zi:=((bG.none.add fW false).add kW false)
theorem zU:type_of% (ai @w<|ai @rq<|ai @bu.eq_1<|ai @BR<|ai @cX.eq_1<|@zi.eq_1):=⟨@w,@rq,@bu.eq_1,@BR,@cX.eq_1,@zi.eq_1⟩
theorem Eu:bX prog 95 l8:=bX.gP (mode := .clean) tok QP mixed func95 (by kernel_rfl) (fun _ _=>rfl) (fun _=>by kernel_rfl) fun Y r O=>by
 replace O:qf Y=some r:=O;apply aG rfl ntmps95 results95;simp only[gQ];unfold qf at O;obtain⟨Z,U,O⟩:=ae O;try simp only[zU,seval,U]
 apply sp ak O<;>intro _ O
 ·cases O;try simp only[zU,seval,U]
 ·obtain⟨r3,X,O⟩:=ae O;cases O;try simp only[zU,seval,U,X]
def eB (l:Option (D×Row)) (d:List D):=dV (ie (mS (eI .i64)) (dT (aI .i64))) (fun x:(List Int)×Int=>iw x.1 x.2) (fun r:Int =>.clean (.int .i64 r)) l d
theorem Wu {β:Type} {F:(List Int)×Int->Option β} {R:β->RK} (O:(List Int)) (U:Int):dV (ie (mS (eI .i64)) (dT (aI .i64))) F R none [.sl false false O.length (ab (eI .i64) O),.int .i64 U]=(F (O,U)).map fun r=>(R r,none):=cP _ _ _ (O,U)
theorem oe:bX prog 143 eB:=bX.gP (mode := .clean) tok bG.none mixed func143 (by kernel_rfl) (fun _ _=>rfl) (fun _=>by kernel_rfl) fun⟨Y,Z⟩ r O=>by
 replace O:iw Y Z=some r:=O;apply aG rfl ntmps143 results143;simp only[gQ];unfold iw at O;try simp only[w,seval]
 apply sp ak O<;>intro _ O
 ·obtain⟨x2,X,O⟩:=ae O;have U:=bn (eI .i64) X;simp only[bS]at U;cases O;try simp only[w,seval,U]
 ·cases O;try simp only[w,seval]
def kM (l:Option (D×Row)) (d:List D):=dV (ie (mS (eI .i64)) (dT (mS (eI .i64)))) (fun x:(List Int)×(List Int)=>jR x.1 x.2) (fun r:(List Int) =>.clean (.sl false false r.length (ab (eI .i64) r))) l d
theorem BS {β:Type} {F:(List Int)×(List Int)->Option β} {R:β->RK} (O:(List Int)) (U:(List Int)):dV (ie (mS (eI .i64)) (dT (mS (eI .i64)))) F R none [.sl false false O.length (ab (eI .i64) O),.sl false false U.length (ab (eI .i64) U)]=(F (O,U)).map fun r=>(R r,none):=cP _ _ _ (O,U)
def tR:Env:=(Am.ext (Am.ext bm 129 false ez) 143 false eB)
theorem J1:bG prog tR:=((bG.none.add nk false).add oe false)
theorem b8:type_of% (ai @w<|ai @Ub<|ai @ez.eq_1<|ai @Wu<|ai @eB.eq_1<|@tR.eq_1):=⟨@w,@Ub,@ez.eq_1,@Wu,@eB.eq_1,@tR.eq_1⟩
theorem yg:bX prog 130 kM:=bX.gP (mode := .clean) tok J1 mixed func130 (by kernel_rfl) (fun _ _=>rfl) (fun _=>by kernel_rfl) fun⟨p0,p1⟩ r U=>by
 replace U:jR p0 p1=some r:=U;apply aG rfl ntmps130 results130;simp only[gQ];unfold jR at U;obtain⟨x1,aT,U⟩:=ae U;obtain⟨X,Y,Z,O,aa⟩:=mk_one (eI .i64) aT;simp only[bS]at O;try simp only[b8,seval,X,Y,Z,O,aa]
 obtain⟨aU,aH,U⟩:=ae U;refine aC (fun s t H e=>match s with|(al,aD)=>∃ao:Nat,t 0=.sl false false p0.length (ab (eI .i64) p0)∧t 1=.sl false false p1.length (ab (eI .i64) p1)∧t 5=.buf 5 ao 1 0 (aD).length∧t 6=.int .i64 al∧H 5=some ⟨ao,3,ab (eI .i64) aD,false,true,false⟩) (fun o x t H e=>match o with|aq=>x=.exit 0∧∃ar:Nat,t 5=.buf 5 ar 1 0 (aq).length∧H 5=some ⟨ar,3,ab (eI .i64) aq,false,true,false⟩) aH ?_ ?_ ?_
 ·refine⟨1,?_⟩;and_intros<;>first|rfl|(simp only[b8,seval,X,Y,Z,O,aa]<;>rfl)
 ·rintro⟨al,aD⟩ t H e ⟨ao,Za⟩ c U;simp only[ot]at U;try simp only[b8,seval,X,Y,Z,O,aa,Za]
  apply sp ak U<;>intro _ U
  ·try simp only[b8,seval,X,Y,Z,O,aa,Za]
   obtain⟨aV,aI,U⟩:=ae U;refine aC (fun s t H e=>match s with|(aE,aF,au)=>∃av:Nat,t 0=.sl false false p0.length (ab (eI .i64) p0)∧t 1=.sl false false p1.length (ab (eI .i64) p1)∧t 5=.buf 5 av 1 0 (au).length∧t 6=.int .i64 al∧t 7=.int .i64 aE∧t 8=.int .i64 aF∧H 5=some ⟨av,3,ab (eI .i64) au,false,true,false⟩) (fun o x t H e=>match o with|aw=>x=.exit 2∧∃ah:Nat,t 0=.sl false false p0.length (ab (eI .i64) p0)∧t 1=.sl false false p1.length (ab (eI .i64) p1)∧t 5=.buf 5 ah 1 0 (aw).length∧t 6=.int .i64 al∧H 5=some ⟨ah,3,ab (eI .i64) aw,false,true,false⟩) aI ?_ ?_ ?_
   ·refine⟨ao,?_⟩;and_intros<;>first|rfl|(simp only[b8,seval,X,Y,Z,O,aa,Za]<;>rfl)
   ·rintro⟨aE,aF,au⟩ t H e ⟨av,Ze⟩ c U;simp only[ou]at U;try simp only[b8,seval,X,Y,Z,O,aa,Ze]
    obtain⟨aW,aJ,U⟩:=ae U;refine bB 0 (fun s t H e=>match s with|ax=>∃ag:Nat,t 0=.sl false false p0.length (ab (eI .i64) p0)∧t 1=.sl false false p1.length (ab (eI .i64) p1)∧t 5=.buf 5 ag 1 0 (au).length∧t 6=.int .i64 al∧t 7=.int .i64 aE∧t 8=.int .i64 aF∧t 29=.bool ax∧H 5=some ⟨ag,3,ab (eI .i64) au,false,true,false⟩) (fun s=>s=aW) ?_ ?_
    ·rintro ax t H e ⟨ag,aj⟩ rfl;try dsimp only at U
     try simp only[b8,seval,X,Y,Z,O,aa,aj]
     apply sp ak U<;>intro _ U
     ·obtain⟨aY,ay,U⟩:=ae U;have ad:=bn (eI .i64) ay;simp only[bS]at ad;obtain⟨aZ,aK,U⟩:=ae U;have ai:=bn (eI .i64) aK;simp only[bS]at ai;obtain⟨a1,az,U⟩:=ae U;try simp only[b8,seval,X,Y,Z,O,aa,aj,ad,ai,az]
      refine bH (by kernel_rfl) ?_;obtain⟨aL,aM,U⟩:=ae U;have aN:=vb aM;have ad:=bn (eI .i64) ay;simp only[bS]at ad;have aB:=fK (eI .i64) (x':=aL) (fo:=0) (cs:=[.int .i64 aL]) ay rfl (aiG rfl);simp only[bS,Nat.add_zero]at aB;have aA:=aB;simp only[putCells,List.length_cons,List.length_nil,ahE,Nat.reduceAdd]at aA;obtain⟨a6,aO,U⟩:=ae U;have aQ:=rU aO;cases U;try simp only[b8,seval,X,Y,Z,O,aa,aj,ad,ai,az,aN,ad,aB,aA,aQ]
      apply iS;refine⟨ag,?_⟩;and_intros<;>first|rfl|(simp only[b8,seval,X,Y,Z,O,aa,aj,ad,ai,az,aN,ad,aB,aA,aQ]<;>rfl)
     ·cases U;try simp only[b8,seval,X,Y,Z,O,aa,aj]
      apply ka;refine⟨rfl,⟨ag,?_⟩⟩;and_intros<;>first|rfl|(simp only[b8,seval,X,Y,Z,O,aa,aj]<;>rfl)
    ·clear U;have U:=aJ;try simp only[b8,seval,X,Y,Z,O,aa,Ze]
     apply sp aP U<;>intro _ U
     ·cases U;try simp only[b8,seval,X,Y,Z,O,aa,Ze]
      rw[an];refine⟨_,rfl,?_⟩;refine⟨av,?_⟩;and_intros<;>first|rfl|(simp only[b8,seval,X,Y,Z,O,aa,Ze]<;>rfl)
     ·cases U;try simp only[b8,seval,X,Y,Z,O,aa,Ze]
      rw[an];refine⟨_,rfl,?_⟩;refine⟨av,?_⟩;and_intros<;>first|rfl|(simp only[b8,seval,X,Y,Z,O,aa,Ze]<;>rfl)
   ·rintro x t H e hx;obtain⟨aw,rfl⟩:∃z,z=aV:=⟨_,rfl⟩;dsimp only at hx U;obtain⟨rfl,⟨ah,aR⟩⟩:=hx;cases U;try simp only[b8,seval,X,Y,Z,O,aa,aR]
    apply iS;refine⟨ah,?_⟩;and_intros<;>first|rfl|(simp only[b8,seval,X,Y,Z,O,aa,aR]<;>rfl)
  ·cases U;try simp only[b8,seval,X,Y,Z,O,aa,Za]
   apply ka;refine⟨rfl,⟨ao,?_⟩⟩;and_intros<;>first|rfl|(simp only[b8,seval,X,Y,Z,O,aa,Za]<;>rfl)
 ·rintro x t H e hx;obtain⟨aq,rfl⟩:∃z,z=aU:=⟨_,rfl⟩;dsimp only at hx U;obtain⟨rfl,⟨ar,aX⟩⟩:=hx;obtain⟨a7,aS,U⟩:=ae U;cases U;try simp only[b8,seval,X,Y,Z,O,aa,aX,aS]
def gS (l:Option (D×Row)) (d:List D):=dV (ie (mS (eI .i64)) (dT (mS (eI .i64)))) (fun x:(List Int)×(List Int)=>nn x.1 x.2) (fun r:Bool =>.clean (.bool r)) l d
def wK:Env:=(Am.ext bm 143 false eB)
theorem MR:bG prog wK:=(bG.none.add oe false)
theorem ib:type_of% (ai @w<|ai @Wu<|ai @eB.eq_1<|@wK.eq_1):=⟨@w,@Wu,@eB.eq_1,@wK.eq_1⟩
theorem uc:bX prog 124 gS:=bX.gP (mode := .clean) tok MR mixed func124 (by kernel_rfl) (fun _ _=>rfl) (fun _=>by kernel_rfl) fun⟨p0,p1⟩ r O=>by
 replace O:nn p0 p1=some r:=O;apply aG rfl ntmps124 results124;simp only[gQ];unfold nn at O;try simp only[ib,seval]
 obtain⟨o5,aa,O⟩:=ae O;refine aC (fun s t H e=>match s with|Z=>t 0=.sl false false p0.length (ab (eI .i64) p0)∧t 1=.sl false false p1.length (ab (eI .i64) p1)∧t 5=.int .i64 Z) (fun o x t H e=>match o with|(.inl _)=>x=.exit 0|(.inr r)=>x=.ret∧fF .clean tab none [.tmp 4] ⟨t,EH H,e⟩=some (.clean (.bool r),none)) aa ?_ ?_ ?_
 ·and_intros<;>first|rfl|(simp only[ib,seval]<;>rfl)
 ·rintro Z t H e Y c O;simp only[qg]at O;try simp only[ib,seval,Y]
  apply sp ak O<;>intro _ O
  ·obtain⟨r7,U,O⟩:=ae O;obtain⟨r8,X,O⟩:=ae O;try simp only[ib,seval,Y,U,X]
   apply sp ak O<;>intro _ O
   ·cases O;try simp only[ib,seval,Y,U,X]
    refine qH ⟨rfl,?_⟩;try simp only[ib,seval,Y,U,X]
   ·cases O;try simp only[ib,seval,Y,U,X]
    apply iS;and_intros<;>first|rfl|(simp only[ib,seval,Y,U,X]<;>rfl)
  ·cases O;try simp only[ib,seval,Y]
   apply ka;exact rfl
 ·rintro x t H e hx;rcases o5 with _|ra
  ·dsimp only at hx O;subst hx;cases O;try simp only[ib,seval]
  ·dsimp only at hx O;obtain⟨rfl,hE⟩:=hx;cases O;try simp only[bd,aX,bk,cJ,cI,ca,cc]
   exact hE
def gg (l:Option (D×Row)) (d:List D):=dV (ie (mS (eI .i64)) (dT (mS (eI .i64)))) (fun x:(List Int)×(List Int)=>jQ x.1 x.2) (fun r:(List Int) =>.clean (.sl false false r.length (ab (eI .i64) r))) l d
def tQ:Env:=(Am.ext (Am.ext bm 129 false ez) 143 false eB)
theorem J0:bG prog tQ:=((bG.none.add nk false).add oe false)
theorem eZ:type_of% (ai @w<|ai @Ub<|ai @ez.eq_1<|ai @Wu<|ai @eB.eq_1<|@tQ.eq_1):=⟨@w,@Ub,@ez.eq_1,@Wu,@eB.eq_1,@tQ.eq_1⟩
theorem si:bX prog 128 gg:=bX.gP (mode := .clean) tok J0 mixed func128 (by kernel_rfl) (fun _ _=>rfl) (fun _=>by kernel_rfl) fun⟨p0,p1⟩ r O=>by
 replace O:jQ p0 p1=some r:=O;apply aG rfl ntmps128 results128;simp only[gQ];unfold jQ at O;try simp only[eZ,seval]
 obtain⟨o9,az,O⟩:=ae O;refine aC (fun s t H e=>match s with|(ar,au,aq)=>∃ag:Nat,t 0=.sl false false p0.length (ab (eI .i64) p0)∧t 1=.sl false false p1.length (ab (eI .i64) p1)∧t 5=.buf 5 ag 1 0 (aq).length∧t 6=.int .i64 ar∧t 7=.int .i64 au∧H 5=some ⟨ag,3,ab (eI .i64) aq,false,true,false⟩) (fun o x t H e=>match o with|Y=>x=.exit 0∧∃Z:Nat,t 5=.buf 5 Z 1 0 (Y).length∧H 5=some ⟨Z,3,ab (eI .i64) Y,false,true,false⟩) az ?_ ?_ ?_
 ·refine⟨1,?_⟩;and_intros<;>first|rfl|(simp only[eZ,seval]<;>rfl)
 ·rintro⟨ar,au,aq⟩ t H e ⟨ag,Za⟩ c O;simp only[oo]at O;try simp only[eZ,seval,Za]
  apply sp ak O<;>intro _ O
  ·obtain⟨aB,av,O⟩:=ae O;have U:=bn (eI .i64) av;simp only[bS]at U;obtain⟨aD,X,O⟩:=ae O;try simp only[eZ,seval,Za,U,X]
   refine bH (by kernel_rfl) ?_;try simp only[eZ,seval,Za,U,X]
   apply sp ak O<;>intro _ O
   ·obtain⟨aE,aw,O⟩:=ae O;obtain⟨ah,aa,ai,aj⟩:=iG (eI .i64) aw;simp only[bS]at aa;cases O;try simp only[eZ,seval,Za,U,X,ah,aa,ai,aj]
    apply iS;refine⟨e+1+1+1+1+1+1,?_⟩;and_intros<;>first|rfl|(simp only[eZ,seval,Za,U,X,ah,aa,ai,aj]<;>rfl)
   ·obtain⟨aF,ax,O⟩:=ae O;obtain⟨al,ad,an,ao⟩:=iG (eI .i64) ax;simp only[bS]at ad;cases O;try simp only[eZ,seval,Za,U,X,al,ad,an,ao]
    apply iS;refine⟨e+1+1+1+1,?_⟩;and_intros<;>first|rfl|(simp only[eZ,seval,Za,U,X,al,ad,an,ao]<;>rfl)
  ·cases O;try simp only[eZ,seval,Za]
   apply ka;refine⟨rfl,⟨ag,?_⟩⟩;and_intros<;>first|rfl|(simp only[eZ,seval,Za]<;>rfl)
 ·rintro x t H e hx;obtain⟨Y,rfl⟩:∃z,z=o9:=⟨_,rfl⟩;dsimp only at hx O;obtain⟨rfl,⟨Z,aA⟩⟩:=hx;obtain⟨aH,ay,O⟩:=ae O;cases O;try simp only[eZ,seval,aA,ay]
def kB (l:Option (D×Row)) (d:List D):=dV (ie (mS (eI .i64)) (dT (mS (eI .i64)))) (fun x:(List Int)×(List Int)=>pB x.1 x.2) (fun r:(List Int)×(List Int) =>.clean (.tup [.sl false false r.1.length (ab (eI .i64) r.1),.sl false false r.2.length (ab (eI .i64) r.2)])) l d
theorem ug (O:(List Int)) (U:(List Int)):kM none [.sl false false O.length (ab (eI .i64) O),.sl false false U.length (ab (eI .i64) U)]=(jR O U).map fun r:(List Int)=>(.clean (.sl false false r.length (ab (eI .i64) r)),none):=cP _ _ _ (O,U)
theorem w8 (O:(List Int)):ez none [.sl false false O.length (ab (eI .i64) O)]=(gL O).map fun r:(List Int)=>(.clean (.sl false false r.length (ab (eI .i64) r)),none):=cP _ _ _ (O)
def wM:Env:=(Am.keep 7 (Am.ext (Am.ext (Am.ext (Am.ext bm 124 false gS) 128 false gg) 129 false ez) 130 false kM))
theorem MT:bG prog wM:=(bG.keep ((((bG.none.add uc false).add si false).add nk false).add yg false) 7)
theorem dz:type_of% (ai @w<|ai @BS<|ai @gS.eq_1<|ai @gg.eq_1<|ai @w8<|ai @ug<|@wM.eq_1):=⟨@w,@BS,@gS.eq_1,@gg.eq_1,@w8,@ug,@wM.eq_1⟩
theorem AR:bX prog 122 kB:=bX.gP (mode := .clean) tok MT mixed func122 (by kernel_rfl) (fun _ _=>rfl) (fun _=>by kernel_rfl) fun⟨p0,p1⟩ r O=>by
 replace O:pB p0 p1=some r:=O;apply aG rfl ntmps122 results122;simp only[gQ];unfold pB at O;obtain⟨x1,aW,O⟩:=ae O;obtain⟨ah,ai,aj,Z,al⟩:=mk_one (eI .i64) aW;simp only[bS]at Z;try simp only[dz,seval,ah,ai,aj,Z,al]
 obtain⟨aX,aO,O⟩:=ae O;refine aC (fun s t H e=>match s with|(aN,aE,ar)=>∃aw:Nat,t 0=.sl false false p0.length (ab (eI .i64) p0)∧t 1=.sl false false p1.length (ab (eI .i64) p1)∧t 6=.buf 6 aw 1 0 (ar).length∧t 7=.sl false false aN.length (ab (eI .i64) aN)∧t 8=.int .i64 aE∧H 6=some ⟨aw,3,ab (eI .i64) ar,false,true,false⟩) (fun o x t H e=>match o with|(ax,ay)=>x=.exit 0∧∃az:Nat,t 6=.buf 6 az 1 0 (ay).length∧t 7=.sl false false ax.length (ab (eI .i64) ax)∧H 6=some ⟨az,3,ab (eI .i64) ay,false,true,false⟩) aO ?_ ?_ ?_
 ·refine⟨1,?_⟩;and_intros<;>first|rfl|(simp only[dz,seval,ah,ai,aj,Z,al]<;>rfl)
 ·rintro⟨aN,aE,ar⟩ t H e ⟨aw,Za⟩ c O;simp only[qh]at O;try simp only[dz,seval,ah,ai,aj,Z,al,Za]
  apply sp ak O<;>intro _ O
  ·obtain⟨a6,aP,O⟩:=ae O;have U:=bn (eI .i64) aP;simp only[bS]at U;obtain⟨a7,aQ,O⟩:=ae O;obtain⟨X,Y,aa,ad⟩:=aaC (eI .i64) aQ;simp only[bg,bS,List.length_cons,ahE,Nat.reduceAdd]at X Y;obtain⟨aF,ag,O⟩:=ae O;try simp only[dz,seval,ah,ai,aj,Z,al,Za,U,X,Y,aa,ad,ag]
   obtain⟨aY,aR,O⟩:=ae O;refine aC (fun s t H e=>match s with|(aS,aI)=>∃av:Nat,t 0=.sl false false p0.length (ab (eI .i64) p0)∧t 1=.sl false false p1.length (ab (eI .i64) p1)∧t 6=.buf 6 av 1 0 (ar).length∧t 7=.sl false false aF.length (ab (eI .i64) aF)∧t 8=.int .i64 aE∧t 9=.int .i64 aS∧t 10=.int .i64 aI∧H 6=some ⟨av,3,ab (eI .i64) ar,false,true,false⟩) (fun o x t H e=>match o with|an=>x=.exit 2∧∃au:Nat,t 0=.sl false false p0.length (ab (eI .i64) p0)∧t 1=.sl false false p1.length (ab (eI .i64) p1)∧t 6=.buf 6 au 1 0 (ar).length∧t 7=.sl false false aF.length (ab (eI .i64) aF)∧t 8=.int .i64 aE∧t 9=.int .i64 an∧H 6=some ⟨au,3,ab (eI .i64) ar,false,true,false⟩) aR ?_ ?_ ?_
   ·refine⟨aw,?_⟩;and_intros<;>first|rfl|(simp only[dz,seval,ah,ai,aj,Z,al,Za,U,X,Y,aa,ad,ag]<;>rfl)
   ·rintro⟨aS,aI⟩ t H e ⟨av,Zc⟩ c O;simp only[np]at O;try simp only[dz,seval,ah,ai,aj,Z,al,U,X,Y,aa,ad,ag,Zc]
    apply sp ak O<;>intro _ O
    ·obtain⟨aZ,aT,O⟩:=ae O;have aA:=rU aT;have i46:=ug p1 ([aZ]);simp only[bg,bS,List.length_cons,List.length_nil,ahE,Nat.reduceAdd,aiY]at i46;obtain⟨a8,ao,O⟩:=ae O;obtain⟨ba,aq,O⟩:=ae O;try simp only[dz,seval,ah,ai,aj,Z,al,U,X,Y,aa,ad,ag,Zc,aA,i46,ao,aq]
     apply sp ak O<;>intro _ O
     ·cases O;try simp only[dz,seval,ah,ai,aj,Z,al,U,X,Y,aa,ad,ag,Zc,aA,i46,ao,aq]
      apply iS;refine⟨av,?_⟩;and_intros<;>first|rfl|(simp only[dz,seval,ah,ai,aj,Z,al,U,X,Y,aa,ad,ag,Zc,aA,i46,ao,aq]<;>rfl)
     ·cases O;try simp only[dz,seval,ah,ai,aj,Z,al,U,X,Y,aa,ad,ag,Zc,aA,i46,ao,aq]
      apply iS;refine⟨av,?_⟩;and_intros<;>first|rfl|(simp only[dz,seval,ah,ai,aj,Z,al,U,X,Y,aa,ad,ag,Zc,aA,i46,ao,aq]<;>rfl)
    ·cases O;try simp only[dz,seval,ah,ai,aj,Z,al,U,X,Y,aa,ad,ag,Zc]
     apply ka;refine⟨rfl,⟨av,?_⟩⟩;and_intros<;>first|rfl|(simp only[dz,seval,ah,ai,aj,Z,al,U,X,Y,aa,ad,ag,Zc]<;>rfl)
   ·rintro x t H e hx;obtain⟨an,rfl⟩:∃z,z=aY:=⟨_,rfl⟩;dsimp only at hx O;obtain⟨rfl,⟨au,aU⟩⟩:=hx;obtain⟨bb,aJ,O⟩:=ae O;have aB:=bn (eI .i64) aJ;simp only[bS]at aB;have aH:=fK (eI .i64) (x':=an) (fo:=0) (cs:=[.int .i64 an]) aJ rfl (aiG rfl);simp only[bS,Nat.add_zero]at aH;have aD:=aH;simp only[putCells,List.length_cons,List.length_nil,ahE,Nat.reduceAdd]at aD;have i52:=w8 ([an]);simp only[bg,bS,List.length_cons,List.length_nil,ahE,Nat.reduceAdd,aiY]at i52;obtain⟨bc,aK,O⟩:=ae O;obtain⟨bd,aL,O⟩:=ae O;obtain⟨bf,aM,O⟩:=ae O;cases O;try simp only[dz,seval,ah,ai,aj,Z,al,U,X,Y,aa,ad,ag,aU,aB,aH,aD,i52,aK,aL,aM]
    apply iS;refine⟨au,?_⟩;and_intros<;>first|rfl|(simp only[dz,seval,ah,ai,aj,Z,al,U,X,Y,aa,ad,ag,aU,aB,aH,aD,i52,aK,aL,aM]<;>rfl)
  ·cases O;try simp only[dz,seval,ah,ai,aj,Z,al,Za]
   apply ka;refine⟨rfl,⟨aw,?_⟩⟩;and_intros<;>first|rfl|(simp only[dz,seval,ah,ai,aj,Z,al,Za]<;>rfl)
 ·rintro x t H e hx;rcases aX with⟨ax,ay⟩;dsimp only at hx O;obtain⟨rfl,⟨az,a1⟩⟩:=hx;obtain⟨bh,aV,O⟩:=ae O;cases O;try simp only[dz,seval,ah,ai,aj,Z,al,a1,aV]
def l7 (l:Option (D×Row)) (d:List D):=dV (ie (bD dF) (dT (bD dF))) (fun x:aB×aB=>qe x.1 x.2) (fun r:aB×Int =>.clean (.tup [.agg [.int .i64 r.1.aj,.sl false false r.1.aa.length (ab (eI .i64) r.1.aa)],.int .i64 r.2])) l d
theorem yJ {β:Type} {F:aB×aB->Option β} {R:β->RK} (X:Int) (O:(List Int)) (Y:Int) (U:(List Int)):dV (ie (bD dF) (dT (bD dF))) F R none [.agg [.int .i64 X,.sl false false O.length (ab (eI .i64) O)],.agg [.int .i64 Y,.sl false false U.length (ab (eI .i64) U)]]=(F ((aB.mk X O),(aB.mk Y U))).map fun r=>(R r,none):=cP _ _ _ ((aB.mk X O),(aB.mk Y U))
def zg:Env:=(Am.ext (Am.ext (Am.ext bm 84 false bu) 97 false cX) 122 false kB)
theorem QN:bG prog zg:=(((bG.none.add fW false).add kW false).add AR false)
theorem eY:type_of% (ai @w<|ai @rq<|ai @bu.eq_1<|ai @BR<|ai @cX.eq_1<|ai @BS<|ai @kB.eq_1<|@zg.eq_1):=⟨@w,@rq,@bu.eq_1,@BR,@cX.eq_1,@BS,@kB.eq_1,@zg.eq_1⟩
theorem Et:bX prog 85 l7:=bX.gP (mode := .clean) tok QN mixed func85 (by kernel_rfl) (fun _ _=>rfl) (fun _=>by kernel_rfl) fun⟨p0,p1⟩ r O=>by
 replace O:qe p0 p1=some r:=O;apply aG rfl ntmps85 results85;simp only[gQ];unfold qe at O;obtain⟨r1,U,O⟩:=ae O;try simp only[eY,seval,U]
 obtain⟨o2,av,O⟩:=ae O;refine bB 0 (fun s t H e=>match s with|Y=>∃Z:Nat,∃ad:Nat,∃X:Nat,t 2=.ptr 2 Z 0∧t 3=.ptr 3 ad 0∧t 4=.ptr 4 X 0∧t 17=.bool Y∧H 2=some ⟨Z,40,[.int .i64 p0.aj,.sl false false p0.aa.length (ab (eI .i64) p0.aa)],false,false,false⟩∧H 3=some ⟨ad,40,[.int .i64 p1.aj,.sl false false p1.aa.length (ab (eI .i64) p1.aa)],false,false,false⟩∧H 4=some ⟨X,40,[.int .i64 0,.sl true true 0 []],false,false,false⟩) (fun s=>s=o2) ?_ ?_
 ·rintro Y t H e ⟨Z,ad,X,al⟩ rfl;try dsimp only at O
  try simp only[eY,seval,U,al]
  apply sp ak O<;>intro _ O
  ·cases O;try simp only[eY,seval,U,al]
  ·try simp only[eY,seval,U,al]
   obtain⟨o6,aw,O⟩:=ae O;refine aC (fun s t H e=>match s with|(aq,ar)=>∃ag:Nat,t 4=.ptr 4 ag 0∧t 6=.sl false false aq.length (ab (eI .i64) aq)∧t 7=.sl false false ar.length (ab (eI .i64) ar)∧H 4=some ⟨ag,40,[.int .i64 0,.sl true true 0 []],false,false,false⟩) (fun o x t H e=>match o with|ah=>x=.exit 0∧∃ai:Nat,t 4=.ptr 4 ai 0∧t 6=.sl false false ah.length (ab (eI .i64) ah)∧H 4=some ⟨ai,40,[.int .i64 0,.sl true true 0 []],false,false,false⟩) aw ?_ ?_ ?_
   ·refine⟨X,?_⟩;and_intros<;>first|rfl|(simp only[eY,seval,U,al]<;>rfl)
   ·rintro⟨aq,ar⟩ t H e ⟨ag,Zb⟩ c O;simp only[pA]at O;try simp only[eY,seval,U,Zb]
    apply sp ak O<;>intro _ O
    ·obtain⟨r8,au,O⟩:=ae O;cases O;try simp only[eY,seval,U,Zb,au]
     apply iS;refine⟨ag,?_⟩;and_intros<;>first|rfl|(simp only[eY,seval,U,Zb,au]<;>rfl)
    ·cases O;try simp only[eY,seval,U,Zb]
     apply ka;refine⟨rfl,⟨ag,?_⟩⟩;and_intros<;>first|rfl|(simp only[eY,seval,U,Zb]<;>rfl)
   ·rintro x t H e hx;obtain⟨ah,rfl⟩:∃z,z=o6:=⟨_,rfl⟩;dsimp only at hx O;obtain⟨rfl,⟨ai,ax⟩⟩:=hx;obtain⟨r9,ay,O⟩:=ae O;cases O;try simp only[eY,seval,U,ax,ay]
 ·clear O;have O:=av;try simp only[eY,seval,U]
  apply sp aP O<;>intro _ O
  ·cases O;try simp only[eY,seval,U]
   rw[an];refine⟨_,rfl,?_⟩;refine⟨0,0,0,?_⟩;and_intros<;>first|rfl|(simp only[eY,seval,U]<;>rfl)
  ·obtain⟨az,ao,O⟩:=ae O;cases O;try simp only[eY,seval,U,ao]
   rw[an];refine⟨_,rfl,?_⟩;refine⟨0,0,0,?_⟩;and_intros<;>first|rfl|(simp only[eY,seval,U,ao]<;>rfl)
def l9 (l:Option (D×Row)) (d:List D):=dV (ie (mS (eI .i64)) (dT (mS (eI .i64)))) (fun x:(List Int)×(List Int)=>q9 x.1 x.2) (fun r:(List Int) =>.clean (.sl false false r.length (ab (eI .i64) r))) l d
def wN:Env:=(Am.ext (Am.ext bm 129 false ez) 143 false eB)
theorem MU:bG prog wN:=((bG.none.add nk false).add oe false)
theorem dK:type_of% (ai @w<|ai @Ub<|ai @ez.eq_1<|ai @Wu<|ai @eB.eq_1<|@wN.eq_1):=⟨@w,@Ub,@ez.eq_1,@Wu,@eB.eq_1,@wN.eq_1⟩
theorem AS:bX prog 127 l9:=bX.gP (mode := .clean) tok MU mixed func127 (by kernel_rfl) (fun _ _=>rfl) (fun _=>by kernel_rfl) fun⟨p0,p1⟩ r O=>by
 replace O:q9 p0 p1=some r:=O;apply aG rfl ntmps127 results127;simp only[gQ];unfold q9 at O;try simp only[dK,seval]
 obtain⟨aE,av,O⟩:=ae O;refine aC (fun s t H e=>match s with|(ar,au,Y)=>∃X:Nat,t 0=.sl false false p0.length (ab (eI .i64) p0)∧t 1=.sl false false p1.length (ab (eI .i64) p1)∧t 5=.buf 5 X 1 0 (Y).length∧t 6=.int .i64 ar∧t 7=.int .i64 au∧H 5=some ⟨X,3,ab (eI .i64) Y,false,true,false⟩) (fun o x t H e=>match o with|Z=>x=.exit 0∧∃aa:Nat,t 5=.buf 5 aa 1 0 (Z).length∧H 5=some ⟨aa,3,ab (eI .i64) Z,false,true,false⟩) av ?_ ?_ ?_
 ·refine⟨1,?_⟩;and_intros<;>first|rfl|(simp only[dK,seval]<;>rfl)
 ·rintro⟨ar,au,Y⟩ t H e ⟨X,Za⟩ c O;simp only[AW]at O;try simp only[dK,seval,Za]
  obtain⟨aF,aw,O⟩:=ae O;refine bB 0 (fun s t H e=>match s with|ad=>∃U:Nat,t 0=.sl false false p0.length (ab (eI .i64) p0)∧t 1=.sl false false p1.length (ab (eI .i64) p1)∧t 5=.buf 5 U 1 0 (Y).length∧t 6=.int .i64 ar∧t 7=.int .i64 au∧t 22=.bool ad∧H 5=some ⟨U,3,ab (eI .i64) Y,false,true,false⟩) (fun s=>s=aF) ?_ ?_
  ·rintro ad t H e ⟨U,ag⟩ rfl;try dsimp only at O
   try simp only[dK,seval,ag]
   apply sp ak O<;>intro _ O
   ·obtain⟨aI,ai,O⟩:=ae O;obtain⟨aJ,aj,O⟩:=ae O;obtain⟨aK,ax,O⟩:=ae O;have ay:=vb ax;obtain⟨aL,az,O⟩:=ae O;obtain⟨al,ah,ao,aq⟩:=iG (eI .i64) az;simp only[bS]at ah;obtain⟨aM,aA,O⟩:=ae O;have aB:=rU aA;cases O;try simp only[dK,seval,ag,ai,aj,ay,al,ah,ao,aq,aB]
    apply iS;refine⟨e+1,?_⟩;and_intros<;>first|rfl|(simp only[dK,seval,ag,ai,aj,ay,al,ah,ao,aq,aB]<;>rfl)
   ·cases O;try simp only[dK,seval,ag]
    apply ka;refine⟨rfl,⟨U,?_⟩⟩;and_intros<;>first|rfl|(simp only[dK,seval,ag]<;>rfl)
  ·clear O;have O:=aw;try simp only[dK,seval,Za]
   apply sp aP O<;>intro _ O
   ·cases O;try simp only[dK,seval,Za]
    rw[an];refine⟨_,rfl,?_⟩;refine⟨X,?_⟩;and_intros<;>first|rfl|(simp only[dK,seval,Za]<;>rfl)
   ·try simp only[dK,seval,Za]
    apply sp aP O<;>intro _ O
    ·cases O;try simp only[dK,seval,Za]
     rw[an];refine⟨_,rfl,?_⟩;refine⟨X,?_⟩;and_intros<;>first|rfl|(simp only[dK,seval,Za]<;>rfl)
    ·cases O;try simp only[dK,seval,Za]
     rw[an];refine⟨_,rfl,?_⟩;refine⟨X,?_⟩;and_intros<;>first|rfl|(simp only[dK,seval,Za]<;>rfl)
 ·rintro x t H e hx;obtain⟨Z,rfl⟩:∃z,z=aE:=⟨_,rfl⟩;dsimp only at hx O;obtain⟨rfl,⟨aa,aH⟩⟩:=hx;obtain⟨aN,aD,O⟩:=ae O;cases O;try simp only[dK,seval,aH,aD]
def uI (l:Option (D×Row)) (d:List D):=dV (ie (bD dF) (dT (bD dF))) (fun x:aB×aB=>og x.1 x.2) (fun r:aB×aB×Int =>.clean (.tup [.agg [.int .i64 r.1.aj,.sl false false r.1.aa.length (ab (eI .i64) r.1.aa)],.agg [.int .i64 r.2.1.aj,.sl false false r.2.1.aa.length (ab (eI .i64) r.2.1.aa)],.int .i64 r.2.2])) l d
theorem w7 (O:(List Int)) (U:(List Int)):l9 none [.sl false false O.length (ab (eI .i64) O),.sl false false U.length (ab (eI .i64) U)]=(q9 O U).map fun r:(List Int)=>(.clean (.sl false false r.length (ab (eI .i64) r)),none):=cP _ _ _ (O,U)
def zf:Env:=(Am.ext (Am.ext (Am.ext (Am.ext (Am.ext bm 84 false bu) 97 false cX) 122 false kB) 127 false l9) 128 false gg)
theorem QM:bG prog zf:=(((((bG.none.add fW false).add kW false).add AR false).add AS false).add si false)
theorem dr:type_of% (ai @w<|ai @rq<|ai @bu.eq_1<|ai @BR<|ai @cX.eq_1<|ai @BS<|ai @kB.eq_1<|ai @w7<|ai @gg.eq_1<|@zf.eq_1):=⟨@w,@rq,@bu.eq_1,@BR,@cX.eq_1,@BS,@kB.eq_1,@w7,@gg.eq_1,@zf.eq_1⟩
theorem Rb:bX prog 96 uI:=bX.gP (mode := .clean) tok QM mixed func96 (by kernel_rfl) (fun _ _=>rfl) (fun _=>by kernel_rfl) fun⟨p0,p1⟩ r O=>by
 replace O:og p0 p1=some r:=O;apply aG rfl ntmps96 results96;simp only[gQ];unfold og at O;obtain⟨r1,U,O⟩:=ae O;try simp only[dr,seval,U]
 obtain⟨o2,aD,O⟩:=ae O;refine bB 0 (fun s t H e=>match s with|ai=>∃Z:Nat,∃ad:Nat,∃ag:Nat,∃ah:Nat,t 2=.ptr 2 Z 0∧t 3=.ptr 3 ad 0∧t 4=.ptr 4 ag 0∧t 5=.ptr 5 ah 0∧t 16=.bool ai∧H 2=some ⟨Z,40,[.int .i64 p0.aj,.sl false false p0.aa.length (ab (eI .i64) p0.aa)],false,false,false⟩∧H 3=some ⟨ad,40,[.int .i64 p1.aj,.sl false false p1.aa.length (ab (eI .i64) p1.aa)],false,false,false⟩∧H 4=some ⟨ag,40,[.int .i64 0,.sl true true 0 []],false,false,false⟩∧H 5=some ⟨ah,40,[.int .i64 0,.sl true true 0 []],false,false,false⟩) (fun s=>s=o2) ?_ ?_
 ·rintro ai t H e ⟨Z,ad,ag,ah,Y⟩ rfl;try dsimp only at O
  try simp only[dr,seval,U,Y]
  apply sp ak O<;>intro _ O
  ·cases O;try simp only[dr,seval,U,Y]
  ·try simp only[dr,seval,U,Y]
   apply sp ak O<;>intro _ O
   ·cases O;try simp only[dr,seval,U,Y]
   ·obtain⟨r5,X,O⟩:=ae O;try simp only[dr,seval,U,Y,X]
    obtain⟨o6,aE,O⟩:=ae O;refine bB 0 (fun s t H e=>match s with|al=>∃ao:Nat,∃aq:Nat,∃ar:Nat,∃au:Nat,t 2=.ptr 2 ao 0∧t 3=.ptr 3 aq 0∧t 4=.ptr 4 ar 0∧t 5=.ptr 5 au 0∧t 7=.sl false false r5.1.length (ab (eI .i64) r5.1)∧t 8=.sl false false r5.2.length (ab (eI .i64) r5.2)∧t 42=.bool al∧H 2=some ⟨ao,40,[.int .i64 p0.aj,.sl false false p0.aa.length (ab (eI .i64) p0.aa)],false,false,false⟩∧H 3=some ⟨aq,40,[.int .i64 p1.aj,.sl false false p1.aa.length (ab (eI .i64) p1.aa)],false,false,false⟩∧H 4=some ⟨ar,40,[.int .i64 0,.sl true true 0 []],false,false,false⟩∧H 5=some ⟨au,40,[.int .i64 0,.sl true true 0 []],false,false,false⟩) (fun s=>s=o6) ?_ ?_
    ·rintro al t H e ⟨ao,aq,ar,au,av⟩ rfl;try dsimp only at O
     try simp only[dr,seval,U,X,av]
     apply sp ak O<;>intro _ O
     ·obtain⟨r8,aB,O⟩:=ae O;obtain⟨r9,aC,O⟩:=ae O;try simp only[dr,seval,U,X,av,aB,aC]
      refine bH (by kernel_rfl) ?_;cases O;try simp only[dr,seval,U,X,av,aB,aC]
     ·have i10:=w7 r5.1 ([1]);simp only[bg,bS,List.length_cons,List.length_nil,ahE,Nat.reduceAdd,aiY]at i10;obtain⟨aF,aw,O⟩:=ae O;obtain⟨aH,ax,O⟩:=ae O;obtain⟨aI,ay,O⟩:=ae O;obtain⟨aJ,az,O⟩:=ae O;try simp only[dr,seval,U,X,av,i10,aw,ax,ay,az]
      refine bH (by kernel_rfl) ?_;cases O;try simp only[dr,seval,U,X,av,i10,aw,ax,ay,az]
    ·clear O;have O:=aE;try simp only[dr,seval,U,Y,X]
     apply sp aP O<;>intro _ O
     ·cases O;try simp only[dr,seval,U,Y,X]
      rw[an];refine⟨_,rfl,?_⟩;refine⟨Z,ad,ag,ah,?_⟩;and_intros<;>first|rfl|(simp only[dr,seval,U,Y,X]<;>rfl)
     ·cases O;try simp only[dr,seval,U,Y,X]
      rw[an];refine⟨_,rfl,?_⟩;refine⟨Z,ad,ag,ah,?_⟩;and_intros<;>first|rfl|(simp only[dr,seval,U,Y,X]<;>rfl)
 ·clear O;have O:=aD;try simp only[dr,seval,U]
  apply sp aP O<;>intro _ O
  ·cases O;try simp only[dr,seval,U]
   rw[an];refine⟨_,rfl,?_⟩;refine⟨0,0,0,0,?_⟩;and_intros<;>first|rfl|(simp only[dr,seval,U]<;>rfl)
  ·obtain⟨aK,aA,O⟩:=ae O;cases O;try simp only[dr,seval,U,aA]
   rw[an];refine⟨_,rfl,?_⟩;refine⟨0,0,0,0,?_⟩;and_intros<;>first|rfl|(simp only[dr,seval,U,aA]<;>rfl)
def mc (l:Option (D×Row)) (d:List D):=dV (ie (bD dF) (dT (bD dF))) (fun x:aB×aB=>sj x.1 x.2) (fun r:aw×Int =>.clean (.tup [.agg [.int .i64 r.1.cv.aj,.sl false false r.1.cv.aa.length (ab (eI .i64) r.1.cv.aa),.int .i64 r.1.cu.aj,.sl false false r.1.cu.aa.length (ab (eI .i64) r.1.cu.aa)],.int .i64 r.2])) l d
def zl:Env:=(Am.ext (Am.ext (Am.ext (Am.ext bm 84 false bu) 85 false l7) 95 false l8) 96 false uI)
theorem QS:bG prog zl:=((((bG.none.add fW false).add Et false).add Eu false).add Rb false)
theorem eE:type_of% (ai @w<|ai @rq<|ai @bu.eq_1<|ai @yJ<|ai @l7.eq_1<|ai @l8.eq_1<|ai @uI.eq_1<|@zl.eq_1):=⟨@w,@rq,@bu.eq_1,@yJ,@l7.eq_1,@l8.eq_1,@uI.eq_1,@zl.eq_1⟩
theorem Ew:bX prog 59 mc:=bX.gP (mode := .clean) tok QS mixed func59 (by kernel_rfl) (fun _ _=>rfl) (fun _=>by kernel_rfl) fun⟨p0,p1⟩ r O=>by
 replace O:sj p0 p1=some r:=O;apply aG rfl ntmps59 results59;simp only[gQ];unfold sj at O;obtain⟨r1,U,O⟩:=ae O;try simp only[eE,seval,U]
 obtain⟨o2,ay,O⟩:=ae O;refine bB 0 (fun s t H e=>match s with|ao=>∃ad:Nat,∃ag:Nat,∃ah:Nat,t 2=.ptr 2 ad 0∧t 3=.ptr 3 ag 0∧t 4=.ptr 4 ah 0∧t 21=.bool ao∧H 2=some ⟨ad,40,[.int .i64 p0.aj,.sl false false p0.aa.length (ab (eI .i64) p0.aa)],false,false,false⟩∧H 3=some ⟨ag,40,[.int .i64 p1.aj,.sl false false p1.aa.length (ab (eI .i64) p1.aa)],false,false,false⟩∧H 4=some ⟨ah,42,[.int .i64 0,.sl true true 0 [],.int .i64 0,.sl true true 0 []],false,false,false⟩) (fun s=>s=o2) ?_ ?_
 ·rintro ao t H e ⟨ad,ag,ah,X⟩ rfl;try dsimp only at O
  try simp only[eE,seval,U,X]
  apply sp ak O<;>intro _ O
  ·cases O;try simp only[eE,seval,U,X]
  ·try simp only[eE,seval,U,X]
   apply sp ak O<;>intro _ O
   ·cases O;try simp only[eE,seval,U,X]
   ·try simp only[eE,seval,U,X]
    obtain⟨o5,az,O⟩:=ae O;refine jA 0 (fun s t H e=>match s with|(ai,Y,al,Z)=>∃aq:Nat,∃ar:Nat,∃au:Nat,t 2=.ptr 2 aq 0∧t 3=.ptr 3 ar 0∧t 4=.ptr 4 au 0∧H 2=some ⟨aq,40,[.int .i64 ai,.sl false false Y.length (ab (eI .i64) Y)],false,false,false⟩∧H 3=some ⟨ar,40,[.int .i64 al,.sl false false Z.length (ab (eI .i64) Z)],false,false,false⟩∧H 4=some ⟨au,42,[.int .i64 0,.sl true true 0 [],.int .i64 0,.sl true true 0 []],false,false,false⟩) (fun s=>s=o5) ?_ ?_
    ·rintro⟨ai,Y,al,Z⟩ t H e ⟨aq,ar,au,aA⟩ rfl;try dsimp only at O
     obtain⟨r6,aB,O⟩:=ae O;obtain⟨r7,aC,O⟩:=ae O;obtain⟨r8,aD,O⟩:=ae O;cases O;try simp only[eE,seval,U,aA,aB,aC,aD]
    ·clear O;have O:=az;try simp only[eE,seval,U,X]
     apply sp ak O<;>intro _ O
     ·obtain⟨aE,av,O⟩:=ae O;obtain⟨aF,aw,O⟩:=ae O;cases O;try simp only[eE,seval,U,X,av,aw]
      rw[an];refine⟨_,rfl,?_⟩;refine⟨ad,ag,ah,?_⟩;and_intros<;>first|rfl|(simp only[eE,seval,U,X,av,aw]<;>rfl)
     ·cases O;try simp only[eE,seval,U,X]
      rw[an];refine⟨_,rfl,?_⟩;refine⟨ad,ag,ah,?_⟩;and_intros<;>first|rfl|(simp only[eE,seval,U,X]<;>rfl)
 ·clear O;have O:=ay;try simp only[eE,seval,U]
  apply sp aP O<;>intro _ O
  ·cases O;try simp only[eE,seval,U]
   rw[an];refine⟨_,rfl,?_⟩;refine⟨0,0,0,?_⟩;and_intros<;>first|rfl|(simp only[eE,seval,U]<;>rfl)
  ·obtain⟨aH,ax,O⟩:=ae O;cases O;try simp only[eE,seval,U,ax]
   rw[an];refine⟨_,rfl,?_⟩;refine⟨0,0,0,?_⟩;and_intros<;>first|rfl|(simp only[eE,seval,U,ax]<;>rfl)
def kf (l:Option (D×Row)) (d:List D):=dV (ie (aI .i64) (dT (aI .i64))) (fun x:Int×Int=>uj x.1 x.2) (fun r:aw×Int =>.clean (.tup [.agg [.int .i64 r.1.cv.aj,.sl false false r.1.cv.aa.length (ab (eI .i64) r.1.cv.aa),.int .i64 r.1.cu.aj,.sl false false r.1.cu.aa.length (ab (eI .i64) r.1.cu.aa)],.int .i64 r.2])) l d
theorem Uc {β:Type} {F:Int×Int->Option β} {R:β->RK} (O:Int) (U:Int):dV (ie (aI .i64) (dT (aI .i64))) F R none [.int .i64 O,.int .i64 U]=(F (O,U)).map fun r=>(R r,none):=cP _ _ _ (O,U)
def Dp:Env:=(Am.ext (Am.ext bm 59 false mc) 60 false oL)
theorem Vs:bG prog Dp:=((bG.none.add Ew false).add Ik false)
theorem aat:type_of% (ai @w<|ai @yJ<|ai @mc.eq_1<|ai @KT<|ai @oL.eq_1<|@Dp.eq_1):=⟨@w,@yJ,@mc.eq_1,@KT,@oL.eq_1,@Dp.eq_1⟩
theorem zB:bX prog 30 kf:=bX.gP (mode := .clean) tok Vs mixed func30 (by kernel_rfl) (fun _ _=>rfl) (fun _=>by kernel_rfl) fun⟨Z,p1⟩ r O=>by
 replace O:uj Z p1=some r:=O;apply aG rfl ntmps30 results30;simp only[gQ];unfold uj at O;obtain⟨r1,U,O⟩:=ae O;obtain⟨r2,X,O⟩:=ae O;obtain⟨r3,Y,O⟩:=ae O;cases O;try simp only[aat,seval,U,X,Y]
def rA (l:Option (D×Row)) (d:List D):=dV (as0) (fun x:Unit=>xS) (fun r:aw =>.clean (.agg [.int .i64 r.cv.aj,.sl false false r.cv.aa.length (ab (eI .i64) r.cv.aa),.int .i64 r.cu.aj,.sl false false r.cu.aa.length (ab (eI .i64) r.cu.aa)])) l d
theorem sh8 {β:Type} {F:Unit->Option β} {R:β->RK} : dV (as0) F R none []=(F (())).map fun r=>(R r,none):=cP _ _ _ (())
def wG:Env:=(Am.ext bm 30 false kf)
theorem MM:bG prog wG:=(bG.none.add zB false)
theorem R9:type_of% (ai @w<|ai @Uc<|ai @kf.eq_1<|@wG.eq_1):=⟨@w,@Uc,@kf.eq_1,@wG.eq_1⟩
theorem Oz:bX prog 32 rA:=bX.gP (mode := .clean) tok MM mixed func32 (by kernel_rfl) (fun _ _=>rfl) (fun _=>by kernel_rfl) fun _ r O=>by
 replace O:xS=some r:=O;apply aG rfl ntmps32 results32;simp only[gQ];unfold xS at O;obtain⟨X,U,O⟩:=ae O;cases O;try simp only[R9,seval,U]
def ma (l:Option (D×Row)) (d:List D):=dV (dT (aI .i64)) (fun x:Int=>yl x) (fun r:aw =>.clean (.agg [.int .i64 r.cv.aj,.sl false false r.cv.aa.length (ab (eI .i64) r.cv.aa),.int .i64 r.cu.aj,.sl false false r.cu.aa.length (ab (eI .i64) r.cu.aa)])) l d
def zk:Env:=(Am.ext bm 30 false kf)
theorem QR:bG prog zk:=(bG.none.add zB false)
theorem Ws:type_of% (ai @w<|ai @Uc<|ai @kf.eq_1<|@zk.eq_1):=⟨@w,@Uc,@kf.eq_1,@zk.eq_1⟩
theorem Ev:bX prog 25 ma:=bX.gP (mode := .clean) tok QR mixed func25 (by kernel_rfl) (fun _ _=>rfl) (fun _=>by kernel_rfl) fun X r O=>by
 replace O:yl X=some r:=O;apply aG rfl ntmps25 results25;simp only[gQ];unfold yl at O;obtain⟨Y,U,O⟩:=ae O;cases O;try simp only[Ws,seval,U]
def rE (l:Option (D×Row)) (d:List D):=dV (ie (bD dF) (dT (bD dF))) (fun x:aB×aB=>yk x.1 x.2) (fun r:Bool =>.clean (.bool r)) l d
theorem OD:bX prog 123 rE:=bX.gP (mode := .clean) tok bG.none mixed func123 (by kernel_rfl) (fun _ _=>rfl) (fun _=>by kernel_rfl) fun⟨p0,p1⟩ r O=>by
 replace O:yk p0 p1=some r:=O;apply aG rfl ntmps123 results123;simp only[gQ];unfold yk at O;try simp only[w,seval]
 obtain⟨o1,aq,O⟩:=ae O;refine bB 0 (fun s t H e=>match s with|ad=>∃Y:Nat,∃Z:Nat,t 2=.ptr 2 Y 0∧t 3=.ptr 3 Z 0∧t 19=.bool ad∧H 2=some ⟨Y,40,[.int .i64 p0.aj,.sl false false p0.aa.length (ab (eI .i64) p0.aa)],false,false,false⟩∧H 3=some ⟨Z,40,[.int .i64 p1.aj,.sl false false p1.aa.length (ab (eI .i64) p1.aa)],false,false,false⟩) (fun s=>s=o1) ?_ ?_
 ·rintro ad t H e ⟨Y,Z,ag⟩ rfl;try dsimp only at O
  try simp only[w,seval,ag]
  apply sp ak O<;>intro _ O
  ·cases O;try simp only[w,seval,ag]
  ·try simp only[w,seval,ag]
   obtain⟨o7,ar,O⟩:=ae O;refine aC (fun s t H e=>match s with|al=>∃ah:Nat,∃ai:Nat,t 2=.ptr 2 ah 0∧t 3=.ptr 3 ai 0∧t 5=.int .i64 al∧H 2=some ⟨ah,40,[.int .i64 p0.aj,.sl false false p0.aa.length (ab (eI .i64) p0.aa)],false,false,false⟩∧H 3=some ⟨ai,40,[.int .i64 p1.aj,.sl false false p1.aa.length (ab (eI .i64) p1.aa)],false,false,false⟩) (fun o x t H e=>match o with|(.inl _)=>x=.exit 0|(.inr r)=>x=.ret∧fF .clean tab none [.tmp 4] ⟨t,EH H,e⟩=some (.clean (.bool r),none)) ar ?_ ?_ ?_
   ·refine⟨Y,Z,?_⟩;and_intros<;>first|rfl|(simp only[w,seval,ag]<;>rfl)
   ·rintro al t H e ⟨ah,ai,Zb⟩ c O;simp only[AV]at O;try simp only[w,seval,Zb]
    apply sp ak O<;>intro _ O
    ·obtain⟨x9,au,O⟩:=ae O;have X:=bn (eI .i64) au;simp only[bS]at X;obtain⟨av,ao,O⟩:=ae O;have U:=bn (eI .i64) ao;simp only[bS]at U;try simp only[w,seval,Zb,X,U]
     refine bH (by kernel_rfl) ?_;try simp only[w,seval,Zb,X,U]
     apply sp ak O<;>intro _ O
     ·cases O;try simp only[w,seval,Zb,X,U]
      refine qH ⟨rfl,?_⟩;try simp only[w,seval,Zb,X,U]
     ·cases O;try simp only[w,seval,Zb,X,U]
      apply iS;refine⟨ah,ai,?_⟩;and_intros<;>first|rfl|(simp only[w,seval,Zb,X,U]<;>rfl)
    ·cases O;try simp only[w,seval,Zb]
     apply ka;exact rfl
   ·rintro x t H e hx;rcases o7 with _|rb
    ·dsimp only at hx O;subst hx;cases O;try simp only[w,seval]
    ·dsimp only at hx O;obtain⟨rfl,hE⟩:=hx;cases O;try simp only[bd,aX,bk,cJ,cI,ca,cc]
     exact hE
 ·clear O;have O:=aq;try simp only[w,seval]
  apply sp aP O<;>intro _ O
  ·cases O;try simp only[w,seval]
   rw[an];refine⟨_,rfl,?_⟩;refine⟨0,0,?_⟩;and_intros<;>first|rfl|(simp only[w,seval]<;>rfl)
  ·cases O;try simp only[w,seval]
   rw[an];refine⟨_,rfl,?_⟩;refine⟨0,0,?_⟩;and_intros<;>first|rfl|(simp only[w,seval]<;>rfl)
def mM (l:Option (D×Row)) (d:List D):=dV (ie (bD dF) (dT (bD dF))) (fun x:aB×aB=>p9 x.1 x.2) (fun r:Int =>.clean (.int .i64 r)) l d
def qB:Env:=(Am.ext (Am.ext (Am.ext bm 84 false bu) 123 false rE) 124 false gS)
theorem Dz:bG prog qB:=(((bG.none.add fW false).add OD false).add uc false)
theorem bU:type_of% (ai @w<|ai @rq<|ai @bu.eq_1<|ai @yJ<|ai @rE.eq_1<|ai @BS<|ai @gS.eq_1<|@qB.eq_1):=⟨@w,@rq,@bu.eq_1,@yJ,@rE.eq_1,@BS,@gS.eq_1,@qB.eq_1⟩
theorem Es:bX prog 86 mM:=bX.gP (mode := .clean) tok Dz mixed func86 (by kernel_rfl) (fun _ _=>rfl) (fun _=>by kernel_rfl) fun⟨p0,p1⟩ r U=>by
 replace U:p9 p0 p1=some r:=U;apply aG rfl ntmps86 results86;simp only[gQ];unfold p9 at U;obtain⟨r1,O,U⟩:=ae U;try simp only[bU,seval,O]
 obtain⟨o2,al,U⟩:=ae U;refine bB 0 (fun s t H e=>match s with|Y=>∃Z:Nat,∃ad:Nat,t 2=.ptr 2 Z 0∧t 3=.ptr 3 ad 0∧t 17=.bool Y∧H 2=some ⟨Z,40,[.int .i64 p0.aj,.sl false false p0.aa.length (ab (eI .i64) p0.aa)],false,false,false⟩∧H 3=some ⟨ad,40,[.int .i64 p1.aj,.sl false false p1.aa.length (ab (eI .i64) p1.aa)],false,false,false⟩) (fun s=>s=o2) ?_ ?_
 ·rintro Y t H e ⟨Z,ad,X⟩ rfl;try dsimp only at U
  try simp only[bU,seval,O,X]
  apply sp ak U<;>intro _ U
  ·cases U;try simp only[bU,seval,O,X]
  ·try simp only[bU,seval,O,X]
   apply sp ak U<;>intro _ U
   ·try simp only[bU,seval,O,X]
    apply sp ak U<;>intro _ U
    ·cases U;try simp only[bU,seval,O,X]
    ·cases U;try simp only[bU,seval,O,X]
   ·obtain⟨r6,ah,U⟩:=ae U;try simp only[bU,seval,O,X,ah]
    refine bH (by kernel_rfl) ?_;try simp only[bU,seval,O,X,ah]
    apply sp ak U<;>intro _ U
    ·cases U;try simp only[bU,seval,O,X,ah]
    ·cases U;try simp only[bU,seval,O,X,ah]
 ·clear U;have U:=al;try simp only[bU,seval,O]
  apply sp aP U<;>intro _ U
  ·cases U;try simp only[bU,seval,O]
   rw[an];refine⟨_,rfl,?_⟩;refine⟨0,0,?_⟩;and_intros<;>first|rfl|(simp only[bU,seval,O]<;>rfl)
  ·obtain⟨r9,ag,U⟩:=ae U;try simp only[bU,seval,O,ag]
   apply sp aP U<;>intro _ U
   ·cases U;try simp only[bU,seval,O,ag]
    rw[an];refine⟨_,rfl,?_⟩;refine⟨0,0,?_⟩;and_intros<;>first|rfl|(simp only[bU,seval,O,ag]<;>rfl)
   ·obtain⟨ao,ai,U⟩:=ae U;cases U;try simp only[bU,seval,O,ag,ai]
    rw[an];refine⟨_,rfl,?_⟩;refine⟨0,0,?_⟩;and_intros<;>first|rfl|(simp only[bU,seval,O,ag,ai]<;>rfl)
def pP (l:Option (D×Row)) (d:List D):=dV (dT (bD aF)) (fun x:aw=>re x) (fun r:Bool =>.clean (.bool r)) l d
theorem BT {β:Type} {F:aw->Option β} {R:β->RK} (X:Int) (O:(List Int)) (Y:Int) (U:(List Int)):dV (dT (bD aF)) F R none [.agg [.int .i64 X,.sl false false O.length (ab (eI .i64) O),.int .i64 Y,.sl false false U.length (ab (eI .i64) U)]]=(F ((aw.mk (aB.mk X O) (aB.mk Y U)))).map fun r=>(R r,none):=cP _ _ _ ((aw.mk (aB.mk X O) (aB.mk Y U)))
def tS:Env:=(Am.ext (Am.ext (Am.ext (Am.ext bm 60 false oL) 84 false bu) 85 false l7) 86 false mM)
theorem J2:bG prog tS:=((((bG.none.add Ik false).add fW false).add Et false).add Es false)
theorem eF:type_of% (ai @w<|ai @KT<|ai @oL.eq_1<|ai @rq<|ai @bu.eq_1<|ai @yJ<|ai @l7.eq_1<|ai @mM.eq_1<|@tS.eq_1):=⟨@w,@KT,@oL.eq_1,@rq,@bu.eq_1,@yJ,@l7.eq_1,@mM.eq_1,@tS.eq_1⟩
theorem Kg:bX prog 52 pP:=bX.gP (mode := .clean) tok J2 mixed func52 (by kernel_rfl) (fun _ _=>rfl) (fun _=>by kernel_rfl) fun p0 r O=>by
 replace O:re p0=some r:=O;apply aG rfl ntmps52 results52;simp only[gQ];unfold re at O;obtain⟨r1,U,O⟩:=ae O;try simp only[eF,seval,U]
 obtain⟨o2,al,O⟩:=ae O;refine bB 0 (fun s t H e=>match s with|X=>∃Y:Nat,t 1=.ptr 1 Y 0∧t 20=.bool X∧H 1=some ⟨Y,42,[.int .i64 p0.cv.aj,.sl false false p0.cv.aa.length (ab (eI .i64) p0.cv.aa),.int .i64 p0.cu.aj,.sl false false p0.cu.aa.length (ab (eI .i64) p0.cu.aa)],false,false,false⟩) (fun s=>s=o2) ?_ ?_
 ·rintro X t H e ⟨Y,ad⟩ rfl;try dsimp only at O
  try simp only[eF,seval,U,ad]
  apply sp ak O<;>intro _ O
  ·cases O;try simp only[eF,seval,U,ad]
  ·obtain⟨r4,ag,O⟩:=ae O;obtain⟨r5,ah,O⟩:=ae O;obtain⟨r6,ai,O⟩:=ae O;try simp only[eF,seval,U,ad,ag,ah,ai]
   refine bH (by kernel_rfl) ?_;cases O;try simp only[eF,seval,U,ad,ag,ah,ai]
 ·clear O;have O:=al;try simp only[eF,seval,U]
  apply sp aP O<;>intro _ O
  ·cases O;try simp only[eF,seval,U]
   rw[an];refine⟨_,rfl,?_⟩;refine⟨0,?_⟩;and_intros<;>first|rfl|(simp only[eF,seval,U]<;>rfl)
  ·obtain⟨r8,Z,O⟩:=ae O;try simp only[eF,seval,U,Z]
   apply sp aP O<;>intro _ O
   ·cases O;try simp only[eF,seval,U,Z]
    rw[an];refine⟨_,rfl,?_⟩;refine⟨0,?_⟩;and_intros<;>first|rfl|(simp only[eF,seval,U,Z]<;>rfl)
   ·cases O;try simp only[eF,seval,U,Z]
    rw[an];refine⟨_,rfl,?_⟩;refine⟨0,?_⟩;and_intros<;>first|rfl|(simp only[eF,seval,U,Z]<;>rfl)
def uJ (l:Option (D×Row)) (d:List D):=dV (ie (bD dF) (dT (bD dF))) (fun x:aB×aB=>vf x.1 x.2) (fun r:aB×Int =>.clean (.tup [.agg [.int .i64 r.1.aj,.sl false false r.1.aa.length (ab (eI .i64) r.1.aa)],.int .i64 r.2])) l d
def zh:Env:=(Am.ext (Am.ext (Am.ext bm 84 false bu) 97 false cX) 130 false kM)
theorem QO:bG prog zh:=(((bG.none.add fW false).add kW false).add yg false)
theorem iZ:type_of% (ai @w<|ai @rq<|ai @bu.eq_1<|ai @BR<|ai @cX.eq_1<|ai @BS<|ai @kM.eq_1<|@zh.eq_1):=⟨@w,@rq,@bu.eq_1,@BR,@cX.eq_1,@BS,@kM.eq_1,@zh.eq_1⟩
theorem Rc:bX prog 98 uJ:=bX.gP (mode := .clean) tok QO mixed func98 (by kernel_rfl) (fun _ _=>rfl) (fun _=>by kernel_rfl) fun⟨p0,p1⟩ r O=>by
 replace O:vf p0 p1=some r:=O;apply aG rfl ntmps98 results98;simp only[gQ];unfold vf at O;obtain⟨r1,U,O⟩:=ae O;try simp only[iZ,seval,U]
 obtain⟨o2,ao,O⟩:=ae O;refine bB 0 (fun s t H e=>match s with|X=>∃Y:Nat,∃Z:Nat,∃ad:Nat,t 2=.ptr 2 Y 0∧t 3=.ptr 3 Z 0∧t 4=.ptr 4 ad 0∧t 13=.bool X∧H 2=some ⟨Y,40,[.int .i64 p0.aj,.sl false false p0.aa.length (ab (eI .i64) p0.aa)],false,false,false⟩∧H 3=some ⟨Z,40,[.int .i64 p1.aj,.sl false false p1.aa.length (ab (eI .i64) p1.aa)],false,false,false⟩∧H 4=some ⟨ad,40,[.int .i64 0,.sl true true 0 []],false,false,false⟩) (fun s=>s=o2) ?_ ?_
 ·rintro X t H e ⟨Y,Z,ad,ag⟩ rfl;try dsimp only at O
  try simp only[iZ,seval,U,ag]
  apply sp ak O<;>intro _ O
  ·cases O;try simp only[iZ,seval,U,ag]
  ·obtain⟨r4,ah,O⟩:=ae O;obtain⟨r5,ai,O⟩:=ae O;try simp only[iZ,seval,U,ag,ah,ai]
   refine bH (by kernel_rfl) ?_;cases O;try simp only[iZ,seval,U,ag,ah,ai]
 ·clear O;have O:=ao;try simp only[iZ,seval,U]
  apply sp aP O<;>intro _ O
  ·cases O;try simp only[iZ,seval,U]
   rw[an];refine⟨_,rfl,?_⟩;refine⟨0,0,0,?_⟩;and_intros<;>first|rfl|(simp only[iZ,seval,U]<;>rfl)
  ·obtain⟨r7,al,O⟩:=ae O;cases O;try simp only[iZ,seval,U,al]
   rw[an];refine⟨_,rfl,?_⟩;refine⟨0,0,0,?_⟩;and_intros<;>first|rfl|(simp only[iZ,seval,U,al]<;>rfl)
def uH (l:Option (D×Row)) (d:List D):=dV (ie (bD dF) (dT (bD dF))) (fun x:aB×aB=>BM x.1 x.2) (fun r:aB×Int =>.clean (.tup [.agg [.int .i64 r.1.aj,.sl false false r.1.aa.length (ab (eI .i64) r.1.aa)],.int .i64 r.2])) l d
def ze:Env:=(Am.ext (Am.ext (Am.ext (Am.ext (Am.ext bm 84 false bu) 97 false cX) 124 false gS) 127 false l9) 128 false gg)
theorem QL:bG prog ze:=(((((bG.none.add fW false).add kW false).add uc false).add AS false).add si false)
theorem cw:type_of% (ai @w<|ai @rq<|ai @bu.eq_1<|ai @BR<|ai @cX.eq_1<|ai @BS<|ai @gS.eq_1<|ai @l9.eq_1<|ai @gg.eq_1<|@ze.eq_1):=⟨@w,@rq,@bu.eq_1,@BR,@cX.eq_1,@BS,@gS.eq_1,@l9.eq_1,@gg.eq_1,@ze.eq_1⟩
theorem Ra:bX prog 119 uH:=bX.gP (mode := .clean) tok QL mixed func119 (by kernel_rfl) (fun _ _=>rfl) (fun _=>by kernel_rfl) fun⟨p0,p1⟩ r O=>by
 replace O:BM p0 p1=some r:=O;apply aG rfl ntmps119 results119;simp only[gQ];unfold BM at O;obtain⟨r1,U,O⟩:=ae O;try simp only[cw,seval,U]
 obtain⟨o2,aB,O⟩:=ae O;refine bB 0 (fun s t H e=>match s with|ah=>∃Y:Nat,∃Z:Nat,∃ad:Nat,t 2=.ptr 2 Y 0∧t 3=.ptr 3 Z 0∧t 4=.ptr 4 ad 0∧t 13=.bool ah∧H 2=some ⟨Y,40,[.int .i64 p0.aj,.sl false false p0.aa.length (ab (eI .i64) p0.aa)],false,false,false⟩∧H 3=some ⟨Z,40,[.int .i64 p1.aj,.sl false false p1.aa.length (ab (eI .i64) p1.aa)],false,false,false⟩∧H 4=some ⟨ad,40,[.int .i64 0,.sl true true 0 []],false,false,false⟩) (fun s=>s=o2) ?_ ?_
 ·rintro ah t H e ⟨Y,Z,ad,X⟩ rfl;try dsimp only at O
  try simp only[cw,seval,U,X]
  apply sp ak O<;>intro _ O
  ·cases O;try simp only[cw,seval,U,X]
  ·try simp only[cw,seval,U,X]
   obtain⟨o4,aC,O⟩:=ae O;refine bB 0 (fun s t H e=>match s with|ai=>∃al:Nat,∃ao:Nat,∃aq:Nat,t 2=.ptr 2 al 0∧t 3=.ptr 3 ao 0∧t 4=.ptr 4 aq 0∧t 29=.bool ai∧H 2=some ⟨al,40,[.int .i64 p0.aj,.sl false false p0.aa.length (ab (eI .i64) p0.aa)],false,false,false⟩∧H 3=some ⟨ao,40,[.int .i64 p1.aj,.sl false false p1.aa.length (ab (eI .i64) p1.aa)],false,false,false⟩∧H 4=some ⟨aq,40,[.int .i64 0,.sl true true 0 []],false,false,false⟩) (fun s=>s=o4) ?_ ?_
   ·rintro ai t H e ⟨al,ao,aq,ag⟩ rfl;try dsimp only at O
    try simp only[cw,seval,U,ag]
    apply sp ak O<;>intro _ O
    ·obtain⟨r6,az,O⟩:=ae O;obtain⟨r7,aA,O⟩:=ae O;try simp only[cw,seval,U,ag,az,aA]
     refine bH (by kernel_rfl) ?_;cases O;try simp only[cw,seval,U,ag,az,aA]
    ·obtain⟨r8,ar,O⟩:=ae O;try simp only[cw,seval,U,ag,ar]
     apply sp ak O<;>intro _ O
     ·obtain⟨aD,au,O⟩:=ae O;obtain⟨aE,av,O⟩:=ae O;try simp only[cw,seval,U,ag,ar,au,av]
      refine bH (by kernel_rfl) ?_;cases O;try simp only[cw,seval,U,ag,ar,au,av]
     ·obtain⟨aF,aw,O⟩:=ae O;obtain⟨aH,ax,O⟩:=ae O;try simp only[cw,seval,U,ag,ar,aw,ax]
      refine bH (by kernel_rfl) ?_;cases O;try simp only[cw,seval,U,ag,ar,aw,ax]
   ·clear O;have O:=aC;try simp only[cw,seval,U,X]
    apply sp aP O<;>intro _ O
    ·cases O;try simp only[cw,seval,U,X]
     rw[an];refine⟨_,rfl,?_⟩;refine⟨Y,Z,ad,?_⟩;and_intros<;>first|rfl|(simp only[cw,seval,U,X]<;>rfl)
    ·try simp only[cw,seval,U,X]
     apply sp aP O<;>intro _ O
     ·cases O;try simp only[cw,seval,U,X]
      rw[an];refine⟨_,rfl,?_⟩;refine⟨Y,Z,ad,?_⟩;and_intros<;>first|rfl|(simp only[cw,seval,U,X]<;>rfl)
     ·cases O;try simp only[cw,seval,U,X]
      rw[an];refine⟨_,rfl,?_⟩;refine⟨Y,Z,ad,?_⟩;and_intros<;>first|rfl|(simp only[cw,seval,U,X]<;>rfl)
 ·clear O;have O:=aB;try simp only[cw,seval,U]
  apply sp aP O<;>intro _ O
  ·cases O;try simp only[cw,seval,U]
   rw[an];refine⟨_,rfl,?_⟩;refine⟨0,0,0,?_⟩;and_intros<;>first|rfl|(simp only[cw,seval,U]<;>rfl)
  ·obtain⟨aI,ay,O⟩:=ae O;cases O;try simp only[cw,seval,U,ay]
   rw[an];refine⟨_,rfl,?_⟩;refine⟨0,0,0,?_⟩;and_intros<;>first|rfl|(simp only[cw,seval,U,ay]<;>rfl)
def uK (l:Option (D×Row)) (d:List D):=dV (ie (bD dF) (dT (bD dF))) (fun x:aB×aB=>BN x.1 x.2) (fun r:aB×Int =>.clean (.tup [.agg [.int .i64 r.1.aj,.sl false false r.1.aa.length (ab (eI .i64) r.1.aa)],.int .i64 r.2])) l d
def zj:Env:=(Am.ext (Am.ext (Am.ext bm 84 false bu) 95 false l8) 119 false uH)
theorem QQ:bG prog zj:=(((bG.none.add fW false).add Eu false).add Ra false)
theorem vD:type_of% (ai @w<|ai @rq<|ai @bu.eq_1<|ai @l8.eq_1<|ai @yJ<|ai @uH.eq_1<|@zj.eq_1):=⟨@w,@rq,@bu.eq_1,@l8.eq_1,@yJ,@uH.eq_1,@zj.eq_1⟩
theorem Re:bX prog 99 uK:=bX.gP (mode := .clean) tok QQ mixed func99 (by kernel_rfl) (fun _ _=>rfl) (fun _=>by kernel_rfl) fun⟨Z,p1⟩ r O=>by
 replace O:BN Z p1=some r:=O;apply aG rfl ntmps99 results99;simp only[gQ];unfold BN at O;obtain⟨r1,U,O⟩:=ae O;try simp only[vD,seval,U]
 apply sp ak O<;>intro _ O
 ·cases O;try simp only[vD,seval,U]
 ·obtain⟨r3,X,O⟩:=ae O;obtain⟨r4,Y,O⟩:=ae O;try simp only[vD,seval,U,X,Y]
  refine bH (by kernel_rfl) ?_;cases O;try simp only[vD,seval,U,X,Y]
def uM (l:Option (D×Row)) (d:List D):=dV (ie (bD aF) (dT (bD aF))) (fun x:aw×aw=>BO x.1 x.2) (fun r:aw×Int =>.clean (.tup [.agg [.int .i64 r.1.cv.aj,.sl false false r.1.cv.aa.length (ab (eI .i64) r.1.cv.aa),.int .i64 r.1.cu.aj,.sl false false r.1.cu.aa.length (ab (eI .i64) r.1.cu.aa)],.int .i64 r.2])) l d
theorem sX {β:Type} {F:aw×aw->Option β} {R:β->RK} (Z:Int) (O:(List Int)) (aa:Int) (U:(List Int)) (ad:Int) (X:(List Int)) (ae:Int) (Y:(List Int)):dV (ie (bD aF) (dT (bD aF))) F R none [.agg [.int .i64 Z,.sl false false O.length (ab (eI .i64) O),.int .i64 aa,.sl false false U.length (ab (eI .i64) U)],.agg [.int .i64 ad,.sl false false X.length (ab (eI .i64) X),.int .i64 ae,.sl false false Y.length (ab (eI .i64) Y)]]=(F ((aw.mk (aB.mk Z O) (aB.mk aa U)),(aw.mk (aB.mk ad X) (aB.mk ae Y)))).map fun r=>(R r,none):=cP _ _ _ ((aw.mk (aB.mk Z O) (aB.mk aa U)),(aw.mk (aB.mk ad X) (aB.mk ae Y)))
def zm:Env:=(Am.ext (Am.ext (Am.ext (Am.ext bm 52 false pP) 59 false mc) 98 false uJ) 99 false uK)
theorem QT:bG prog zm:=((((bG.none.add Kg false).add Ew false).add Rc false).add Re false)
theorem jV:type_of% (ai @w<|ai @BT<|ai @pP.eq_1<|ai @yJ<|ai @mc.eq_1<|ai @uJ.eq_1<|ai @uK.eq_1<|@zm.eq_1):=⟨@w,@BT,@pP.eq_1,@yJ,@mc.eq_1,@uJ.eq_1,@uK.eq_1,@zm.eq_1⟩
theorem Rg:bX prog 61 uM:=bX.gP (mode := .clean) tok QT mixed func61 (by kernel_rfl) (fun _ _=>rfl) (fun _=>by kernel_rfl) fun⟨p0,p1⟩ r O=>by
 replace O:BO p0 p1=some r:=O;apply aG rfl ntmps61 results61;simp only[gQ];unfold BO at O;obtain⟨r1,U,O⟩:=ae O;try simp only[jV,seval,U]
 obtain⟨o2,ai,O⟩:=ae O;refine bB 0 (fun s t H e=>match s with|X=>∃Y:Nat,∃Z:Nat,∃ad:Nat,t 2=.ptr 2 Y 0∧t 3=.ptr 3 Z 0∧t 4=.ptr 4 ad 0∧t 21=.bool X∧H 2=some ⟨Y,42,[.int .i64 p0.cv.aj,.sl false false p0.cv.aa.length (ab (eI .i64) p0.cv.aa),.int .i64 p0.cu.aj,.sl false false p0.cu.aa.length (ab (eI .i64) p0.cu.aa)],false,false,false⟩∧H 3=some ⟨Z,42,[.int .i64 p1.cv.aj,.sl false false p1.cv.aa.length (ab (eI .i64) p1.cv.aa),.int .i64 p1.cu.aj,.sl false false p1.cu.aa.length (ab (eI .i64) p1.cu.aa)],false,false,false⟩∧H 4=some ⟨ad,42,[.int .i64 0,.sl true true 0 [],.int .i64 0,.sl true true 0 []],false,false,false⟩) (fun s=>s=o2) ?_ ?_
 ·rintro X t H e ⟨Y,Z,ad,ah⟩ rfl;try dsimp only at O
  try simp only[jV,seval,U,ah]
  apply sp ak O<;>intro _ O
  ·cases O;try simp only[jV,seval,U,ah]
  ·obtain⟨r4,al,O⟩:=ae O;obtain⟨r5,ao,O⟩:=ae O;obtain⟨r6,aq,O⟩:=ae O;obtain⟨r7,ar,O⟩:=ae O;obtain⟨r8,au,O⟩:=ae O;cases O;try simp only[jV,seval,U,ah,al,ao,aq,ar,au]
 ·clear O;have O:=ai;try simp only[jV,seval,U]
  apply sp aP O<;>intro _ O
  ·cases O;try simp only[jV,seval,U]
   rw[an];refine⟨_,rfl,?_⟩;refine⟨0,0,0,?_⟩;and_intros<;>first|rfl|(simp only[jV,seval,U]<;>rfl)
  ·obtain⟨av,ag,O⟩:=ae O;cases O;try simp only[jV,seval,U,ag]
   rw[an];refine⟨_,rfl,?_⟩;refine⟨0,0,0,?_⟩;and_intros<;>first|rfl|(simp only[jV,seval,U,ag]<;>rfl)
def mI (l:Option (D×Row)) (d:List D):=dV (ie (aI .i64) (dT (bD aF))) (fun x:Int×aw=>kQ x.1 x.2) (fun r:bC =>.clean (.agg [.sl false false r.ah.length (ab (eI .i64) r.ah),.sl false false r.au.length (ab b9 r.au)])) l d
theorem aeD {β:Type} {F:Int×aw->Option β} {R:β->RK} (Z:Int) (X:Int) (O:(List Int)) (Y:Int) (U:(List Int)):dV (ie (aI .i64) (dT (bD aF))) F R none [.int .i64 Z,.agg [.int .i64 X,.sl false false O.length (ab (eI .i64) O),.int .i64 Y,.sl false false U.length (ab (eI .i64) U)]]=(F (Z,(aw.mk (aB.mk X O) (aB.mk Y U)))).map fun r=>(R r,none):=cP _ _ _ (Z,(aw.mk (aB.mk X O) (aB.mk Y U)))
def qw:Env:=(Am.ext (Am.ext bm 25 false ma) 61 false uM)
theorem Dv:bG prog qw:=((bG.none.add Ev false).add Rg false)
theorem F6:type_of% (ai @w<|ai @KT<|ai @ma.eq_1<|ai @sX<|ai @uM.eq_1<|@qw.eq_1):=⟨@w,@KT,@ma.eq_1,@sX,@uM.eq_1,@qw.eq_1⟩
theorem Em:bX prog 31 mI:=bX.gP (mode := .clean) tok Dv mixed func31 (by kernel_rfl) (fun _ _=>rfl) (fun _=>by kernel_rfl) fun⟨Y,Z⟩ r O=>by
 replace O:kQ Y Z=some r:=O;apply aG rfl ntmps31 results31;simp only[gQ];unfold kQ at O;obtain⟨r1,U,O⟩:=ae O;obtain⟨r2,X,O⟩:=ae O;cases O;try simp only[F6,seval,U,X]
def ch (l:Option (D×Row)) (d:List D):=dV (ie (aI .i64) (ie (aI .i64) (dT (aI .i64)))) (fun x:Int×Int×Int=>dR x.1 x.2.1 x.2.2) (fun r:Bool =>.clean (.bool r)) l d
theorem Bw {β:Type} {F:Int×Int×Int->Option β} {R:β->RK} (O:Int) (U:Int) (X:Int):dV (ie (aI .i64) (ie (aI .i64) (dT (aI .i64)))) F R none [.int .i64 O,.int .i64 U,.int .i64 X]=(F (O,U,X)).map fun r=>(R r,none):=cP _ _ _ (O,U,X)
theorem iW:bX prog 35 ch:=bX.gP (mode := .clean) tok bG.none mixed func35 (by kernel_rfl) (fun _ _=>rfl) (fun _=>by kernel_rfl) fun⟨U,X,Y⟩ r O=>by
 replace O:dR U X Y=some r:=O;apply aG rfl ntmps35 results35;simp only[gQ];unfold dR at O;try simp only[w,seval]
 apply sp e7 O<;>intro _ O
 ·cases O;try simp only[w,seval]
 ·cases O;try simp only[w,seval]
def fc (l:Option (D×Row)) (d:List D):=dV (dT (mS (eI .i64))) (fun x:(List Int)=>dZ x) (fun r:(List Int) =>.clean (.sl false false r.length (ab (eI .i64) r))) l d
theorem nh:bX prog 125 fc:=bX.gP (mode := .clean) tok bG.none mixed func125 (by kernel_rfl) (fun _ _=>rfl) (fun _=>by kernel_rfl) fun Z r O=>by
 replace O:dZ Z=some r:=O;apply aG rfl ntmps125 results125;simp only[gQ];unfold dZ at O;try simp only[w,seval]
 obtain⟨o4,ag,O⟩:=ae O;refine aC (fun s t H e=>match s with|aa=>t 0=.sl false false Z.length (ab (eI .i64) Z)∧t 3=.int .i64 aa) (fun o x t H e=>match o with|X=>x=.exit 0∧t 0=.sl false false Z.length (ab (eI .i64) Z)∧t 3=.int .i64 X) ag ?_ ?_ ?_
 ·and_intros<;>first|rfl|(simp only[w,seval]<;>rfl)
 ·rintro aa t H e Y c O;simp only[kP]at O;try simp only[w,seval,Y]
  apply sp e7 O<;>intro _ O
  ·obtain⟨x6,ah,O⟩:=ae O;have U:=bn (eI .i64) ah;simp only[bS]at U;try simp only[w,seval,Y,U]
   apply sp ak O<;>intro _ O
   ·cases O;try simp only[w,seval,Y,U]
    apply iS;and_intros<;>first|rfl|(simp only[w,seval,Y,U]<;>rfl)
   ·cases O;try simp only[w,seval,Y,U]
    apply ka;refine⟨rfl,?_⟩;and_intros<;>first|rfl|(simp only[w,seval,Y,U]<;>rfl)
  ·cases O;try simp only[w,seval,Y]
   apply ka;refine⟨rfl,?_⟩;and_intros<;>first|rfl|(simp only[w,seval,Y]<;>rfl)
 ·rintro x t H e hx;obtain⟨X,rfl⟩:∃z,z=o4:=⟨_,rfl⟩;dsimp only at hx O;obtain⟨rfl,ai⟩:=hx;obtain⟨x8,aj,O⟩:=ae O;obtain⟨al,an,ao,aq,ad⟩:=Kw (eI .i64) aj;simp only[bS]at ad;cases O;try simp only[w,seval,ai,al,an,ao,aq,ad]
def ru:=mkE 3 (eI .i64) (as0) (fun (l:(List Int)) (x:Unit)=>dZ l)
theorem Kn (pre post:List D) (O:(List Int)):ru (some (.buf 0 0 1 pre.length O.length,⟨0,3,pre++(ab (eI .i64) O++post),false,true,false⟩)) []=(dZ O).map fun r=>(.fresh 3 1 r.length (ab (eI .i64) r),none):=adb _ _ _ _ pre post O ()
theorem J5 (pre post:List D) (p0:(List Int)) (r:(List Int)) (O:dZ p0=some r):jY (.fresh 3 1) tab bm FU Tryz.f125 (some (.buf 0 0 1 pre.length p0.length,⟨0,3,pre++(ab (eI .i64) p0++post),false,true,false⟩)) []=some (.fresh 3 1 r.length (ab (eI .i64) r),none):=by
 apply Fq rfl ntmps125 results125;unfold dZ at O;try simp only[w,seval]
 obtain⟨o4,ai,O⟩:=ae O;refine aC (fun s t H e=>match s with|aa=>∃U:Nat,t 0=.buf 0 U 1 pre.length (p0).length∧t 3=.int .i64 aa∧H 0=some ⟨U,3,pre++(ab (eI .i64) p0++post),false,true,false⟩) (fun o x t H e=>match o with|Z=>x=.exit 0∧∃Y:Nat,t 0=.buf 0 Y 1 pre.length (p0).length∧t 3=.int .i64 Z∧H 0=some ⟨Y,3,pre++(ab (eI .i64) p0++post),false,true,false⟩) ai ?_ ?_ ?_
 ·refine⟨0,?_⟩;and_intros<;>first|rfl|(simp only[w,seval]<;>rfl)
 ·rintro aa t H e ⟨U,Za⟩ c O;simp only[kP]at O;try simp only[w,seval,Za]
  apply sp e7 O<;>intro _ O
  ·obtain⟨x6,aj,O⟩:=ae O;have X:=Nd (pre:=pre) (post:=post) (eI .i64) aj;simp only[bS]at X;try simp only[w,seval,Za,X]
   apply sp ak O<;>intro _ O
   ·cases O;try simp only[w,seval,Za,X]
    apply iS;refine⟨U,?_⟩;and_intros<;>first|rfl|(simp only[w,seval,Za,X]<;>rfl)
   ·cases O;try simp only[w,seval,Za,X]
    apply ka;refine⟨rfl,⟨U,?_⟩⟩;and_intros<;>first|rfl|(simp only[w,seval,Za,X]<;>rfl)
  ·cases O;try simp only[w,seval,Za]
   apply ka;refine⟨rfl,⟨U,?_⟩⟩;and_intros<;>first|rfl|(simp only[w,seval,Za]<;>rfl)
 ·rintro x t H e hx;obtain⟨Z,rfl⟩:∃z,z=o4:=⟨_,rfl⟩;dsimp only at hx O;obtain⟨rfl,⟨Y,al⟩⟩:=hx;obtain⟨x8,ad,O⟩:=ae O;obtain⟨an,ao,aq,ar,au⟩:=Kw (eI .i64) ad;simp only[bS]at au;obtain⟨ag,ah⟩:=abq (pre:=pre) (post:=post) (eI .i64) ad;simp only[bS]at ag ah;cases O;try simp only[w,seval,al,an,ao,aq,ag,ah,ar]
theorem FO:bX prog 125 ru:=bX.aec tok bG.none mixed func125 (by kernel_rfl) ⟨by kernel_rfl,by kernel_rfl⟩ (fun _=>aiG (by kernel_rfl)) (fun pre post l x r h=>J5 pre post l r h)
def cg (l:Option (D×Row)) (d:List D):=dV (ie (aI .i64) (dT (mS (eI .i64)))) (fun x:Int×(List Int)=>cY x.1 x.2) (fun r:aB =>.clean (.agg [.int .i64 r.aj,.sl false false r.aa.length (ab (eI .i64) r.aa)])) l d
def rW:Env:=(Am.ext bm 125 false fc)
theorem FI:bG prog rW:=(bG.none.add nh false)
theorem sB:type_of% (ai @w<|ai @Ub<|ai @fc.eq_1<|@rW.eq_1):=⟨@w,@Ub,@fc.eq_1,@rW.eq_1⟩
theorem iV:bX prog 87 cg:=bX.gP (mode := .clean) tok FI mixed func87 (by kernel_rfl) (fun _ _=>rfl) (fun _=>by kernel_rfl) fun⟨X,Y⟩ r O=>by
 replace O:cY X Y=some r:=O;apply aG rfl ntmps87 results87;simp only[gQ];unfold cY at O;obtain⟨Z,U,O⟩:=ae O;try simp only[sB,seval,U]
 apply sp ak O<;>intro _ O
 ·cases O;try simp only[sB,seval,U]
 ·cases O;try simp only[sB,seval,U]
def oJ (l:Option (D×Row)) (d:List D):=dV (dT (aI .i64)) (fun x:Int=>rK x) (fun r:aB =>.clean (.agg [.int .i64 r.aj,.sl false false r.aa.length (ab (eI .i64) r.aa)])) l d
def Dm:Env:=(Am.ext bm 87 false cg)
theorem Vp:bG prog Dm:=(bG.none.add iV false)
theorem gO:type_of% (ai @w<|ai @BR<|ai @cg.eq_1<|@Dm.eq_1):=⟨@w,@BR,@cg.eq_1,@Dm.eq_1⟩
theorem Ih:bX prog 107 oJ:=bX.gP (mode := .clean) tok Vp mixed func107 (by kernel_rfl) (fun _ _=>rfl) (fun _=>by kernel_rfl) fun p0 r O=>by
 replace O:rK p0=some r:=O;apply aG rfl ntmps107 results107;simp only[gQ];unfold rK at O;try simp only[gO,seval,-Int.reduceToNat]
 obtain⟨o1,ay,O⟩:=ae O;refine jA 0 (fun s t H e=>match s with|(U,ai)=>∃X:Nat,t 2=.ptr 2 X 0∧t 3=.int .i64 U∧t 4=.int .u64 ai∧H 2=some ⟨X,40,[.int .i64 0,.sl true true 0 []],false,false,false⟩) (fun s=>s=o1) ?_ ?_
 ·rintro⟨U,ai⟩ t H e ⟨X,ar⟩ rfl;try dsimp only at O
  try simp only[gO,seval,-Int.reduceToNat,ar]
  obtain⟨o7,az,O⟩:=ae O;refine aC (fun s t H e=>match s with|(au,aq)=>∃Y:Nat,∃ah:Nat,t 2=.ptr 2 Y 0∧t 3=.int .i64 U∧t 4=.int .u64 au∧t 5=.buf 5 ah 1 0 (aq).length∧H 2=some ⟨Y,40,[.int .i64 0,.sl true true 0 []],false,false,false⟩∧H 5=some ⟨ah,3,ab (eI .i64) aq,false,true,false⟩) (fun o x t H e=>match o with|Z=>x=.exit 0∧∃aa:Nat,∃ad:Nat,t 2=.ptr 2 aa 0∧t 3=.int .i64 U∧t 5=.buf 5 ad 1 0 (Z).length∧H 2=some ⟨aa,40,[.int .i64 0,.sl true true 0 []],false,false,false⟩∧H 5=some ⟨ad,3,ab (eI .i64) Z,false,true,false⟩) az ?_ ?_ ?_
  ·refine⟨X,e,?_⟩;and_intros<;>first|rfl|(simp only[gO,seval,-Int.reduceToNat,ar]<;>rfl)
  ·rintro⟨au,aq⟩ t H e ⟨Y,ah,Zb⟩ c O;simp only[uV]at O;try simp only[gO,seval,-Int.reduceToNat,Zb]
   apply sp ak O<;>intro _ O
   ·obtain⟨x9,aA,O⟩:=ae O;obtain⟨aj,ag,al,ao⟩:=iG (eI .i64) aA;simp only[bS]at ag;obtain⟨aD,av,O⟩:=ae O;have aw:=vv av;cases O;try simp only[gO,seval,-Int.reduceToNat,Zb,aj,ag,al,ao,aw]
    apply iS;refine⟨Y,e+1,?_⟩;and_intros<;>first|rfl|(simp only[gO,seval,-Int.reduceToNat,Zb,aj,ag,al,ao,aw]<;>rfl)
   ·cases O;try simp only[gO,seval,-Int.reduceToNat,Zb]
    apply ka;refine⟨rfl,⟨Y,ah,?_⟩⟩;and_intros<;>first|rfl|(simp only[gO,seval,-Int.reduceToNat,Zb]<;>rfl)
  ·rintro x t H e hx;obtain⟨Z,rfl⟩:∃z,z=o7:=⟨_,rfl⟩;dsimp only at hx O;obtain⟨rfl,⟨aa,ad,aB⟩⟩:=hx;obtain⟨aE,ax,O⟩:=ae O;cases O;try simp only[gO,seval,-Int.reduceToNat,aB,ax]
 ·clear O;have O:=ay;try simp only[gO,seval,-Int.reduceToNat]
  apply sp ak O<;>intro _ O
  ·cases O;try simp only[gO,seval,-Int.reduceToNat]
   rw[an];refine⟨_,rfl,?_⟩;refine⟨0,?_⟩;and_intros<;>first|rfl|(simp only[gO,seval,-Int.reduceToNat]<;>rfl)
  ·cases O;try simp only[gO,seval,-Int.reduceToNat]
   rw[an];refine⟨_,rfl,?_⟩;refine⟨0,?_⟩;and_intros<;>first|rfl|(simp only[gO,seval,-Int.reduceToNat]<;>rfl)
def kz (l:Option (D×Row)) (d:List D):=dV (dT (aI .i64)) (fun x:Int=>jm x) (fun r:aw =>.clean (.agg [.int .i64 r.cv.aj,.sl false false r.cv.aa.length (ab (eI .i64) r.cv.aa),.int .i64 r.cu.aj,.sl false false r.cu.aa.length (ab (eI .i64) r.cu.aa)])) l d
def wB:Env:=(Am.ext bm 107 false oJ)
theorem MH:bG prog wB:=(bG.none.add Ih false)
theorem R8:type_of% (ai @w<|ai @KT<|ai @oJ.eq_1<|@wB.eq_1):=⟨@w,@KT,@oJ.eq_1,@wB.eq_1⟩
theorem AP:bX prog 83 kz:=bX.gP (mode := .clean) tok MH mixed func83 (by kernel_rfl) (fun _ _=>rfl) (fun _=>by kernel_rfl) fun Y r O=>by
 replace O:jm Y=some r:=O;apply aG rfl ntmps83 results83;simp only[gQ];unfold jm at O;obtain⟨Z,U,O⟩:=ae O;obtain⟨r2,X,O⟩:=ae O;cases O;try simp only[R8,seval,U,X]
def bt (l:Option (D×Row)) (d:List D):=dV (dT (bD dF)) (fun x:aB=>cV x) (fun r:Bool =>.clean (.bool r)) l d
theorem fV:bX prog 79 bt:=bX.gP (mode := .clean) tok bG.none mixed func79 (by kernel_rfl) (fun _ _=>rfl) (fun _=>by kernel_rfl) fun Y r O=>by
 replace O:cV Y=some r:=O;apply aG rfl ntmps79 results79;simp only[gQ];unfold cV at O;try simp only[w,seval]
 obtain⟨o5,ao,O⟩:=ae O;refine aC (fun s t H e=>match s with|ag=>∃Z:Nat,t 1=.ptr 1 Z 0∧t 3=.int .i64 (Y.aa.length:Int)∧t 10=.sl false false Y.aa.length (ab (eI .i64) Y.aa)∧t 11=.int .i64 (Y.aa.length:Int)∧t 12=.int .i64 ag∧H 1=some ⟨Z,40,[.int .i64 Y.aj,.sl false false Y.aa.length (ab (eI .i64) Y.aa)],false,false,false⟩) (fun o x t H e=>match o with|(.inl _)=>x=.exit 0∧∃ad:Nat,t 1=.ptr 1 ad 0∧t 3=.int .i64 (Y.aa.length:Int)∧H 1=some ⟨ad,40,[.int .i64 Y.aj,.sl false false Y.aa.length (ab (eI .i64) Y.aa)],false,false,false⟩|(.inr r)=>x=.ret∧fF .clean tab none [.tmp 2] ⟨t,EH H,e⟩=some (.clean (.bool r),none)) ao ?_ ?_ ?_
 ·refine⟨0,?_⟩;and_intros<;>first|rfl|(simp only[w,seval]<;>rfl)
 ·rintro ag t H e ⟨Z,Za⟩ c O;simp only[nU]at O;try simp only[w,seval,Za]
  apply sp ak O<;>intro _ O
  ·obtain⟨x7,aq,O⟩:=ae O;have U:=bn (eI .i64) aq;simp only[bS]at U;try simp only[w,seval,Za,U]
   apply sp aP O<;>intro _ O
   ·cases O;try simp only[w,seval,Za,U]
    refine qH ⟨rfl,?_⟩;try simp only[w,seval,Za,U]
   ·try simp only[w,seval,Za,U]
    apply sp ak O<;>intro _ O
    ·cases O;try simp only[w,seval,Za,U]
     refine qH ⟨rfl,?_⟩;try simp only[w,seval,Za,U]
    ·cases O;try simp only[w,seval,Za,U]
     apply iS;refine⟨Z,?_⟩;and_intros<;>first|rfl|(simp only[w,seval,Za,U]<;>rfl)
  ·cases O;try simp only[w,seval,Za]
   apply ka;refine⟨rfl,⟨Z,?_⟩⟩;and_intros<;>first|rfl|(simp only[w,seval,Za]<;>rfl)
 ·rintro x t H e hx;rcases o5 with _|ra
  ·dsimp only at hx O;obtain⟨rfl,⟨ad,X⟩⟩:=hx;try simp only[w,seval,X]
   apply sp ak O<;>intro _ O
   ·cases O;try simp only[w,seval,X]
   ·try simp only[w,seval,X]
    apply sp aP O<;>intro _ O
    ·obtain⟨ar,al,O⟩:=ae O;have ah:=bn (eI .i64) al;simp only[bS]at ah;cases O;try simp only[w,seval,X,ah]
    ·try simp only[w,seval,X]
     apply sp e7 O<;>intro _ O
     ·obtain⟨au,an,O⟩:=ae O;have ai:=bn (eI .i64) an;simp only[bS]at ai;cases O;try simp only[w,seval,X,ai]
     ·cases O;try simp only[w,seval,X]
  ·dsimp only at hx O;obtain⟨rfl,hE⟩:=hx;cases O;try simp only[bd,aX,bk,cJ,cI,ca,cc]
   exact hE
def ke (l:Option (D×Row)) (d:List D):=dV (ie abO (dT (bD dF))) (fun x:Bool×aB=>eC x.1 x.2) (fun r:aB×Int =>.clean (.tup [.agg [.int .i64 r.1.aj,.sl false false r.1.aa.length (ab (eI .i64) r.1.aa)],.int .i64 r.2])) l d
theorem pr:bX prog 89 ke:=bX.gP (mode := .clean) tok bG.none mixed func89 (by kernel_rfl) (fun _ _=>rfl) (fun _=>by kernel_rfl) fun⟨U,X⟩ r O=>by
 replace O:eC U X=some r:=O;apply aG rfl ntmps89 results89;simp only[gQ];unfold eC at O;try simp only[w,seval]
 apply sp ak O<;>intro _ O
 ·cases O;try simp only[w,seval]
 ·cases O;try simp only[w,seval]
theorem zt (r:(List Int)) (O:da []=some r):jY (.fresh 3 1) tab bm FU Tryz.f88 none [.sl true true 0 []]=some (.fresh 3 1 r.length (ab (eI .i64) r),none):=by
 unfold da at O;obtain⟨U,X,Y⟩:=xk O;subst U;apply aG rfl ntmps88 results88;simp only[w,seval,Nat.lt_irrefl]
theorem zu (r:(List Int)) (O:da []=some r):jY (.fresh 3 1) tab bm FU Tryz.f88 none [.sl true false 0 []]=some (.fresh 3 1 r.length (ab (eI .i64) r),none):=by
 unfold da at O;obtain⟨U,X,Y⟩:=xk O;subst U;apply aG rfl ntmps88 results88;simp only[w,seval,Nat.lt_irrefl]
theorem zw (O r:(List Int)) (X:0<O.length) (U:da O=some r):jY (.fresh 3 1) tab bm FU Tryz.f88 none [.sl false false O.length (ab (eI .i64) O)]=some (.fresh 3 1 r.length (ab (eI .i64) r),none):=by
 unfold da at U;have Y:¬O.length=0:=by omega
 obtain⟨Z,qb,qc⟩:=xk U;subst Z;apply aG rfl ntmps88 results88;simp only[w,seval,X,Y,qb,qc]
def il:=dV (dT (mS (eI .i64))) (fun x:(List Int)=>da x) (fun r:(List Int) =>.fresh 3 1 r.length (ab (eI .i64) r))
theorem fE (O:(List Int)):il none [.sl false false O.length (ab (eI .i64) O)]=(da O).map fun r:(List Int)=>(.fresh 3 1 r.length (ab (eI .i64) r),none):=cP _ _ _ O
theorem kv:bX prog 88 il:=bX.aef (mode:=(.fresh 3 1)) tok bG.none mixed func88 (by kernel_rfl) ⟨by kernel_rfl,by kernel_rfl⟩ (aiG (by kernel_rfl)) zt zu zw
def pN (l:Option (D×Row)) (d:List D):=dV (dT (aI .i64)) (fun x:Int=>oA x) (fun r:Bool =>.clean (.bool r)) l d
theorem Ke:bX prog 118 pN:=bX.gP (mode := .clean) tok bG.none mixed func118 (by kernel_rfl) (fun _ _=>rfl) (fun _=>by kernel_rfl) fun U r O=>by
 replace O:oA U=some r:=O;apply aG rfl ntmps118 results118;simp only[gQ];unfold oA at O;cases O;try simp only[w,seval]
def eP (l:Option (D×Row)) (d:List D):=dV (ie (aI .i64) (dT (aI .i64))) (fun x:Int×Int=>gi x.1 x.2) (fun r:Int =>.clean (.int .i64 r)) l d
def qu:Env:=(Am.ext bm 118 false pN)
theorem Dt:bG prog qu:=(bG.none.add Ke false)
theorem ep:type_of% (ai @w<|ai @KT<|ai @pN.eq_1<|@qu.eq_1):=⟨@w,@KT,@pN.eq_1,@qu.eq_1⟩
theorem py:bX prog 76 eP:=bX.gP (mode := .clean) tok Dt mixed func76 (by kernel_rfl) (fun _ _=>rfl) (fun _=>by kernel_rfl) fun⟨Y,Z⟩ r O=>by
 replace O:gi Y Z=some r:=O;apply aG rfl ntmps76 results76;simp only[gQ];unfold gi at O;obtain⟨r1,U,O⟩:=ae O;obtain⟨r2,X,O⟩:=ae O;try simp only[ep,seval,U,X]
 apply sp ak O<;>intro _ O
 ·try simp only[ep,seval,U,X]
  apply sp ak O<;>intro _ O
  ·cases O;try simp only[ep,seval,U,X]
  ·cases O;try simp only[ep,seval,U,X]
 ·try simp only[ep,seval,U,X]
  apply sp ak O<;>intro _ O
  ·cases O;try simp only[ep,seval,U,X]
  ·try simp only[ep,seval,U,X]
   apply sp ak O<;>intro _ O
   ·cases O;try simp only[ep,seval,U,X]
   ·try simp only[ep,seval,U,X]
    apply sp ak O<;>intro _ O
    ·cases O;try simp only[ep,seval,U,X]
    ·cases O;try simp only[ep,seval,U,X]
def eO (l:Option (D×Row)) (d:List D):=dV (ie (mS (eI .i64)) (dT (mS (eI .i64)))) (fun x:(List Int)×(List Int)=>gh x.1 x.2) (fun r:Int =>.clean (.int .i64 r)) l d
def qt:Env:=(Am.ext bm 76 false eP)
theorem Dr:bG prog qt:=(bG.none.add py false)
theorem cT:type_of% (ai @w<|ai @Uc<|ai @eP.eq_1<|@qt.eq_1):=⟨@w,@Uc,@eP.eq_1,@qt.eq_1⟩
theorem pt:bX prog 91 eO:=bX.gP (mode := .clean) tok Dr mixed func91 (by kernel_rfl) (fun _ _=>rfl) (fun _=>by kernel_rfl) fun⟨p0,p1⟩ r X=>by
 replace X:gh p0 p1=some r:=X;apply aG rfl ntmps91 results91;simp only[gQ];unfold gh at X;try simp only[cT,seval]
 apply sp ak X<;>intro _ X
 ·obtain⟨r2,ah,X⟩:=ae X;cases X;try simp only[cT,seval,ah]
 ·try simp only[cT,seval]
  obtain⟨o8,ai,X⟩:=ae X;refine aC (fun s t H e=>match s with|ag=>t 0=.sl false false p0.length (ab (eI .i64) p0)∧t 1=.sl false false p1.length (ab (eI .i64) p1)∧t 5=.int .i64 ag) (fun o x t H e=>match o with|(.inl _)=>x=.exit 0|(.inr r)=>x=.ret∧fF .clean tab none [.tmp 4] ⟨t,EH H,e⟩=some (.clean (.int .i64 r),none)) ai ?_ ?_ ?_
  ·and_intros<;>first|rfl|(simp only[cT,seval]<;>rfl)
  ·rintro ag t H e Z c X;simp only[lq]at X;try simp only[cT,seval,Z]
   apply sp ak X<;>intro _ X
   ·obtain⟨aj,aa,X⟩:=ae X;have O:=bn (eI .i64) aa;simp only[bS]at O;obtain⟨al,ad,X⟩:=ae X;have U:=bn (eI .i64) ad;simp only[bS]at U;try simp only[cT,seval,Z,O,U]
    refine bH (by kernel_rfl) ?_;try simp only[cT,seval,Z,O,U]
    apply sp ak X<;>intro _ X
    ·have O:=bn (eI .i64) aa;simp only[bS]at O;have U:=bn (eI .i64) ad;simp only[bS]at U;obtain⟨an,Y,X⟩:=ae X;try simp only[cT,seval,Z,O,U,O,U,Y]
     refine bH (by kernel_rfl) ?_;cases X;try simp only[cT,seval,Z,O,U,O,U,Y]
     refine qH ⟨rfl,?_⟩;try simp only[cT,seval,Z,O,U,O,U,Y]
    ·cases X;try simp only[cT,seval,Z,O,U]
     apply iS;and_intros<;>first|rfl|(simp only[cT,seval,Z,O,U]<;>rfl)
   ·cases X;try simp only[cT,seval,Z]
    apply ka;exact rfl
  ·rintro x t H e hx;rcases o8 with _|ra
   ·dsimp only at hx X;subst hx;cases X;try simp only[cT,seval]
   ·dsimp only at hx X;obtain⟨rfl,hE⟩:=hx;cases X;try simp only[bd,aX,bk,cJ,cI,ca,cc]
    exact hE
def pM (l:Option (D×Row)) (d:List D):=dV (ie (mS (eI .i64)) (dT (aI .i64))) (fun x:(List Int)×Int=>mi x.1 x.2) (fun r:(List Int)×Int =>.clean (.tup [.sl false false r.1.length (ab (eI .i64) r.1),.int .i64 r.2])) l d
def tJ:Env:=(Am.ext bm 125 false fc)
theorem JT:bG prog tJ:=(bG.none.add nh false)
theorem iF:type_of% (ai @w<|ai @Ub<|ai @fc.eq_1<|@tJ.eq_1):=⟨@w,@Ub,@fc.eq_1,@tJ.eq_1⟩
theorem Kd:bX prog 141 pM:=bX.gP (mode := .clean) tok JT mixed func141 (by kernel_rfl) (fun _ _=>rfl) (fun _=>by kernel_rfl) fun⟨p0,p1⟩ r O=>by
 replace O:mi p0 p1=some r:=O;apply aG rfl ntmps141 results141;simp only[gQ];unfold mi at O;obtain⟨x1,aI,O⟩:=ae O;obtain⟨X,Y,Z,U,aa⟩:=mk_one (eI .i64) aI;simp only[bS]at U;try simp only[iF,seval,-Int.reduceToNat,X,Y,Z,U,aa]
 obtain⟨aJ,au,O⟩:=ae O;refine aC (fun s t H e=>match s with|(av,aw,ar)=>∃ad:Nat,t 0=.sl false false p0.length (ab (eI .i64) p0)∧t 1=.int .i64 p1∧t 6=.buf 6 ad 1 0 (ar).length∧t 7=.int .i64 av∧t 8=.int .i64 aw∧H 6=some ⟨ad,3,ab (eI .i64) ar,false,true,false⟩) (fun o x t H e=>match o with|(ao,ag)=>x=.exit 0∧∃ah:Nat,t 6=.buf 6 ah 1 0 (ag).length∧t 7=.int .i64 ao∧H 6=some ⟨ah,3,ab (eI .i64) ag,false,true,false⟩) au ?_ ?_ ?_
 ·refine⟨1,?_⟩;and_intros<;>first|rfl|(simp only[iF,seval,-Int.reduceToNat,X,Y,Z,U,aa]<;>rfl)
 ·rintro⟨av,aw,ar⟩ t H e ⟨ad,Za⟩ c O;simp only[nW]at O;try simp only[iF,seval,-Int.reduceToNat,X,Y,Z,U,aa,Za]
  apply sp ak O<;>intro _ O
  ·obtain⟨aL,ax,O⟩:=ae O;have ay:=BU ax;obtain⟨aM,az,O⟩:=ae O;have ai:=bn (eI .i64) az;simp only[bS]at ai;obtain⟨aA,aB,O⟩:=ae O;have aD:=rU aB;obtain⟨aN,aq,O⟩:=ae O;have aj:=bn (eI .i64) aq;simp only[bS]at aj;have an:=fK (eI .i64) (x':=aA) (fo:=0) (cs:=[.int .i64 aA]) aq rfl (aiG rfl);simp only[bS,Nat.add_zero]at an;have al:=an;simp only[putCells,List.length_cons,List.length_nil,ahE,Nat.reduceAdd]at al;obtain⟨aO,aE,O⟩:=ae O;have aF:=vb aE;cases O;try simp only[iF,seval,-Int.reduceToNat,X,Y,Z,U,aa,Za,ay,ai,aD,aj,an,al,aF]
   apply iS;refine⟨ad,?_⟩;and_intros<;>first|rfl|(simp only[iF,seval,-Int.reduceToNat,X,Y,Z,U,aa,Za,ay,ai,aD,aj,an,al,aF]<;>rfl)
  ·cases O;try simp only[iF,seval,-Int.reduceToNat,X,Y,Z,U,aa,Za]
   apply ka;refine⟨rfl,⟨ad,?_⟩⟩;and_intros<;>first|rfl|(simp only[iF,seval,-Int.reduceToNat,X,Y,Z,U,aa,Za]<;>rfl)
 ·rintro x t H e hx;rcases aJ with⟨ao,ag⟩;dsimp only at hx O;obtain⟨rfl,⟨ah,aK⟩⟩:=hx;obtain⟨aP,aH,O⟩:=ae O;cases O;try simp only[iF,seval,-Int.reduceToNat,X,Y,Z,U,aa,aK,aH]
section
variable {P:Program} {T:Nat->Option Ty} {N F:Nat} {M:Nat->Prop} {L:jc} {w0:World} {blk:Nat->Option (Nat×Nat)} {t:Nat->D} {h:Nat->Option Row} {a:Act} {w:World} {e:Nat} {Γ:Env} {done:List Nat}
theorem DH (X:rF N M L w0 blk e done t h a w):Holds N M L w0 ⟨t,h,e+1⟩ a w:=by
 refine⟨blk,X.inv.weaken fun x v U =>?_,fun x r ty s nv cs Y Z k3 k4 =>?_⟩
 ·rcases U with⟨O,U|⟨U,_⟩⟩|⟨O,h2,h3,h4⟩
  ·exact .inl ⟨O,.inl (by simp only;omega)⟩
  ·exact .inl ⟨O,.inl (by simp only;omega)⟩
  ·exact .inr ⟨O,by simp only;omega,fun _=>by simp only;omega,h4⟩
 ·have:=X.nv x r ty s nv cs Y Z k3 k4;exact⟨by simp only;omega,fun _=>by simp only;omega⟩
theorem EO (hT:ic P T) (hΓ:bG P Γ) {ops l:List Oper} {K:(Nat->D)->(Nat->Option Row)->Prop} {Q:Exit->Act->World->Prop} (hI:rF N M L w0 blk e done t h a w) (X:(l.filterMap (·.dst)).Nodup) (hd:∀o∈l,∀d,o.dst=some d->d∉done)
  (hk:kd T Γ N F ops l [] (fun _ t h _=>K t h) t h e) (hQ:∀O h' U w',K O h'->Holds N M L w0 ⟨O,h',e+1⟩ U w'->Q .normal U w'):wpList P ops.toArray Q l a w:=by
 obtain⟨O,h',fs,h1,h2⟩:=yp (T:=T) (Γ:=Γ) (N:=N) (e:=e) (ops:=ops.toArray) l t h hk;exact xc hT hΓ h1 X hd hI fun U w' blk' Y Z=>hQ O h' U w' h2 (DH Z)
theorem Yg (Y:ic P T) (Z:bG P Γ) {ops l:List Oper} {o:Oper} {K:(Nat->D)->(Nat->Option Row)->Prop} {Q:Exit->Act->World->Prop} (hI:rF N M L w0 blk e done t h a w) (hd:∀d,o.dst=some d->d∉done)
  (hk:kd T Γ N F ops [o] [] (fun _ t h _=>K t h) t h e) (hQ:∀O h' U w' blk',K O h'->rF N M L w0 blk' e (o.dst.toList++done) O h' U w'->wpList P ops.toArray Q l U w'):wpList P ops.toArray Q (o::l) a w:=by
 obtain⟨O,h',fs,h1,h2⟩:=yp (T:=T) (Γ:=Γ) (N:=N) (e:=e) (ops:=ops.toArray) [o] t h hk;simp only[zK]at h1;split at h1
 ·rename_i t1 aa f hs;simp only[agY,Prod.mk.injEq]at h1;obtain⟨rfl,rfl,_⟩:=h1;unfold wpList;exact Ky Y Z hI hs hd fun U w' blk' X=>hQ _ _ _ _ blk' h2 X
 ·cases h1
theorem xp (hT:ic P T) (hΓ:bG P Γ) (hm:P.follows .mixedOrders=true) {c:Code} {K:Kt} {Q:Exit->Act->World->Prop} (hH:Holds N M L w0 ⟨t,h,e⟩ a w) (X:codeOk c=true) (hk:de T Γ N F [.code c] K .normal t h e)
  (hQ:∀x Z h' e' O w',K x Z h' e'->Holds N M L w0 ⟨Z,h',e'⟩ O w'->Q (Df x) O w'):c.wp P Q a w:=by
 obtain⟨x,U,h1,h2⟩:=KQ c t h e K hk;exact iE hT hΓ hm c ⟨t,h,e⟩ x U Q a w h1 X hH fun O w' Y=>hQ x U.t U.h U.e O w' h2 Y
theorem gF.maps {h':Nat->Option Row} (Z:∀x,h' x=h x∨∃v ty ks vs fz lst,h' x=some ⟨v,ty,[.mpc ks vs],fz,lst,true⟩):gF e h h':=by
 intro x r' ty' s' U cs' O k2 Y k4;rcases Z x with X|⟨v,ty,ks,vs,fz,lst,X⟩
 ·rw[X]at O;exact⟨r',ty',s',U,cs',O,k2,Y,.inl rfl⟩
 ·rw[X]at O;cases O;cases Y
theorem X8 {d:Nat} (U:d<N) (Y:N<=PK) (X:d∉done):iM N (VE N e done h) d e where
 no:=by
  rintro (⟨_,O|⟨_,O⟩⟩|⟨O,_⟩)
  ·exact absurd O (Nat.lt_irrefl _)
  ·exact X O
  ·have:=cr;omega
 lt:=U
end
theorem map_eraseIdx {α β:Type} (f:α->β):∀(l:List α) (j:Nat),(l.map f).eraseIdx j=(l.eraseIdx j).map f
 | [],_=>rfl
 | a::l,0=>rfl
 | a::l,j+1=>by simp[map_eraseIdx f l j]
theorem xV {α:Type} : ∀m:List ((Int×Int)×α),dH m=m.map fun q=>vK.k q.1
 | []=>rfl
 | (k,v)::m=>by simp[dH,xV m]
theorem DY {α:Type} (A:Arg α):∀m:List ((Int×Int)×α),fC A m=m.map fun q=>A.d q.2
 | []=>rfl
 | (k,v)::m=>by simp[fC,DY A m]
theorem EA {α:Type} : ∀ {l:List α} {j:Nat} {q:α},l[j]? = some q->l.Perm (q::l.eraseIdx j)
 | [],_,_,h=>by simp at h
 | a::l,0,q,h=>by simp only[List.getElem?_cons_zero,agY]at h;subst h;exact ai0 _
 | a::l,j+1,q,h=>by
  simp only[List.getElem?_cons_succ]at h;exact ((EA h).cons a).trans (List.Perm.swap q a _)
def gZ (q:(Int×Int)×aw):bJ:=bJ.mk q.1.1 q.1.2 q.2
def adU (r:fA×Int) (t:Nat->D) (h:Nat->Option Row) (e:Nat):Prop:=∃(m:List ((Int×Int)×aw)) (ports:Int) (v21 v9 v2 nv:Nat),t 6=.mp 21 v21∧h 21=some ⟨v21,74,[.mpc (dH m) (fC (bD aF) m)],false,true,true⟩ ∧
 t 9=.ptr 9 v9 0∧h 9=some ⟨v9,28,[.nr 65 6 nv [.int .i64 ports,.nx 0 []]],false,false,true⟩∧t 2=.ptr 2 v2 0∧h 2=some ⟨v2,28,[.int .i64 0,.sl true true 0 []],false,false,false⟩∧nv<=4*e∧BK ports m=some r
def B1:=mkW 65 bj (dT (aFn 43)) (fun (l:List bJ) (_:Unit)=>A0 (jg bJ.cq bJ.iH) l) (fun _:Unit =>.clean (.tup []))
theorem Y1 (pre post:List D) (O:List bJ):B1 (some (.buf 0 0 6 pre.length O.length,⟨0,65,pre++(ab bj O++post),false,true,false⟩)) [.fn 43]=(A0 (jg bJ.cq bJ.iH) O).map fun r=>(.clean (.tup []),some ⟨0,65,pre++(ab bj r.1++post),false,true,false⟩):=YC _ _ _ _ _ pre post O ()
theorem VR:bX prog 42 B1:=Kh tB (fun x=>by rw[nX];rfl) (fun x=>by rw[nX];rfl) 65
def Qy:Env:=(Am.sW 9 (65,6,1) (Am.ext bm 42 true B1))
theorem pX:bG prog Qy:=bG.sW (bG.none.add VR true) 9 (65,6,1)
theorem uA:type_of% (ai @w<|@Qy.eq_1):=⟨@w,@Qy.eq_1⟩
def Sd (m:List ((Int×Int)×aw)) (ports:Int) (O:List ((Int×Int)×aw)) (t:Nat->D) (h:Nat->Option Row) (e:Nat):Prop:=∃(ks:List cn) (vs:List D) (acc:List bJ) (U ty v9 v2 nv:Nat),
 t 44=.ptr 44 U 0∧h 44=some ⟨U,ty,[.mpc ks vs],false,true,true⟩∧900000<=ty∧ks.drop (ty-900000)=dH O∧vs.drop (ty-900000)=fC (bD aF) O ∧
 t 9=.ptr 9 v9 0∧h 9=some ⟨v9,28,[.nr 65 6 nv [.int .i64 ports,.nx acc.length (ab bj acc)]],false,false,true⟩∧t 2=.ptr 2 v2 0∧h 2=some ⟨v2,28,[.int .i64 0,.sl true true 0 []],false,false,false⟩∧nv<=4*e∧(acc++O.map gZ).Perm (m.map gZ)
theorem abb {m:List ((Int×Int)×aw)} {ports:Int} (hc:m.length<=8000∧(m.map (·.1)).Nodup) {t:Nat->D} {h:Nat->Option Row} {e:Nat} {w0:World} {M:Nat->Prop} {a:Act} {w:World} (hJ:Sd m ports [] t h e) (hH:Holds 65 M none w0 ⟨t,h,e⟩ a w) :
  (zQ 0 (zQ 5 (Xb Tryz.f12))).wp prog (bodyPost prog Tryz.f12 fun e w'=>∃v,e=.returned v∧Below w0.heap.size w0 w'∧s6 w0 w' M (fun _=>False) v (.clean (.tup [.agg [.int .i64 ports,.sl false false (nL (jg bJ.cq bJ.iH) (m.map gZ)).length (ab bj (nL (jg bJ.cq bJ.iH) (m.map gZ)))],.int .i64 0]))) a w:=by
 obtain⟨ks,vs,acc,vI,ty,v9,v2,nv,i1,i2,i3,i4,i5,i6,i7,i8,i9,i10,i11⟩:=hJ;rw[ahF,aiP]at i11;have hkey:∀x∈acc,∀y∈acc,jg bJ.cq bJ.iH x y=0->x=y:=by
  intro x Z y hy h0;obtain⟨p,hp,rfl⟩:=agO.1 (i11.mem_iff.1 Z);obtain⟨q,hq,rfl⟩:=agO.1 (i11.mem_iff.1 hy);obtain⟨k1,k2⟩:=RE.1 h0;have hk:p.1=q.1:=Prod.ext k1 k2;have:p=q:=by
   obtain⟨i,hi,rfl⟩:=List.getElem_of_mem hp;obtain⟨j,hj,rfl⟩:=List.getElem_of_mem hq;have:=(List.getElem_inj (h₀:=by simpa using hi) (h₁:=by simpa using hj) hc.2).1 (by simpa using hk);subst this;rfl
  rw[this]
 have O:nL (jg bJ.cq bJ.iH) acc=nL (jg bJ.cq bJ.iH) (m.map gZ):=by
  refine mR (((gV _ acc).trans i11).trans (gV _ _).symm) (fun x Z y hy h1 h2=>hkey x ((gV _ acc).mem_iff.1 Z) y ((gV _ acc).mem_iff.1 hy) ?_) (ly (rm _ _) _) (ly (rm _ _) _);have:=(rm bJ.cq bJ.iH).neg x y;have:=(rm bJ.cq bJ.iH).neg y x;omega
 have hlen:acc.length=m.length:=by rw[i11.length_eq,ahj]
 have hs:A0 (jg bJ.cq bJ.iH) acc=some (nL (jg bJ.cq bJ.iH) (m.map gZ),()):=by
  unfold A0;rw[if_pos ⟨by omega,hkey⟩,O]
 have U:(nL (jg bJ.cq bJ.iH) (m.map gZ)).length=acc.length:=by rw[mo,ahj,hlen]
 generalize nL (jg bJ.cq bJ.iH) (m.map gZ)=X at hs U ⊢;have iq:=Y1 [] [] acc;simp only[List.nil_append,aiP,List.length_nil,bS]at iq;refine (show (Code.seq (Code.region _ _ _) (Code.seq (Code.region _ _ _) Code.ret)).wp _ _ _ _ from ?_);refine xp (F:=FU) tok pX mixed hH (by kernel_rfl) (K:=fun x t h e=>x=.ret∧fF .clean tab none [.cell 2 28,.tmp 3] ⟨t,EH h,e⟩=some (.clean (.tup [.agg [.int .i64 ports,.sl false false X.length (ab bj X)],.int .i64 0]),none)) ?_ ?_
 ·simp only[uA,seval,i6,i7,i8,i9,iq,hs,U]
 ·rintro x t' h' e' a' w' ⟨rfl,hr⟩ aa;have Y:Holds Tryz.f12.ntmps M none w0 ⟨t',h',e'⟩ a' w':=by rw[ntmps12];exact aa
  exact Hi tok Y (by rw[results12];exact hr)
theorem YG (r:fA×Int):KZ prog Tryz.f12 (zQ 5 (Xb Tryz.f12)) (.clean (.tup [.agg [.int .i64 r.1.aA,.sl false false r.1.aK.length (ab bj r.1.aK)],.int .i64 r.2])) (adU r):=by
 intro w0 M s a w hJ hH;obtain⟨t0,h0,e0⟩:=s;obtain⟨m,ports,v21,v9,v2,nv,j1,j2,j3,j4,j5,j6,j7,hr⟩:=hJ;dsimp only at j1 j2 j3 j4 j5 j6 j7;unfold BK at hr
 by_cases hc:m.length<=8000∧(m.map (·.1)).Nodup
 rotate_left
 ·rw[if_neg hc]at hr;cases hr
 rw[if_pos hc]at hr;cases hr;rw[ntmps12]at hH;apply wp_seq;apply wp_seq;obtain⟨blk,hI⟩:=hH;apply wp_region_lit;refine Yg (F:=FU) tok pX hI (fun d _=>by simp) (K:=fun t h=>t=bI t0 43 (.mp 21 v21)∧h=h0) (by simp only[uA,seval,j1,j2]) ?_;rintro t1 h1 a1 w1 az ⟨rfl,rfl⟩ ad;refine yQ rfl ad (by decide) (K:=fun t h=>t=bI (bI t0 43 (.mp 21 v21)) 44 (.ptr 44 e0 0)∧h=bI (bI h1 21 (some ⟨v21,74,[.mpc (dH m) (fC (bD aF) m)],true,true,true⟩)) 44 (some ⟨e0,900000,[.mpc (dH m) (fC (bD aF) m)],false,true,true⟩)) ?_ ?_
 ·refine dX.mono (Qm tok ad.inv (e:=e0) (ty:=74) (d:=44) (k:=77) (el:=42) (x:=21) (v:=v21) (v':=v21) (m := .tmp 43) rfl rfl (X8 (by decide) (by rw[cr];decide) (by simp)) underlying74 (by simp[ev,aq]) j2 (by decide) (by rw[cr];decide) (by decide)) fun v w' hA=>⟨_,⟨rfl,rfl⟩,uR ad (fun d hd =>?_) (gF.maps fun x =>?_) hA⟩
  ·cases hd;exact⟨by simp,by decide⟩
  ·show bI (bI h1 21 _) 44 _ x=_∨_
   by_cases X:x=44
   ·subst X;rw[aq];exact .inr ⟨_,_,_,_,_,_,rfl⟩
   ·rw[av _ _ X]
    by_cases ag:x=21
    ·subst ag;rw[aq];exact .inr ⟨_,_,_,_,_,_,rfl⟩
    ·rw[av _ _ ag];exact .inl rfl
 ·rintro t2 h2 a2 w2 aB ⟨rfl,rfl⟩ ah;have ai:=DH ah;have ak:Sd m ports m (bI (bI t0 43 (.mp 21 v21)) 44 (.ptr 44 e0 0)) (bI (bI h1 21 (some ⟨v21,74,[.mpc (dH m) (fC (bD aF) m)],true,true,true⟩)) 44 (some ⟨e0,900000,[.mpc (dH m) (fC (bD aF) m)],false,true,true⟩)) (e0+1) :=
   ⟨_,_,[],e0,900000,v9,v2,nv,aq _ _ _,aq _ _ _,agP _,by rw[ah3,aik],by rw[ah3,aik],by rw[av _ _ (by decide),av _ _ (by decide)];exact j3,by rw[av _ _ (by decide),av _ _ (by decide)];exact j4,by rw[av _ _ (by decide),av _ _ (by decide)];exact j5,by rw[av _ _ (by decide),av _ _ (by decide)];exact j6,by omega,ai0 _⟩
  apply wp_block;refine wp_loop_ghost (fun n a w=>∃(Y:List ((Int×Int)×aw)) (t:Nat->D) (h:Nat->Option Row) (e:Nat),Y.length=n∧Sd m ports Y t h e∧Holds 65 M none w0 ⟨t,h,e⟩ a w) m.length ⟨m,_,_,_,rfl,ak,ai⟩ ?_;clear ak ai ah ad hI j1 j2 j3 j4 j5 j6 j7;rintro n a w ⟨Y,t,h,e,hn,⟨ks,vs,acc,vI,ty,v9,v2,nv,i1,i2,i3,i4,i5,i6,i7,i8,i9,i10,i11⟩,blk,hI⟩;replace hI:rF 65 M none w0 blk e [] t h a w:=hI;apply wp_seq;apply wp_region_lit;refine yQ rfl hI (by decide) (K:=fun t' h'=>(Y=[]∧t'=bI t 45 (.tup [.bool false])∧h'=h)∨∃(k:Int×Int) (x:aw) (O:List ((Int×Int)×aw)),(Y.map gZ).Perm (gZ (k,x)::O.map gZ)∧Y.length=O.length+1 ∧
   t'=bI t 45 (.tup [.bool true,.agg [.int .i64 k.1,.int .i64 k.2],.agg [.int .i64 x.cv.aj,.sl false false x.cv.aa.length (ab (eI .i64) x.cv.aa),.int .i64 x.cu.aj,.sl false false x.cu.aa.length (ab (eI .i64) x.cu.aa)]]) ∧
   h'=bI h 44 (some ⟨vI,900001,[.mpc (dH ((k,x)::O)) (fC (bD aF) ((k,x)::O))],false,true,true⟩)) ?_ ?_
  ·refine dX.mono (Vb hI.inv (e:=e) (y:=44) (p := .tmp 44) rfl (by simp[ev,i1]) i2 i3 (by rw[cr];decide)) ?_;rintro v w' (⟨q1,q2⟩|⟨j,k,x,q1,q2,q3⟩)
   ·rw[i4,xV]at q1;have ao:Y=[]:=List.map_eq_nil_iff.1 q1;exact⟨_,.inl ⟨ao,rfl,rfl⟩,uR hI (fun d hd=>by cases hd;exact⟨by simp,by decide⟩) (gF.maps fun x =>.inl rfl) q2⟩
   ·rw[i4,i5]at q3;rw[i4]at q1;rw[i5]at q2;rw[xV]at q1 q3;rw[DY]at q2 q3;rw[agM]at q1 q2;obtain⟨q,hq,rfl⟩:=agN.1 q1;rw[hq]at q2;cases q2;rw[map_eraseIdx,map_eraseIdx,<- xV,<- DY]at q3;have hp:=EA hq;refine⟨_,.inr ⟨q.1,q.2,Y.eraseIdx j,hp.map gZ,hp.length_eq,rfl,rfl⟩,uR hI (fun d hd=>by cases hd;exact⟨by simp,by decide⟩) (gF.maps fun x =>?_) q3⟩;show bI h 44 _ x=_∨_
    by_cases X:x=44
    ·subst X;rw[aq];exact .inr ⟨_,_,_,_,_,_,rfl⟩
    ·rw[av _ _ X];exact .inl rfl
  ·rintro t' h' a' w' blk' (⟨rfl,rfl,rfl⟩|⟨k,x,O,p1,p2,rfl,rfl⟩) ae
   ·refine EO (F:=FU) tok pX ae (by decide) (by simp) (K:=fun t' U=>t'=bI (bI t 45 (.tup [.bool false])) 46 (.bool false)∧U=h') (by simp only[uA,seval]) ?_;rintro t2 h2 a2 w2 ⟨rfl,rfl⟩ hH;refine (show Code.wp _ (Code.seq (Code.cond _ Code.skip (Code.exit 2)) _) _ a2 w2 from ?_);refine xp (F:=FU) tok pX mixed hH (by kernel_rfl) (K:=fun x t' U e'=>x=.exit 2∧t'=bI (bI t 45 (.tup [.bool false])) 46 (.bool false)∧U=h2∧e'=e+1) (by simp only[uA,seval]) ?_;rintro x t3 h3 e3 a3 w3 ⟨rfl,rfl,rfl,rfl⟩ ar;refine abb hc ⟨ks,vs,acc,vI,ty,v9,v2,nv,?_,i2,i3,i4,i5,?_,i7,?_,i9,by omega,i11⟩ ar
    ·rw[av _ _ (by decide),av _ _ (by decide)];exact i1
    ·rw[av _ _ (by decide),av _ _ (by decide)];exact i6
    ·rw[av _ _ (by decide),av _ _ (by decide)];exact i8
   ·refine EO (F:=FU) tok pX ae (by decide) (by simp) (K:=fun t' U=>t'=bI (bI t 45 (.tup [.bool true,.agg [.int .i64 k.1,.int .i64 k.2],.agg [.int .i64 x.cv.aj,.sl false false x.cv.aa.length (ab (eI .i64) x.cv.aa),.int .i64 x.cu.aj,.sl false false x.cu.aa.length (ab (eI .i64) x.cu.aa)]])) 46 (.bool true)∧U=bI h 44 (some ⟨vI,900001,[.mpc (dH ((k,x)::O)) (fC (bD aF) ((k,x)::O))],false,true,true⟩)) (by simp only[uA,seval]) ?_;rintro t2 h2 a2 w2 ⟨rfl,rfl⟩ hH;refine (show Code.wp _ (Code.seq (Code.cond _ Code.skip (Code.exit 2)) (Code.block 3 (Code.seq (Code.region _ (List.toArray _) false) _))) _ a2 w2 from ?_);apply wp_seq;have hF:∃t h,(t 44=.ptr 44 vI 0∧t 9=.ptr 9 v9 0∧t 2=.ptr 2 v2 0∧h 44=some ⟨vI,900001,[.mpc (dH ((k,x)::O)) (fC (bD aF) ((k,x)::O))],false,true,true⟩∧h 9=some ⟨v9,28,[.nr 65 6 nv [.int .i64 ports,.nx acc.length (ab bj acc)]],false,false,true⟩∧h 2=some ⟨v2,28,[.int .i64 0,.sl true true 0 []],false,false,false⟩∧t 46=.bool true)∧Holds 65 M none w0 ⟨t,h,e+1⟩ a2 w2:=by
     refine⟨_,_,⟨?_,?_,?_,aq _ _ _,?_,?_,aq _ _ _⟩,hH⟩
     ·rw[av _ _ (by decide),av _ _ (by decide)];exact i1
     ·rw[av _ _ (by decide),av _ _ (by decide)];exact i6
     ·rw[av _ _ (by decide),av _ _ (by decide)];exact i8
     ·rw[av _ _ (by decide)];exact i7
     ·rw[av _ _ (by decide)];exact i9
    clear hH ae hI i1 i2 i3 i4 i5 i6 i7 i8 i9;clear h t;obtain⟨t,h,⟨f1,f2,f3,f4,f5,f6,f7⟩,hH⟩:=hF;refine xp (F:=FU) tok pX mixed hH (by kernel_rfl) (K:=fun x t' U e'=>x=.normal∧t'=t∧U=h∧e'=e+1) (by simp only[uA,seval,f7]) ?_;rintro x' t3 h3 e3 a3 w3 ⟨rfl,rfl,rfl,rfl⟩ ⟨al,Z⟩;replace Z:rF 65 M none w0 al (e+1) [] t3 h3 a3 w3:=Z;refine (show Code.wp _ (Code.block 3 (Code.seq (Code.region _ (List.toArray _) false) _)) _ a3 w3 from ?_);apply wp_block;apply wp_seq;apply wp_region_lit;refine yQ rfl Z (by decide) (K:=fun t' h'=>t'=bI t3 47 (.tup [.agg [.int .i64 k.1,.int .i64 k.2],.agg [.int .i64 x.cv.aj,.sl false false x.cv.aa.length (ab (eI .i64) x.cv.aa),.int .i64 x.cu.aj,.sl false false x.cu.aa.length (ab (eI .i64) x.cu.aa)]])∧h'=h3) ?_ ?_
    ·refine dX.mono (Qj Z.inv (e:=e+1) (y:=44) (p := .tmp 44) (k:=vK.k k) (x:=(bD aF).d x) (ks:=dH O) (vs:=fC (bD aF) O) rfl (by simp[ev,f1]) f4 (by rw[cr];decide)) fun v w' hA=>⟨_,⟨rfl,rfl⟩,uR Z (fun d hd=>by cases hd;exact⟨by simp,by decide⟩) (gF.refl _ _) hA⟩
    ·rintro t4 h4 a4 w4 aC ⟨rfl,rfl⟩ au;refine EO (F:=FU) tok pX au (by decide) (by simp) (K:=fun t' h'=>t' 44=.ptr 44 vI 0∧t' 9=.ptr 9 v9 0∧t' 2=.ptr 2 v2 0∧t' 10=.ptr 10 (e+1) 0∧t' 11=.ptr 11 (e+1) 0 ∧
      h' 44=some ⟨vI,900001,[.mpc (dH ((k,x)::O)) (fC (bD aF) ((k,x)::O))],false,true,true⟩∧h' 9=some ⟨v9,28,[.nr 65 6 nv [.int .i64 ports,.nx acc.length (ab bj acc)]],false,false,true⟩∧h' 2=some ⟨v2,28,[.int .i64 0,.sl true true 0 []],false,false,false⟩ ∧
      h' 10=some ⟨e+1,77,[.int .i64 k.1,.int .i64 k.2],false,false,false⟩∧h' 11=some ⟨e+1,42,[.int .i64 x.cv.aj,.sl false false x.cv.aa.length (ab (eI .i64) x.cv.aa),.int .i64 x.cu.aj,.sl false false x.cu.aa.length (ab (eI .i64) x.cu.aa)],false,false,false⟩) (by simp only[uA,seval,f1,f2,f3,f4,f5,f6]) ?_
     rintro t5 h5 a5 w5 ⟨g1,g2,g3,g4,g5,g6,g7,g8,g9,g10⟩ ax;have aD:acc.length+1+O.length=m.length:=by
      have:=i11.length_eq;simp only[ah1,ahj]at this;omega
     have an:lf 80 acc [gZ (k,x)]=some (acc++[gZ (k,x)]):=by
      unfold lf;have:(17592186044416:Nat)<=maxLen:=by decide
      rw[if_pos ⟨by simp;omega,by simp;omega⟩]
     obtain⟨qa,qb,qc,qd⟩:=iG bj an;simp only[bS,gZ]at qb;have bp:bump nv (e+1+1)=some (4*(e+1+1)+1):=xm (by omega);refine (show Code.wp _ (Code.region _ (List.toArray _) false) _ a5 w5 from ?_);refine xp (F:=FU) tok pX mixed ax (by kernel_rfl) (K:=fun x' t' h' e'=>x'=.normal∧e'=e+1+1+1∧t' 44=.ptr 44 vI 0∧t' 9=.ptr 9 v9 0∧t' 2=.ptr 2 v2 0 ∧
      h' 44=some ⟨vI,900001,[.mpc (dH ((k,x)::O)) (fC (bD aF) ((k,x)::O))],false,true,true⟩∧h' 9=some ⟨v9,28,[.nr 65 6 (4*(e+1+1)+1) [.int .i64 ports,.nx (acc++[gZ (k,x)]).length (ab bj (acc++[gZ (k,x)]))]],false,false,true⟩∧h' 2=some ⟨v2,28,[.int .i64 0,.sl true true 0 []],false,false,false⟩)
      (by simp only[uA,seval,g1,g2,g3,g4,g5,g6,g7,g8,g9,g10,qa,qb,qc,qd,bp,gZ];exact⟨qc,qd⟩) ?_
     rintro x' t6 h6 e6 a6 w6 ⟨rfl,rfl,l1,l2,l3,l4,l5,l6⟩ ay;refine (show ∃n',n'<n∧∃(Y:List ((Int×Int)×aw)) (t:Nat->D) (h:Nat->Option Row) (e:Nat),Y.length=n'∧Sd m ports Y t h e∧Holds 65 M none w0 ⟨t,h,e⟩ a6 w6 from ?_);refine⟨O.length,by omega,O,t6,h6,_,rfl,⟨_,_,_,vI,900001,v9,v2,_,l1,l4,by decide,?_,?_,l2,l5,l3,l6,by omega,?_⟩,ay⟩
     ·rw[show 900001-900000=1 from aif (n:=900000) (m:=1)];rfl
     ·rw[show 900001-900000=1 from aif (n:=900000) (m:=1)];rfl
     ·rw[aid];exact (List.Perm.append_left acc p1.symm).trans i11
def ox (l:Option (D×Row)) (d:List D):=dV (ie (mS (eI .i64)) (dT (mS (eI .i64)))) (fun x:(List Int)×(List Int)=>nV x.1 x.2) (fun r:(List Int) =>.fresh 3 1 r.length (ab (eI .i64) r)) l d
def za:Env:=(Am.ext bm 125 true ru)
theorem QH:bG prog za:=(bG.none.add FO true)
theorem fj:type_of% (ai @w<|@za.eq_1):=⟨@w,@za.eq_1⟩
theorem Ej:bX prog 126 ox:=bX.gP (mode:=(.fresh 3 1)) tok QH mixed func126 (by kernel_rfl) (fun _ _=>rfl) (fun _=>by kernel_rfl) fun⟨p0,p1⟩ r O=>by
 replace O:nV p0 p1=some r:=O;apply aG rfl ntmps126 results126;simp only[gQ];unfold nV at O;obtain⟨x1,aU,O⟩:=ae O;obtain⟨Y,Z,aa,U,ad⟩:=mk_one (eI .i64) aU;simp only[bS]at U;try simp only[fj,seval,-Int.reduceToNat,Y,Z,aa,U,ad]
 obtain⟨aV,aJ,O⟩:=ae O;refine aC (fun s t H e=>match s with|(ai,aF)=>∃ao:Nat,t 1=.sl false false p1.length (ab (eI .i64) p1)∧t 5=.buf 5 ao 1 0 (aF).length∧t 18=.sl false false p0.length (ab (eI .i64) p0)∧t 19=.int .i64 (p0.length:Int)∧t 20=.int .i64 ai∧H 5=some ⟨ao,3,ab (eI .i64) aF,false,true,false⟩) (fun o x t H e=>match o with|aj=>x=.exit 0∧∃aq:Nat,t 5=.buf 5 aq 1 0 (aj).length∧H 5=some ⟨aq,3,ab (eI .i64) aj,false,true,false⟩) aJ ?_ ?_ ?_
 ·refine⟨1,?_⟩;and_intros<;>first|rfl|(simp only[fj,seval,-Int.reduceToNat,Y,Z,aa,U,ad]<;>rfl)
 ·rintro⟨ai,aF⟩ t H e ⟨ao,Za⟩ c O;simp only[rP]at O;try simp only[fj,seval,-Int.reduceToNat,Y,Z,aa,U,ad,Za]
  apply sp ak O<;>intro _ O
  ·obtain⟨aH,aK,O⟩:=ae O;have X:=bn (eI .i64) aK;simp only[bS]at X;try simp only[fj,seval,-Int.reduceToNat,Y,Z,aa,U,ad,Za,X]
   obtain⟨aW,aL,O⟩:=ae O;refine aC (fun s t H e=>match s with|(aA,aE,aI)=>∃ar:Nat,t 1=.sl false false p1.length (ab (eI .i64) p1)∧t 5=.buf 5 ar 1 0 (aI).length∧t 6=.int .i64 ai∧t 7=.int .i64 aH∧t 8=.int .i64 aA∧t 18=.sl false false p0.length (ab (eI .i64) p0)∧t 19=.int .i64 (p0.length:Int)∧t 20=.int .i64 ai∧t 25=.sl false false p1.length (ab (eI .i64) p1)∧t 26=.int .i64 (p1.length:Int)∧t 27=.int .i64 aE∧H 5=some ⟨ar,3,ab (eI .i64) aI,false,true,false⟩) (fun o x t H e=>match o with|(al,au)=>x=.exit 2∧∃an:Nat,t 1=.sl false false p1.length (ab (eI .i64) p1)∧t 5=.buf 5 an 1 0 (au).length∧t 6=.int .i64 ai∧t 8=.int .i64 al∧t 18=.sl false false p0.length (ab (eI .i64) p0)∧t 19=.int .i64 (p0.length:Int)∧t 20=.int .i64 ai∧H 5=some ⟨an,3,ab (eI .i64) au,false,true,false⟩) aL ?_ ?_ ?_
   ·refine⟨ao,?_⟩;and_intros<;>first|rfl|(simp only[fj,seval,-Int.reduceToNat,Y,Z,aa,U,ad,Za,X]<;>rfl)
   ·rintro⟨aA,aE,aI⟩ t H e ⟨ar,Zc⟩ c O;simp only[rQ]at O;try simp only[fj,seval,-Int.reduceToNat,Y,Z,aa,U,ad,X,Zc]
    apply sp ak O<;>intro _ O
    ·obtain⟨aM,aN,O⟩:=ae O;have av:=bn (eI .i64) aN;simp only[bS]at av;obtain⟨aO,aw,O⟩:=ae O;have ag:=bn (eI .i64) aw;simp only[bS]at ag;obtain⟨aY,aP,O⟩:=ae O;have aQ:=vv aP;have ag:=bn (eI .i64) aw;simp only[bS]at ag;have aB:=fK (eI .i64) (x':=j0 .and .i64 (IntKind.i64.wrap ((IntKind.i64.wrap (aO+(IntKind.i64.wrap (aH*aM))))+aA)) 1048575) (fo:=0) (cs:=[.int .i64 (j0 .and .i64 (IntKind.i64.wrap ((IntKind.i64.wrap (aO+(IntKind.i64.wrap (aH*aM))))+aA)) 1048575)]) aw rfl (aiG rfl);simp only[bS,Nat.add_zero]at aB;have ax:=aB;simp only[putCells,List.length_cons,List.length_nil,ahE,Nat.reduceAdd]at ax;cases O;try simp only[fj,seval,-Int.reduceToNat,Y,Z,aa,U,ad,X,Zc,av,ag,aQ,ag,aB,ax]
     apply iS;refine⟨ar,?_⟩;and_intros<;>first|rfl|(simp only[fj,seval,-Int.reduceToNat,Y,Z,aa,U,ad,X,Zc,av,ag,aQ,ag,aB,ax]<;>rfl)
    ·cases O;try simp only[fj,seval,-Int.reduceToNat,Y,Z,aa,U,ad,X,Zc]
     apply ka;refine⟨rfl,⟨ar,?_⟩⟩;and_intros<;>first|rfl|(simp only[fj,seval,-Int.reduceToNat,Y,Z,aa,U,ad,X,Zc]<;>rfl)
   ·rintro x t H e hx;rcases aW with⟨al,au⟩;dsimp only at hx O;obtain⟨rfl,⟨an,aR⟩⟩:=hx;obtain⟨aS,ay,O⟩:=ae O;have ah:=bn (eI .i64) ay;simp only[bS]at ah;have ah:=bn (eI .i64) ay;simp only[bS]at ah;have aD:=fK (eI .i64) (x':=IntKind.i64.wrap (aS+al)) (fo:=0) (cs:=[.int .i64 (IntKind.i64.wrap (aS+al))]) ay rfl (aiG rfl);simp only[bS,Nat.add_zero]at aD;have az:=aD;simp only[putCells,List.length_cons,List.length_nil,ahE,Nat.reduceAdd]at az;cases O;try simp only[fj,seval,-Int.reduceToNat,Y,Z,aa,U,ad,X,aR,ah,ah,aD,az]
    apply iS;refine⟨an,?_⟩;and_intros<;>first|rfl|(simp only[fj,seval,-Int.reduceToNat,Y,Z,aa,U,ad,X,aR,ah,ah,aD,az]<;>rfl)
  ·cases O;try simp only[fj,seval,-Int.reduceToNat,Y,Z,aa,U,ad,Za]
   apply ka;refine⟨rfl,⟨ao,?_⟩⟩;and_intros<;>first|rfl|(simp only[fj,seval,-Int.reduceToNat,Y,Z,aa,U,ad,Za]<;>rfl)
 ·rintro x t H e hx;obtain⟨aj,rfl⟩:∃z,z=aV:=⟨_,rfl⟩;dsimp only at hx O;obtain⟨rfl,⟨aq,aX⟩⟩:=hx;have i38:=Kn [] [] aj;try simp only[List.nil_append,aiP,List.length_nil,bg,aiY,bS]at i38
  obtain⟨aZ,aT,O⟩:=ae O;cases O;try simp only[fj,seval,-Int.reduceToNat,Y,Z,aa,U,ad,aX,i38,aT]
def oK:=mkW 3 (eI .i64) (ie (mS (eI .i64)) (dT (aI .i64))) (fun (l:(List Int)) (x:(List Int)×Int)=>fS l x.1 x.2) (fun r:Int =>.clean (.int .i64 r))
theorem EI (pre post:List D) (O:(List Int)) (U:(List Int)) (X:Int):oK (some (.buf 0 0 1 pre.length O.length,⟨0,3,pre++(ab (eI .i64) O++post),false,true,false⟩)) [.sl false false U.length (ab (eI .i64) U),.int .i64 X]=(fS O U X).map fun r=>(.clean (.int .i64 r.2),some ⟨0,3,pre++(ab (eI .i64) r.1++post),false,true,false⟩):=YC _ _ _ _ _ pre post O (U,X)
theorem DT (pre post:List D) (p0:(List Int)) (p1:(List Int)) (p2:Int) (r:(List Int)×(Int)) (O:fS p0 p1 p2=some r):jY .clean tab bm FU Tryz.f142 (some (.buf 0 0 1 pre.length p0.length,⟨0,3,pre++(ab (eI .i64) p0++post),false,true,false⟩)) [.sl false false p1.length (ab (eI .i64) p1),.int .i64 p2]=some (.clean (.int .i64 r.2),some ⟨0,3,pre++(ab (eI .i64) r.1++post),false,true,false⟩):=by
 apply Fq rfl ntmps142 results142;unfold fS at O;obtain⟨rw,aO,O⟩:=ae O;split at O;rotate_left
 ·cases O
 cases O;rename_i hlen;replace O:=aO;unfold oR at O;try simp only[w,seval,-Int.reduceToNat]
 obtain⟨o9,aP,O⟩:=ae O;refine aC (fun s t H e=>match s with|(aB,aa,ag)=>t 0=.buf 0 0 1 pre.length (ag).length∧t 1=.sl false false p1.length (ab (eI .i64) p1)∧t 2=.int .i64 p2∧t 7=.int .i64 aB∧t 13=.int .i64 ((p0).length:Int)∧t 14=.int .i64 aa∧H 0=some ⟨0,3,pre++(ab (eI .i64) ag++post),false,true,false⟩) (fun o x t H e=>match o with|(az,Y)=>x=.exit 0∧t 0=.buf 0 0 1 pre.length (Y).length∧t 1=.sl false false p1.length (ab (eI .i64) p1)∧t 2=.int .i64 p2∧t 7=.int .i64 az∧H 0=some ⟨0,3,pre++(ab (eI .i64) Y++post),false,true,false⟩) aP ?_ ?_ ?_
 ·and_intros<;>first|rfl|(simp only[w,seval,-Int.reduceToNat]<;>rfl)
 ·rintro⟨aB,aa,ag⟩ t H e Za c O;simp only[kn]at O;try simp only[w,seval,-Int.reduceToNat,Za]
  apply sp ak O<;>intro _ O
  ·obtain⟨aU,ah,O⟩:=ae O;have U:=Nd (pre:=pre) (post:=post) (eI .i64) ah;simp only[bS]at U;try simp only[w,seval,-Int.reduceToNat,Za,U]
   obtain⟨aQ,aD,O⟩:=ae O;refine jA 0 (fun s t H e=>match s with|ai=>t 0=.buf 0 0 1 pre.length (ag).length∧t 1=.sl false false p1.length (ab (eI .i64) p1)∧t 2=.int .i64 p2∧t 8=.int .i64 aa∧t 9=.int .i64 ai∧t 13=.int .i64 ((p0).length:Int)∧t 14=.int .i64 aa∧H 0=some ⟨0,3,pre++(ab (eI .i64) ag++post),false,true,false⟩) (fun s=>s=aQ) ?_ ?_
   ·rintro ai t H e aE rfl;try dsimp only at O
    have U:=Nd (pre:=pre) (post:=post) (eI .i64) ah;simp only[bS]at U;have aw:=OP (pre:=pre) (post:=post) (eI .i64) (y':=j0 .and .i64 ai 1048575) ah;simp only[bS]at aw;have aj:=aw;simp only[putCells,List.length_cons,List.length_nil,ahE,Nat.reduceAdd]at aj;obtain⟨aV,aF,O⟩:=ae O;have aG:=vv aF;cases O;try simp only[w,seval,-Int.reduceToNat,U,aE,U,aw,aj,aG]
    apply iS;and_intros<;>first|rfl|(simp only[w,seval,-Int.reduceToNat,U,aE,U,aw,aj,aG]<;>rfl)
   ·clear O;have O:=aD;try simp only[w,seval,-Int.reduceToNat,Za,U]
    apply sp ak O<;>intro _ O
    ·obtain⟨aW,aH,O⟩:=ae O;have al:=bn (eI .i64) aH;simp only[bS]at al;cases O;try simp only[w,seval,-Int.reduceToNat,Za,U,al]
     rw[an];refine⟨_,rfl,?_⟩;and_intros<;>first|rfl|(simp only[w,seval,-Int.reduceToNat,Za,U,al]<;>rfl)
    ·cases O;try simp only[w,seval,-Int.reduceToNat,Za,U]
     rw[an];refine⟨_,rfl,?_⟩;and_intros<;>first|rfl|(simp only[w,seval,-Int.reduceToNat,Za,U]<;>rfl)
  ·cases O;try simp only[w,seval,-Int.reduceToNat,Za]
   apply ka;refine⟨rfl,?_⟩;and_intros<;>first|rfl|(simp only[w,seval,-Int.reduceToNat,Za]<;>rfl)
 ·rintro x t H e hx;rcases o9 with⟨az,Y⟩;dsimp only at hx O;obtain⟨rfl,ax⟩:=hx;try simp only[w,seval,-Int.reduceToNat,ax]
  apply sp ak O<;>intro _ O
  ·cases O;try simp only[w,seval,-Int.reduceToNat,ax]
  ·try simp only[w,seval,-Int.reduceToNat,ax]
   obtain⟨aR,aI,O⟩:=ae O;refine aC (fun s t H e=>match s with|(aA,ad,ao)=>t 0=.buf 0 0 1 pre.length (ao).length∧t 1=.sl false false p1.length (ab (eI .i64) p1)∧t 2=.int .i64 p2∧t 10=.int .i64 aA∧t 48=.int .i64 ((Y).length:Int)∧t 49=.int .i64 ad∧H 0=some ⟨0,3,pre++(ab (eI .i64) ao++post),false,true,false⟩) (fun o x t H e=>match o with|aq=>x=.exit 2∧t 0=.buf 0 0 1 pre.length (aq).length∧t 2=.int .i64 p2∧H 0=some ⟨0,3,pre++(ab (eI .i64) aq++post),false,true,false⟩) aI ?_ ?_ ?_
   ·and_intros<;>first|rfl|(simp only[w,seval,-Int.reduceToNat,ax]<;>rfl)
   ·rintro⟨aA,ad,ao⟩ t H e Zd c O;simp only[ko]at O;try simp only[w,seval,-Int.reduceToNat,Zd]
    apply sp ak O<;>intro _ O
    ·obtain⟨aX,ar,O⟩:=ae O;have X:=Nd (pre:=pre) (post:=post) (eI .i64) ar;simp only[bS]at X;try simp only[w,seval,-Int.reduceToNat,Zd,X]
     obtain⟨aS,aJ,O⟩:=ae O;refine jA 0 (fun s t H e=>match s with|Z=>t 0=.buf 0 0 1 pre.length (ao).length∧t 1=.sl false false p1.length (ab (eI .i64) p1)∧t 2=.int .i64 p2∧t 10=.int .i64 Z∧t 11=.int .i64 ad∧t 48=.int .i64 ((Y).length:Int)∧t 49=.int .i64 ad∧H 0=some ⟨0,3,pre++(ab (eI .i64) ao++post),false,true,false⟩) (fun s=>s=aS) ?_ ?_
     ·rintro Z t H e aK rfl;try dsimp only at O
      have X:=Nd (pre:=pre) (post:=post) (eI .i64) ar;simp only[bS]at X;have ay:=OP (pre:=pre) (post:=post) (eI .i64) (y':=j0 .and .i64 Z 1048575) ar;simp only[bS]at ay;have au:=ay;simp only[putCells,List.length_cons,List.length_nil,ahE,Nat.reduceAdd]at au;obtain⟨aY,aL,O⟩:=ae O;have aM:=vv aL;cases O;try simp only[w,seval,-Int.reduceToNat,X,aK,X,ay,au,aM]
      apply iS;and_intros<;>first|rfl|(simp only[w,seval,-Int.reduceToNat,X,aK,X,ay,au,aM]<;>rfl)
     ·clear O;have O:=aJ;try simp only[w,seval,-Int.reduceToNat,Zd,X]
      apply sp ak O<;>intro _ O
      ·obtain⟨aZ,aN,O⟩:=ae O;have av:=bn (eI .i64) aN;simp only[bS]at av;cases O;try simp only[w,seval,-Int.reduceToNat,Zd,X,av]
       rw[an];refine⟨_,rfl,?_⟩;and_intros<;>first|rfl|(simp only[w,seval,-Int.reduceToNat,Zd,X,av]<;>rfl)
      ·cases O;try simp only[w,seval,-Int.reduceToNat,Zd,X]
       rw[an];refine⟨_,rfl,?_⟩;and_intros<;>first|rfl|(simp only[w,seval,-Int.reduceToNat,Zd,X]<;>rfl)
    ·cases O;try simp only[w,seval,-Int.reduceToNat,Zd]
     apply ka;refine⟨rfl,?_⟩;and_intros<;>first|rfl|(simp only[w,seval,-Int.reduceToNat,Zd]<;>rfl)
   ·rintro x t H e hx;obtain⟨aq,rfl⟩:∃z,z=aR:=⟨_,rfl⟩;dsimp only at hx O;obtain⟨rfl,aT⟩:=hx;cases O;try simp only[w,seval,-Int.reduceToNat,aT]
theorem Bn:bX prog 142 oK:=bX.aed (mode := .clean) tok bG.none mixed func142 (by kernel_rfl) ⟨by kernel_rfl,by kernel_rfl⟩ (fun _=>aiG (by kernel_rfl)) (fun pre post l x l' r h=>DT pre post l x.1 x.2 (l',r) h)
def lX (l:Option (D×Row)) (d:List D):=dV (ie (mS (eI .i64)) (dT (mS (eI .i64)))) (fun x:(List Int)×(List Int)=>rL x.1 x.2) (fun r:(List Int)×(List Int) =>.clean (.tup [.sl false false r.1.length (ab (eI .i64) r.1),.sl false false r.2.length (ab (eI .i64) r.2)])) l d
theorem ve (O:(List Int)) (U:(List Int)):ox none [.sl false false O.length (ab (eI .i64) O),.sl false false U.length (ab (eI .i64) U)]=(nV O U).map fun r:(List Int)=>(.fresh 3 1 r.length (ab (eI .i64) r),none):=cP _ _ _ (O,U)
theorem mA (O:(List Int)):fc none [.sl false false O.length (ab (eI .i64) O)]=(dZ O).map fun r:(List Int)=>(.clean (.sl false false r.length (ab (eI .i64) r)),none):=cP _ _ _ (O)
def y9:Env:=(Am.ext (Am.ext (Am.ext (Am.ext (Am.ext (Am.ext bm 88 false il) 91 false eO) 125 false fc) 126 false ox) 141 false pM) 142 true oK)
theorem QG:bG prog y9:=((((((bG.none.add kv false).add pt false).add nh false).add Ej false).add Kd false).add Bn true)
theorem ba:type_of% (ai @w<|ai @fE<|ai @BS<|ai @eO.eq_1<|ai @mA<|ai @ve<|ai @Wu<|ai @pM.eq_1<|@y9.eq_1):=⟨@w,@fE,@BS,@eO.eq_1,@mA,@ve,@Wu,@pM.eq_1,@y9.eq_1⟩
end Go.Proofs.YtoioidmblipblaaGreat.Am
