import Derived.Test.YtoioidmblipblaaGreatId
set_option linter.unusedSimpArgs false
set_option linter.unusedVariables false
noncomputable section
open Go.Proofs.Tryz
namespace Go.Proofs.YtoioidmblipblaaGreat.Am
open Go.RowKit Go.Proofs.YtoioidmblipblaaGreat.P
def EU {α:Type} (e:iM α):iM (List α):=⟨fun l=>[.nx l.length (ab e l)],1,fun _=>rfl,by decide,fun x y h=>by
 simp only[af1,D.nx.injEq,and_true]at h;exact sV e _ _ h.2⟩
theorem uf {α:Type} (e:iM α) (l:List α):(EU e).cells l=[.nx l.length (ab e l)]:=aiw
theorem wY {α:Type} (e:iM α):(EU e).size=1:=aiw
section
variable {α:Type} (E:iM α) {l:List α} {i:Int} {x x':α}
theorem JG (cs:List D) (o:Nat) (d:D) (h:o<cs.length):(putCells cs o [d]).length=cs.length:=by
 simp[putCells];omega
theorem JH (cs:List D) (o:Nat) (d O:D) (h:o<cs.length):putCells (putCells cs o [d]) o [O]=putCells cs o [O]:=by
 unfold putCells;have h1:(cs.take o).length=o:=by simp;omega
 have h2:(cs.take o++[d]++cs.drop (o+[d].length)).take o=cs.take o:=by
  rw[ag1,ag5 (by omega),ag6 (by omega)]
 have h3:(cs.take o++[d]++cs.drop (o+[d].length)).drop (o+[O].length)=cs.drop (o+[O].length):=by
  rw[ag2 (by simp;omega),aht (by simp;omega),ahq];rfl
 rw[h2,h3]
theorem Jt (fo:Nat) (h:P.idx l i=some x) (O:fo+1<=E.size):i.toNat*E.size+fo<(ab E l).length:=by
 have:=ru E h;rw[bM];omega
theorem X5 (fo:Nat) (d U:D) (h:P.idx l i=some x) (X:E.cells x'=putCells (E.cells x) fo [U]) (O:fo+1<=E.size):putCells (putCells (ab E l) (i.toNat*E.size+fo) [d]) (i.toNat*E.size+fo) [U]=ab E (l.set i.toNat x'):=by
 rw[JH _ _ _ _ (Jt E fo h O)];exact fP E fo [U] h X O
theorem aac (fo:Nat) (d:D) (h:P.idx l i=some x) (O:fo+1<=E.size):i.toNat*E.size+fo+1<=(putCells (ab E l) (i.toNat*E.size+fo) [d]).length:=by
 rw[JG _ _ _ (Jt E fo h O)];exact Jt E fo h O
end
theorem H3 {t s nv n o:Nat} {fz:Bool} {cs xs cs':List D} : y6 t s nv fz cs o (some ⟨nv,t,cs',fz,true,false⟩) (some (.nx n xs))=[.nr t s nv (putCells cs o [.nx n cs'])]:=by
 simp[y6,HI]
theorem H0 {t s nv n o:Nat} {fz:Bool} {cs xs:List D} : y6 t s nv fz cs o none (some (.nx n xs))=[.nr t s nv (putCells cs o [.und])]:=aiw
theorem Z3 {α:Type} {E:iM α} {T:Nat->Option Ty} {el B ty' s f:Nat} {φ:Ty} {k:IntKind} {n:Int} {z:α} {m:List α} (Y:T el=some φ) (Z:lA φ f=E.cells z) (hs:φ.size=E.size) (hd:(φ.zero.map lB).all eX=true) (hl:φ.zero.length=φ.size) (hn:XP ((φ.zero.map lB).drop f).head? = true) (hB:φ.bytes=B) (h:Hl B n n z=some m)
  : ∀(b c:Nat) (z0:List Value) (q:Bool) (e d:Nat),d<1000000->si T ⟨.slice el,b,c,z0,q⟩ e d ty' s f (.int k n) (.int k n)=some ⟨.buf d e φ.size 0 m.length,[(d,some ⟨e,el,[.nr ty' s (4*e+2) (ab E m)],false,true,true⟩)]⟩:=by
 intro b c z0 q e d U;obtain⟨h1,h2,h3,h4,h5⟩:=mk_one E h;have O:mR (.int k n)=some n.toNat:=by simp[mR,h1]
 have X:=E.pos;unfold si;simp only[Y,O];rw[if_pos ⟨afD _,by rw[h2];exact h3,by rw[h2,hB];exact h5,by omega,hd,hl,by rw[cm];exact U,hn⟩,Z,h2,h4]
theorem Gc {k:IntKind} {n:Int} : eX (.int k n)=true:=aiw
theorem B8 {b:Bool} : eX (.bool b)=true:=aiw
theorem Gd {b:ByteArray} : eX (.str b)=true:=aiw
theorem Lb {a b:Bool} {n:Nat} {xs:List D} : eX (.sl a b n xs)=true:=aiw
def fA {α β:Type} (A:iU α) (F:α->Option β) (R:β->Nat×Nat×Nat×Nat×Nat×List D):List D->Option (Nat×Nat×Nat×Nat×Nat×List D):=fun ds=>open Classical in if h:∃a,A.ds a=ds then (F (Classical.choose h)).map R else none
theorem XI {α β:Type} {A:iU α} {F:α->Option β} {R:β->Nat×Nat×Nat×Nat×Nat×List D} {ds:List D} {q:Nat×Nat×Nat×Nat×Nat×List D} (h:fA A F R ds=some q):∃a r,ds=A.ds a∧F a=some r∧q=R r:=by
 unfold fA at h;split at h
 ·rename_i he;rw[afB]at h;obtain⟨r,h1,h2⟩:=h;exact⟨_,r,(Classical.choose_spec he).symm,h1,h2.symm⟩
 ·cases h
structure FOk (P:Program) (f:FuncId) (p:List D->Option (Nat×Nat×Nat×Nat×Nat×List D)):Prop where
 callable:dQ P f
 calls:∀args ty t s S n cs,p args=some (ty,t,s,S,n,cs)->IG P f args ty t s S n cs
theorem FOk.of {P:Program} {T:Nat->Option Ty} {Γ:Env} (X:gW P T) (Y:bF P Γ) (hm:P.follows .mixedOrders=true) {α β:Type} {A:iU α} {F:α->Option β} {R:β->Nat×Nat×Nat×Nat×Nat×List D} {f:FuncId} {fn:Func} (U:P.funcs[f]? = some fn) (O:(match fn.body with|some c=>codeOk c|none=>true)=true)
  (Z:(fn.name == "runtime.NumGoroutine")=false∧fn.body.isNone=false) (hn:∀a,(A.ds a).length<=fn.ntmps) (h:∀a r,F a=some r->J6 T Γ FU fn (A.ds a)=some (R r)):FOk P f (fA A F R) where
 callable:=⟨fn,U,Z⟩
 calls args ty t s S n cs hg:=by
  obtain⟨a,r,rfl,hr,he⟩:=XI hg;exact J7 X Y hm U O (hn a) ((h a r hr).trans (by rw[he]))
def ab4 {α β γ:Type} (ty t s:Nat) (O:iM γ) (A:iU α) (F:γ->α->Option (γ×β)) (R:β->D):Nat->Nat->Nat->Nat->List D->List D->Option (D×List D):=fun ty' U X o cs args =>
 open Classical in if h:∃p:List D×List D×γ×α,ty'=ty∧U=t∧X=s∧cs=p.1++(O.cells p.2.2.1++p.2.1)∧o=p.1.length∧args=A.ds p.2.2.2 then
  (F (Classical.choose h).2.2.1 (Classical.choose h).2.2.2).map fun r=>(R r.2,(Classical.choose h).1++(O.cells r.1++(Classical.choose h).2.1)) else none
theorem UQ {α β γ:Type} {ty t s:Nat} {O:iM γ} {A:iU α} {F:γ->α->Option (γ×β)} {R:β->D} {ty' X Y o:Nat} {cs args:List D} {d:D} {cs':List D} (h:ab4 ty t s O A F R ty' X Y o cs args=some (d,cs')) :
  ty'=ty∧X=t∧Y=s∧∃pre post x a r,cs=pre++(O.cells x++post)∧o=pre.length∧args=A.ds a∧F x a=some r∧d=R r.2∧cs'=pre++(O.cells r.1++post):=by
 unfold ab4 at h;split at h
 ·rename_i he;obtain⟨h1,h2,h3,h4,h5,h6⟩:=Classical.choose_spec he;rw[afB]at h;obtain⟨r,Z,U⟩:=h;simp only[Prod.mk.injEq]at U;exact⟨h1,h2,h3,_,_,_,_,r,h4,h5,h6,Z,U.1.symm,U.2.symm⟩
 ·cases h
structure NOk (P:Program) (f:FuncId) (p:Nat->Nat->Nat->Nat->List D->List D->Option (D×List D)):Prop where
 callable:dQ P f
 calls:∀ty t s o cs args d cs',p ty t s o cs args=some (d,cs')->IH P f ty t s o cs args d cs'
theorem NOk.of {P:Program} {T:Nat->Option Ty} {Γ:Env} (Y:gW P T) (Z:bF P Γ) (hm:P.follows .mixedOrders=true) {α β γ:Type} {ty t s:Nat} {O:iM γ} {A:iU α} {F:γ->α->Option (γ×β)} {R:β->D} {f:FuncId} {fn:Func} (X:P.funcs[f]? = some fn) (U:(match fn.body with|some c=>codeOk c|none=>true)=true)
  (hc:(fn.name == "runtime.NumGoroutine")=false∧fn.body.isNone=false) (hn:∀a,(A.ds a).length+1<=fn.ntmps) (h:∀pre post x a x' r,F x a=some (x',r)->Rj T Γ FU fn ty t s pre.length (pre++(O.cells x++post)) (A.ds a)=some (R r,pre++(O.cells x'++post))):NOk P f (ab4 ty t s O A F R) where
 callable:=⟨fn,X,hc⟩
 calls ty' t' s' o cs args d cs' hg:=by
  obtain⟨rfl,rfl,rfl,pre,post,x,a,r,rfl,rfl,rfl,hr,rfl,rfl⟩:=UQ hg;exact J8 Y Z hm X U (hn a) (h pre post x a r.1 r.2 hr)
theorem GW {α:Type} {l:List α} : (acU l).length=l.length:=af7 ..
section
variable {pre l:List D} {k m:Nat}
end
theorem MS {τ:Ty} {h:Nat->Option Row} {x v o:Nat} : nf τ h x v o none=none:=aiw
theorem SH {d:D} {l:List D} : (d::l).head? = some d:=aiw
theorem Tm {r:Row} {f:Row->Option Row} : (some r).bind f=f r:=aiw
theorem Tl {f:Row->Option Row} : (none:Option Row).bind f=none:=aiw
theorem K1 {x o:Nat} : clP x o none=none:=aiw
theorem Kx {q:Option (List D×List Nat)} : caC none q=none:=aiw
theorem FP {Γ:Env} {h:Nat->Option Row} {e g:Nat} {dst:Option Nat} : ZI Γ h e dst g none=none:=aiw
theorem Zn {o:Nat} {cs:List D} : mq 0 o cs=cs:=IC o cs
theorem aaD {x o n:Nat} (h:n<1000000):(NK x o=n)=False:=by
 have:=eL x o;have:=cm;exact propext ⟨fun e=>by omega,fun e=>e.elim⟩
theorem VL {x o n:Nat} (h:n<1000000):(n=NK x o)=False:=by
 have:=eL x o;have:=cm;exact propext ⟨fun e=>by omega,fun e=>e.elim⟩
theorem vn:type_of% (ai @H0<|ai @GW<|ai @H3<|ai @aaD<|ai @VL<|ai @UK.eq_1<|ai @K1<|ai @Kx<|ai @FP<|ai @Zn<|ai @Tm<|ai @Tl<|ai @MS<|ai @SH<|ai @uf<|ai @Gc<|ai @B8<|ai @Gd<|ai @Lb<|@wY):=⟨@H0,@GW,@H3,@aaD,@VL,@UK.eq_1,@K1,@Kx,@FP,@Zn,@Tm,@Tl,@MS,@SH,@uf,@Gc,@B8,@Gd,@Lb,@wY⟩
end Go.Proofs.YtoioidmblipblaaGreat.Am
namespace Go.Proofs.YtoioidmblipblaaGreat.P
def UC {α:Type} (c:α->α->Int) (x:α):List α->List α
 | []=>[x]
 | y::l=>if c x y<=0 then x::y::l else y::UC c x l
def np {α:Type} (c:α->α->Int):List α->List α
 | []=>[]
 | x::l=>UC c x (np c l)
theorem yK {α:Type} (c:α->α->Int) (x:α):∀l:List α,(UC c x l).Perm (x::l)
 | []=>ahK _
 | y::l=>by
  unfold UC;split
  ·exact ahK _
  ·exact ((yK c x l).cons y).trans (List.Perm.swap x y l)
theorem gP {α:Type} (c:α->α->Int):∀l:List α,(np c l).Perm l
 | []=>ahK _
 | x::l=>(yK c x _).trans ((gP c l).cons x)
theorem l9 {α:Type} (c:α->α->Int) (l:List α):(np c l).length=l.length:=(gP c l).length_eq
structure WO {α:Type} (c:α->α->Int):Prop where
 total:∀x y,c x y<=0∨c y x<=0
 neg:∀x y,c x y<0↔0<c y x
 trans:∀x y z,c x y<=0->c y z<=0->c x z<=0
theorem zY {α:Type} {c:α->α->Int} (h:WO c) (x:α):∀l:List α,l.Pairwise (fun x y=>c x y<=0)->(UC c x l).Pairwise (fun x y=>c x y<=0)
 | [],_=>List.pairwise_singleton _ _
 | y::l,hs=>by
  unfold UC;obtain⟨h1,h2⟩:=ahk.1 hs;split
  ·rename_i U;refine ahk.2 ⟨fun z O =>?_,hs⟩;rcases afK.1 O with rfl|O
   ·exact U
   ·exact h.trans _ _ _ U (h1 z O)
  ·rename_i U;have X:c y x<=0:=(h.total x y).resolve_left U;refine ahk.2 ⟨fun z O =>?_,zY h x l h2⟩;rcases afK.1 ((yK c x l).mem_iff.1 O) with rfl|O
   ·exact X
   ·exact h1 z O
theorem k9 {α:Type} {c:α->α->Int} (h:WO c):∀l:List α,(np c l).Pairwise (fun x y=>c x y<=0)
 | []=>List.Pairwise.nil
 | x::l=>zY h x _ (k9 h l)
theorem mF {α:Type} {c:α->α->Int} : ∀ {l m:List α},l.Perm m->(∀x∈l,∀y∈l,c x y<=0->c y x<=0->x=y)->l.Pairwise (fun x y=>c x y<=0)->m.Pairwise (fun x y=>c x y<=0)->l=m
 | [],m,O,_,_,_=>(List.Perm.nil_eq O)
 | x::l,[],O,_,_,_=>absurd O.symm (by intro h;have:=h.length_eq;simp at this)
 | x::l,y::m,O,ha,Y,hm=>by
  obtain⟨Z,l2⟩:=ahk.1 Y;obtain⟨m1,m2⟩:=ahk.1 hm;have U:x=y:=by
   by_cases he:x=y
   ·exact he
   ·have X:y∈l:=by
     have:y∈x::l:=O.mem_iff.2 ahd;rcases afK.1 this with h|h
     ·exact absurd h.symm he
     ·exact h
    have hx:x∈m:=by
     have:x∈y::m:=O.mem_iff.1 ahd;rcases afK.1 this with h|h
     ·exact absurd h he
     ·exact h
    exact ha x ahd y (ahe _ X) (Z y X) (m1 x hx)
  subst U;rw[mF ((List.perm_cons x).1 O) (fun a h1 b h2=>ha a (ahe _ h1) b (ahe _ h2)) l2 m2]
open Classical in
def Au {α:Type} (c:α->α->Int) (l:List α):Option (List α×Unit):=if l.length<4611686018427387904∧∀x∈l,∀y∈l,c x y=0->x=y then some (np c l,()) else none
end Go.Proofs.YtoioidmblipblaaGreat.P
namespace Go.Proofs.YtoioidmblipblaaGreat.Am
open Go.RowKit Go.Proofs.YtoioidmblipblaaGreat.P
def V4 (O:Bool) (us:List Value):Value:=if O then .agg us.toArray else us.getD 0 undef
def IsV {α:Type} (E:iM α) (w:World) (M:Nat->Prop) (x:α) (us:List Value):Prop:=us.length=E.size∧∀j d,(E.cells x)[j]? = some d->aW d=true∧RP w M d (us.getD j undef)
def acF {α:Type} (P:Program) (g:FuncId) (O:Bool) (E:iM α) (c:α->α->Int):Prop:=∀(w:World) (M:Nat->Prop) (x y:α) (U X:List Value),(∀b,M b->b<w.heap.size)->IsV E w M x U->IsV E w M y X ->
 Calls P g #[V4 O U,V4 O X] w fun e w'=>e=.returned (.int .i64 (c x y))∧∃q os,w'=Go.Sort.grow (w.drewN q) os
def aaI (P:Program) (f g:FuncId) (Z:Bool) (k:Nat):Prop:=∀(β:Type) (_:Inhabited β) (enc:β->List Value) (O:β->β->Int),(∀x,(enc x).length=k)->(∀x,∀v∈enc x,v.oneCell'=true)->Go.Sort.SWO (ltOf O)->∀(blk off cap:Nat) (d:Array β) (w:World),
 (∀(m:Nat) (os:Array Obj) (U:Array β),U.size=d.size->∀x y:β,Calls P g #[V4 Z (enc x),V4 Z (enc y)] (sortWorldK enc k w blk off m U os) fun e w'=>e=.returned (.int .i64 (O x y))∧∃q X,w'=Go.Sort.grow ((sortWorldK enc k w blk off m U os).drewN q) X) ->
 Go.Sort.HoldsK enc k w blk off d->blk<w.heap.size->d.size<4611686018427387904 ->
 Calls P f #[.slice (some ⟨blk,off,none⟩) d.size cap,.func (.func g) #[] #[]] w fun e w'=>e=.returned (.tuple #[])∧∃Y n os,Go.Sort.PermIn 0 d.size d Y∧Go.Sort.SortedIn (ltOf O) 0 d.size Y∧w'=sortWorldK enc k w blk off n Y os
theorem Sq {α:Type} (E:iM α) {l:List α} {i j:Nat} {x:α} (U:l[i]? = some x) (X:j<E.size):(ab E l)[i*E.size+j]? = (E.cells x)[j]?:=by
 have h1:((ab E l).drop (i*E.size))[j]? = (ab E l)[i*E.size+j]?:=afU;have h2:l.drop i=x::l.drop (i+1):=by
  obtain⟨O,rfl⟩:=af6.1 U;exact ahD O
 rw[<- h1,ug,h2,bh,agi (by rw[E.len];exact X)]
section
variable {β:Type} [Inhabited β] {enc:β->List Value} {k:Nat}
theorem JI {w:World} {b off:Nat} {d:Array β} {cs:Array Value} {ty:Nat} {fr:Nat×Nat} (h:w.heap[b]? = some (.cells cs ty fr)):(Go.Sort.putRowK enc k w b off d).heap[b]? = some (.cells (Go.Sort.putCells id off (Go.Sort.flatK enc k d) cs) ty fr):=by
 simp[Go.Sort.putRowK,Go.Sort.putRow,Go.Sort.mapBlock,afN,h,Go.Sort.onCells]
theorem AW {w:World} {b c off:Nat} {d:Array β} (h:c≠b):(Go.Sort.putRowK enc k w b off d).heap[c]? = w.heap[c]?:=by
 simp[Go.Sort.putRowK,Go.Sort.putRow,Go.Sort.mapBlock,afN,Ne.symm h]
theorem ve {w:World} {b c off m:Nat} {d:Array β} {os:Array Obj} (O:c<w.heap.size) (h:c≠b):(sortWorldK enc k w b off m d os).heap[c]? = w.heap[c]?:=by
 unfold sortWorldK;rw[Go.Sort.heap_grow_old _ _ (by simpa [Go.Sort.putRowK,Go.Sort.ahead] using O),AW h];rfl
theorem nn {w:World} {b off m:Nat} {d:Array β} {os:Array Obj} : w.heap.size<=(sortWorldK enc k w b off m d os).heap.size:=by
 simp[sortWorldK,Go.Sort.putRowK,Go.Sort.ahead]
theorem Fo {w:World} {b off m:Nat} {d:Array β} {os:Array Obj} {cs:Array Value} {ty:Nat} {fr:Nat×Nat} (h:w.heap[b]? = some (.cells cs ty fr)):(sortWorldK enc k w b off m d os).heap[b]? = some (.cells (Go.Sort.putCells id off (Go.Sort.flatK enc k d) cs) ty fr):=by
 have O:=(afH.1 h).1;unfold sortWorldK;rw[Go.Sort.heap_grow_old _ _ (by simpa [Go.Sort.putRowK,Go.Sort.ahead] using O)];exact JI h
theorem Fk {off:Nat} {d:Array β} {cs:Array Value} {j:Nat} (O:j<cs.size):(Go.Sort.putCells id off (Go.Sort.flatK enc k d) cs).getD j undef=if off<=j∧j<off+d.size*k then (enc d[(j-off) / k]!)[(j-off) % k]! else cs.getD j undef:=by
 have h1:(Go.Sort.putCells id off (Go.Sort.flatK enc k d) cs)[j]? = some (if off<=j∧j<off+d.size*k then (enc d[(j-off) / k]!)[(j-off) % k]! else cs[j]):=by
  simp only[Go.Sort.putCells,Array.getElem?_mapIdx,agQ O,Option.map_some,Go.Sort.size_flatK];congr 1;split
  ·rename_i U;rw[Go.Sort.get_flatK _ _ _ _ (by omega)];rfl
  ·rfl
 rw[afI,h1];simp[afI,O]
end
theorem acq {α β:Type} {c:α->α->Int} (h:WO c) (f:β->α):Go.Sort.SWO (ltOf fun x y=>c (f x) (f y)) where
 irrefl x:=by
  simp only[ltOf,decide_eq_false_iff_not];intro X;have:=(h.neg _ _).1 X;omega
 trans x y z h1 h2:=by
  simp only[ltOf,decide_eq_true_eq]at h1 h2 ⊢
  by_cases h3:c (f x) (f z)<0
  ·exact h3
  ·have O:c (f z) (f x)<=0:=by
    have:=(h.neg (f z) (f x));rcases ahL (c (f z) (f x)) 0 with q|q|q
    ·omega
    ·omega
    ·exact absurd ((h.neg (f x) (f z)).2 q) h3
   have U:=h.trans _ _ _ O (Int.le_of_lt h1);have Y:=(h.neg _ _).1 h2;omega
 ntrans x y z h1 h2:=by
  simp only[ltOf,decide_eq_false_iff_not]at h1 h2 ⊢;intro h3;have O:c (f y) (f x)<=0:=by
   by_cases q:0<c (f y) (f x)
   ·exact absurd ((h.neg _ _).2 q) h1
   ·omega
  have U:c (f z) (f y)<=0:=by
   by_cases q:0<c (f z) (f y)
   ·exact absurd ((h.neg _ _).2 q) h2
   ·omega
  have Y:=h.trans _ _ _ U O;have Z:=(h.neg _ _).1 h3;omega
theorem D3 {β:Type} [Inhabited β] {d O:Array β} (h:Go.Sort.PermIn 0 d.size d O):O.toList.Perm d.toList:=by
 obtain⟨h1,-,h2⟩:=h;have U:(d.extract 0 d.size)=d:=by simp
 have X:(O.extract 0 d.size)=O:=by rw[<- h1];simp
 rwa [U,X]at h2
theorem Yk {α:Type} {E:iM α} {c:α->α->Int} {P:Program} {f g:FuncId} {fn:Func} {ag:Bool} {ty:Nat} {F:List α->Option (List α×Unit)} (hf:P.funcs[f]? = some fn) (hc:(fn.name == "runtime.NumGoroutine")=false∧fn.body.isNone=false)
  (hF:∀l,F l=Au c l) (h0:∀p cap w,Calls P f #[.slice p 0 cap,.func (.func g) #[] #[]] w fun e w'=>e=.returned (.tuple #[])∧w'=w) (hO:WO c) (hcmp:acF P g ag E c) (hS:aaI P f g ag E.size) :
  bT P f (Z4 ty E (dL (aFn g)) (fun l (_:Unit)=>F l) (fun _:Unit =>.clean (.tup []))) where
 callable:=⟨fn,hf,hc⟩
 calls lent la rk out hg:=by
  obtain⟨pre,l,post,a,l',r,rfl,rfl,hr,rfl,rfl⟩:=No hg;rw[hF]at hr;unfold Au at hr
  by_cases Z:l.length<4611686018427387904∧∀x∈l,∀y∈l,c x y=0->x=y
  ·rw[if_pos Z]at hr;obtain⟨hlen,hanti⟩:=Z;obtain rfl:np c l=l':=congrArg Prod.fst (Option.some.inj hr);intro w M go u0 vs hM aT hz aU hrow aB aa;have aL:vs = #[.func (.func g) #[] #[]]:=by
    have h1:=aa.1;have h2:=aa.2 0 (.fn g) rfl;have h3:vs.size=1:=h1;cases hv:vs.getD 0 undef<;>rw[hv]at h2<;>cases h2;apply Array.ext
    ·simp[h3]
    ·intro i i1 i2;have:i=0:=by omega
     subst this;simpa [Array.getD,h3] using hv
   subst aL
   by_cases hl:l=[]
   ·subst hl;have hu:∃p cp,u0=.slice p 0 cp:=by
     rcases aB.2 ⟨0,0,[],false,false,false⟩ rfl rfl with⟨g',o',cp,N,t,k0,k1,k2,k3,k4,k5⟩|k0
     ·exact⟨_,_,k1⟩
     ·obtain⟨_,_,A,k1⟩:=k0;exact⟨_,_,k1⟩
    obtain⟨p,cp,rfl⟩:=hu;refine (h0 p cp w).mono fun e w' ⟨he,hw⟩ =>?_;subst hw;exact⟨.tuple #[],he,⟨rfl,rfl,rfl,afD _,fun _ _ _=>rfl⟩,⟨rfl,rfl,⟨rfl,rfl⟩,fun g' ak=>rfl,hrow⟩,.tup [] [] rfl (fun j x O=>by simp at O)⟩
   ·have hk:=E.pos;have an:0<l.length:=ahy.2 hl;cases go with
    | none =>
     have aM:pre++(ab E l++post)=[]:=hrow;have:=congrArg List.length aM;rw[agP,agP,bM,af4]at this;have:=Nat.mul_pos an hk;omega
    | some go =>
     obtain⟨cs,h1,h2,h3⟩:=hrow;simp only[agP,bM]at h2;generalize au:(fun b=>M b∨sh (some go) b)=M' at h3 aa ⊢;have aC:M' go.1:=by rw[<- au];exact .inr ⟨go,rfl,rfl⟩
     have aD:go.1<w.heap.size:=(afH.1 h1).1;have av:∀b,M' b->b<w.heap.size:=by
      intro b hb;rw[<- au]at hb;rcases hb with hb|⟨g',ak,rfl⟩
      ·exact hM b hb
      ·cases ak;exact aD
     rcases aB.2 ⟨0,0,[],false,false,false⟩ rfl rfl with⟨g',o',cp,N,t,k0,k1,k2,k3,k4,k5⟩|⟨k0,_⟩;rotate_left
     ·cases k0
     cases k0;obtain⟨rfl,k6⟩:=k2 (.inl (by omega));subst k1;have aE:∀i,i<l.length->i*E.size+E.size<=l.length*E.size:=by
      intro i hi;have:=agr E.size (show i+1<=l.length from hi)
      rwa [agC]at this
     have U:∀i (hi:i<l.length),IsV E w M' l[i] ((List.range E.size).map fun j=>cs.getD (go.2+pre.length+(i*E.size+j)) undef):=by
      intro i hi;refine⟨by simp,fun j d O =>?_⟩;have aF:j<E.size:=by
       have:=(af6.1 O).1
       rwa [E.len]at this
      have hd:(pre++(ab E l++post))[pre.length+(i*E.size+j)]? = some d:=by
       have:=aE i hi;rw[agj (by omega),ag3,agi (by rw[bM];omega),Sq E (afQ hi) aF,O]
      have:=h3 _ _ hd;rw[<- afY]at this;simpa [List.getD,aF] using this
     let β:={ p:α×List Value // IsV E w M' p.1 p.2 }
     let enc:β->List Value:=fun p=>p.1.2
     let dl:List β:=List.ofFn fun i:Fin l.length=>(⟨(l[i.1],_),U i.1 i.2⟩:β)
     have ae:dl.length=l.length:=by simp[dl]
     have aG:∀i (hi:i<l.length),dl[i]? = some ⟨(l[i],_),U i hi⟩:=by
      intro i hi;simp[dl,hi]
     have aH:Inhabited β:=⟨⟨(l[0],_),U 0 an⟩⟩;have aI:dl.map (fun p=>p.1.1)=l:=by
      apply ahM;intro i
      by_cases hi:i<l.length
      ·rw[afA,aG i hi,afQ hi];rfl
      ·rw[ahi (by simp[ae];omega),ahi (by omega)]
     have ah:∀x:β,(enc x).length=E.size:=fun x=>x.2.1;have aJ:∀x:β,∀v∈enc x,v.oneCell'=true:=by
      intro x v hv;obtain⟨j,O⟩:=afZ hv;have aw:=(af6.1 O).1;rw[ah]at aw;obtain⟨p1,p2⟩:=x.2.2 j _ (afQ (by rw[E.len];exact aw));have:x.1.2.getD j undef=v:=by simp only[agh];rw[show x.1.2[j]? = some v from O];rfl
      rw[this]at p2;exact p2.pC p1
     have X:∀ {m:Nat} {dk:Array β} {os:Array Obj} {d:D} {u:Value},RP w M' d u->RP (sortWorldK enc E.size w go.1 (go.2+pre.length) m dk os) M' d u:=by
      intro m dk os d u hu;refine hu.keep fun b q1 q2=>⟨afG q1 nn,q2,?_⟩;exact ve q1 (fun e=>q2 (e ▸ aC))
     have hH:Go.Sort.HoldsK enc E.size w go.1 (go.2+pre.length) dl.toArray:=by
      intro j O;simp only[Go.Sort.size_flatK,agZ,ae]at O;refine⟨?_,by simp[World.frozen?,h1]⟩;have hq:j / E.size<l.length:=Nat.div_lt_of_lt_mul (by rwa [agD]);have ad:j % E.size<E.size:=Nat.mod_lt _ hk;have ax:j / E.size*E.size+j % E.size=j:=by rw[agD];exact Nat.div_add_mod j E.size
      rw[Go.Sort.get_flatK _ _ _ _ (by simpa [ae] using O),aP h1 (j:=go.2+pre.length+j) (by omega)];have e1:(dl.toArray)[j / E.size]! = ⟨(l[j / E.size],_),U _ hq⟩:=by
       have h5:=aG _ hq;rw[getElem!_pos dl.toArray (j / E.size) (by simpa [ae] using hq)];have:=(af6.1 h5).2;simpa using this
      rw[e1];show some _=some (((List.range E.size).map fun j'=>cs.getD (go.2+pre.length+(j / E.size*E.size+j')) undef)[j % E.size]!);rw[getElem!_pos _ _ (by simpa using ad)];simp[ax]
     have aN:=acq hO (fun p:β=>p.1.1);have ai:=hS β aH enc (fun x y=>c x.1.1 y.1.1) ah aJ aN go.1 (go.2+pre.length) cp dl.toArray w (fun m os dk aV x y=>hcmp _ M' x.1.1 y.1.1 x.1.2 y.1.2 (fun b hb=>afG (av b hb) nn) ⟨x.2.1,fun j d O=>⟨(x.2.2 j d O).1,X (x.2.2 j d O).2⟩⟩ ⟨y.2.1,fun j d O=>⟨(y.2.2 j d O).1,X (y.2.2 j d O).2⟩⟩) hH aD (by simpa [ae] using hlen);have ay:dl.toArray.size=l.length:=by simp[ae]
     rw[ay]at ai;refine ai.mono fun e w' ⟨he,Y,n,os,aj,az,hw⟩ =>?_;subst hw;have al:=D3 (by rw[ay];exact aj);have ao:Y.size=l.length:=by have:=aj.1;rw[this,ay]
     have aO:Y.toList.map (fun p=>p.1.1)=np c l:=by
      have aA:(Y.toList.map (fun p=>p.1.1)).Perm l:=by
       have:=al.map (fun p:β=>p.1.1)
       rwa [show dl.toArray.toList.map (fun p:β=>p.1.1)=l from aI]at this
      refine mF (aA.trans (gP c l).symm) (fun x hx y hy h4 h5=>hanti x (aA.mem_iff.1 hx) y (aA.mem_iff.1 hy) ?_) ?_ (k9 hO l)
      ·have:=hO.neg x y;have:=hO.neg y x;omega
      ·rw[ahN];rw[ahO];intro i j hi O aQ;simp only[Array.length_toList]at hi O;have:=az i j (afE _) aQ (by omega);simp only[ltOf,decide_eq_false_iff_not]at this;rw[getElem!_pos Y j (by omega),getElem!_pos Y i (by omega)]at this;simp only[Array.getElem_toList];have h6:=hO.neg Y[j].1.1 Y[i].1.1;omega
     have aq:(sortWorldK enc E.size w go.1 (go.2+pre.length) n Y os).heap[go.1]? = some (.cells (Go.Sort.putCells id (go.2+pre.length) (Go.Sort.flatK enc E.size Y) cs) ty (0,0)):=Fo h1;have ar:(Go.Sort.putCells id (go.2+pre.length) (Go.Sort.flatK enc E.size Y) cs).size=cs.size:=by simp[Go.Sort.putCells]
     refine⟨.tuple #[],he,⟨rfl,rfl,rfl,nn,fun k hk hn=>ve hk (fun e=>hn ⟨go,rfl,e⟩)⟩,⟨rfl,rfl,⟨rfl,rfl⟩,fun g' ak =>?_,?_⟩,.tup [] [] rfl (fun j x O=>by simp at O)⟩
     ·cases ak;simp[World.shape?,aq,h1,ar]
     ·refine⟨_,aq,?_,fun j d O =>?_⟩
      ·simp only[agP,bM,l9,ar];exact h2
      ·have aw:j<pre.length+(l.length*E.size+post.length):=by
        have:=(af6.1 O).1;simpa [bM,l9] using this
       show _∧RP _ (fun b=>M b∨sh (some go) b) d _;rw[au,Fk (by omega),ao]
       by_cases aR:pre.length<=j∧j<pre.length+l.length*E.size
       ·rw[if_pos (by omega)];have e1:go.2+j-(go.2+pre.length)=j-pre.length:=by omega
        rw[e1];have hq:(j-pre.length) / E.size<l.length:=Nat.div_lt_of_lt_mul (by rw[agD];omega);have ad:(j-pre.length) % E.size<E.size:=Nat.mod_lt _ hk;have ax:(j-pre.length) / E.size*E.size+(j-pre.length) % E.size=j-pre.length:=by rw[agD];exact Nat.div_add_mod _ _
        rw[agj aR.1,agi (by rw[bM,l9];omega),<- ax,<- aO,Sq E (x:=(Y[(j-pre.length) / E.size]!).1.1) (by
         rw[afA,afQ (by simpa [ao] using hq),getElem!_pos Y _ (by omega)];simp) ad]at O
        obtain⟨p1,p2⟩:=(Y[(j-pre.length) / E.size]!).2.2 _ _ O;refine⟨p1,X ?_⟩;have e2:(enc Y[(j-pre.length) / E.size]!)[(j-pre.length) % E.size]! = (Y[(j-pre.length) / E.size]!).1.2.getD ((j-pre.length) % E.size) undef:=by
         rw[getElem!_pos _ _ (by rw[ah];exact ad)];simp only[agh];rw[afQ (by have:=(Y[(j-pre.length) / E.size]!).2.1;omega)];rfl
        rw[e2];exact p2
       ·rw[if_neg (by omega)];have aK:(pre++(ab E l++post))[j]? = some d:=by
         by_cases aS:j<pre.length
         ·rw[agi aS]at O ⊢;exact O
         ·rw[agj (by omega),agj (by rw[bM,l9];omega),bM,l9]at O;rw[agj (by omega),agj (by rw[bM];omega),bM];exact O
        exact⟨(h3 j d aK).1,X (h3 j d aK).2⟩
  ·rw[if_neg Z]at hr;cases hr
end Go.Proofs.YtoioidmblipblaaGreat.Am
namespace Go.Proofs.YtoioidmblipblaaGreat.P
def iT {α:Type} (f g:α->Int) (x y:α):Int:=if Go.Lib.compareInt (f x) (f y)≠0 then Go.Lib.compareInt (f x) (f y) else Go.Lib.compareInt (g x) (g y)
theorem zc {α:Type} {f g:α->Int} {x y:α} : iT f g x y<0↔f x<f y∨(f x=f y∧g x<g y):=by
 unfold iT Go.Lib.compareInt
 repeat' split
 all_goals omega
theorem zd {α:Type} {f g:α->Int} {x y:α} : 0<iT f g x y↔f y<f x∨(f x=f y∧g y<g x):=by
 unfold iT Go.Lib.compareInt
 repeat' split
 all_goals omega
theorem tD {α:Type} {f g:α->Int} {x y:α} : iT f g x y<=0↔f x<f y∨(f x=f y∧g x<=g y):=by
 have h1:=@zc α f g x y;have h2:=@zd α f g x y;omega
theorem QU {α:Type} {f g:α->Int} {x y:α} : iT f g x y=0↔f x=f y∧g x=g y:=by
 have h1:=@zc α f g x y;have h2:=@zd α f g x y;omega
theorem qz {α:Type} (f g:α->Int):WO (iT f g) where
 total x y:=by rw[tD,tD];omega
 neg x y:=by rw[zc,zd];omega
 trans x y z h1 h2:=by rw[tD]at *;omega
end Go.Proofs.YtoioidmblipblaaGreat.P
namespace Go.Proofs.YtoioidmblipblaaGreat.Am
open Go.RowKit Go.Lib Go.Sort Go.Shelf Go.Proofs.YtoioidmblipblaaGreat.P
theorem Z6 (x:Int) (w:World):Calls prog 118 #[.int .i64 x] w fun e w'=>e=.returned (.bool false)∧w'=w:=by
 go_enter func118,ntmps118
 go_wp2
 go_ret
 exact⟨by simp,rfl⟩
theorem K8 (x y:Int) (w:World):Calls prog 76 #[.int .i64 x,.int .i64 y] w fun e w'=>e=.returned (.int .i64 (Lib.compareInt x y))∧w'=w:=by
 go_enter func76,ntmps76
 go_wp2_with (go_at_call 118;refine (Z6 _ _).mono ?_;rintro e w' ⟨rfl,hw⟩;rw[hw])
 all_goals (go_ret;refine⟨?_,rfl⟩;unfold Lib.compareInt;(repeat' split)<;>first|rfl|(exfalso;omega))
theorem ab9 (b off cap:Nat) (x y r:Int) (hr:r=if x≠0 then x else y) (w:World) (h0:w.cell? ⟨b,off,none⟩=some (.int .i64 x)) (h1:w.cell? ⟨b,off+1,none⟩=some (.int .i64 y)):Calls prog 75 #[.slice (some ⟨b,off,none⟩) 2 cap] w fun e w'=>e=.returned (.int .i64 r)∧w'=w:=by
 go_enter func75,ntmps75
 go_wp2
 refine wp_loop_rounds 3 ?_;repeat any_goals (rw[rounds_succ];go_wp2)
 all_goals (go_ret;refine⟨?_,rfl⟩;subst hr;simp_all)
theorem EJ (W:World) (A B:Obj) (q:Nat):({ ((W.alloc A).alloc B) with drawn:=q } : World).heap[W.heap.size]? = some A∧({ ((W.alloc A).alloc B) with drawn:=q } : World).heap[W.heap.size+1]? = some B:=by
 constructor
 ·show ((W.heap.push A).push B)[W.heap.size]? = some A;simp[Array.getElem?_push]
 ·show ((W.heap.push A).push B)[W.heap.size+1]? = some B;rw[Array.getElem?_push,if_pos (by simp)]
theorem V3 (w:World) (x y:Value) (t:TypeId):(w.alloc (.cells #[x,y] t)).cell? ⟨w.heap.size,0,none⟩=some x∧(w.alloc (.cells #[x,y] t)).cell? ⟨w.heap.size,0+1,none⟩=some y:=by
 have h:(w.alloc (.cells #[x,y] t)).heap[w.heap.size]? = some (.cells #[x,y] t):=by
  show (w.heap.push _)[w.heap.size]? = _;simp
 exact⟨aP h (j:=0) (by simp),aP h (j:=0+1) (by simp)⟩
theorem Y6 (W:World) (A B:Obj):({ ((W.alloc A).alloc B) with drawn:=((W.alloc A).alloc B).drawn+1 } : World)=grow (W.drewN 1) #[A,B]:=by
 rw[alloc_eq_grow,alloc_eq_grow,grow_grow];rfl
theorem N7 {P:Program} {id:Nat} {Q:Exit->Act->World->Prop} {a:Act} {w O:World} {l:List Oper} (n:Nat) (hw:O = { w with drawn:=w.drawn+1 }) (hm:P.follows .mixedOrders=true) (U:Region.lexTailB .any l.toArray n=true)
  (h:wpStill P l.toArray O (fun X=>wpList P l.toArray Q (l.drop n) X O) (l.take n) a):(Code.region id l.toArray true).wp P Q a w:=by
 subst hw;exact wp_region_still_tail n hm U h
set_option maxRecDepth 100000 in
theorem Ks (f1 t1 f2 t2:Int) (a b c d a' b' c' d':Value) (W:World) (h1:∀v∈[a,b,c,d],v.oneCell'=true) (h2:∀v∈[a',b',c',d'],v.oneCell'=true) :
  Calls prog 43 #[.agg #[.int .i64 f1,.int .i64 t1,a,b,c,d],.agg #[.int .i64 f2,.int .i64 t2,a',b',c',d']] W fun e w'=>e=.returned (.int .i64 (if Lib.compareInt f1 f2≠0 then Lib.compareInt f1 f2 else Lib.compareInt t1 t2))∧∃q os',w'=grow (W.drewN q) os':=by
 have hcon:=fun x y W'=>K8 x y W';have hor:=fun b off cap x y r hr W' h0 h1=>ab9 b off cap x y r hr W' h0 h1;generalize hr:(if Lib.compareInt f1 f2≠0 then Lib.compareInt f1 f2 else Lib.compareInt t1 t2)=r;obtain⟨w1,hw1⟩:∃w1:World,w1 = { ((W.alloc (Obj.cells #[.int .i64 f1,.int .i64 t1,a,b,c,d] 65)).alloc (Obj.cells #[.int .i64 f2,.int .i64 t2,a',b',c',d'] 65)) with drawn:=((W.alloc (Obj.cells #[.int .i64 f1,.int .i64 t1,a,b,c,d] 65)).alloc (Obj.cells #[.int .i64 f2,.int .i64 t2,a',b',c',d'] 65)).drawn+1 }:=⟨_,rfl⟩;have hg:∃q os,w1=grow (W.drewN q) os:=⟨_,_,hw1.trans (Y6 _ _ _)⟩;have hA:w1.heap[W.heap.size]? = some (Obj.cells #[.int .i64 f1,.int .i64 t1,a,b,c,d] 65):=by rw[hw1];exact (EJ _ _ _ _).1
 have hB:w1.heap[W.heap.size+1]? = some (Obj.cells #[.int .i64 f2,.int .i64 t2,a',b',c',d'] 65):=by rw[hw1];exact (EJ _ _ _ _).2
 have c1:w1.cell? ⟨W.heap.size,0,none⟩=some (.int .i64 f1):=aP hA (j:=0) (by simp);have c2:w1.cell? ⟨W.heap.size,1,none⟩=some (.int .i64 t1):=aP hA (j:=1) (by simp);have c3:w1.cell? ⟨W.heap.size+1,0,none⟩=some (.int .i64 f2):=aP hB (j:=0) (by simp);have c4:w1.cell? ⟨W.heap.size+1,1,none⟩=some (.int .i64 t2):=aP hB (j:=1) (by simp);clear hA hB
 go_enter func43,ntmps43
 go_wp2
 refine N7 10 hw1 (by kernel_rfl) (by kernel_rfl) ?_;clear hw1;simp only[List.take_succ_cons,List.take_zero,ahB,ag7]
 iterate 4 still_step
 still_call (hcon _ _ _)
 iterate 4 still_step
 still_call (hcon _ _ _)
 apply wpStill_nil;generalize Lib.compareInt f1 f2=r1 at *;generalize Lib.compareInt t1 t2=r2 at *
 go_wp2_with (go_at_call 75;refine (hor _ _ _ _ _ _ hr.symm _ (V3 _ _ _ _).1 (V3 _ _ _ _).2).mono ?_;rintro e w' ⟨rfl,rfl⟩)
 go_ret
 obtain⟨q,os,hq⟩:=hg;exact⟨rfl,q,_,by rw[hq,alloc_eq_grow,grow_grow]⟩
theorem Yg {α:Type} {E:iM α} (h6:E.size=6) {f g:α->Int} (h0:∀x,(E.cells x)[0]? = some (.int .i64 (f x))) (h1:∀x,(E.cells x)[1]? = some (.int .i64 (g x))) {w:World} {M:Nat->Prop} {x:α} {us:List Value} (h:IsV E w M x us) :
  ∃a b c d,us=[.int .i64 (f x),.int .i64 (g x),a,b,c,d]∧∀v∈[a,b,c,d],v.oneCell'=true:=by
 obtain⟨X,U⟩:=h;rw[h6]at X
 match us,X with
 | [a0,Y,a2,a3,a4,a5],_ =>
  have e0:a0=.int .i64 (f x):=by
   have:=(U 0 _ (h0 x)).2;simp at this;cases this;rfl
  have e1:Y=.int .i64 (g x):=by
   have:=(U 1 _ (h1 x)).2;simp at this;cases this;rfl
  have hlen:=E.len x;rw[h6]at hlen;have O:∀j,j<6->([a0,Y,a2,a3,a4,a5].getD j undef).oneCell'=true:=fun j hj=>by
   obtain⟨p1,p2⟩:=U j _ (afQ (by omega));exact p2.pC p1
  subst e0 e1;refine⟨a2,a3,a4,a5,rfl,fun v Z =>?_⟩;simp only[afK,agM,or_false]at Z;rcases Z with rfl|rfl|rfl|rfl
  ·exact O 2 (by decide)
  ·exact O 3 (by decide)
  ·exact O 4 (by decide)
  ·exact O 5 (by decide)
theorem Ug {α:Type} {E:iM α} (h6:E.size=6) {f g:α->Int} (O:∀x,(E.cells x)[0]? = some (.int .i64 (f x))) (h1:∀x,(E.cells x)[1]? = some (.int .i64 (g x))):acF prog 43 true E (iT f g):=by
 intro w M x y ux uy hM U X;obtain⟨a,b,c,d,rfl,p⟩:=Yg h6 O h1 U;obtain⟨Y,Z,c',d',rfl,q⟩:=Yg h6 O h1 X;exact Ks _ _ _ _ a b c d Y Z c' d' w p q
theorem U7 {P:Program} {ρ:Go.Shelf.Ren} (L:SlLaysF0.n6 P ρ) {k g:Nat} (Y:∀w,(isAgg (ρ.t 24)).run P w=.ok true w) (Z:∀w,(Go.sizeOf (ρ.t 24)).run P w=.ok k w) (eg:∀args w,(callFunc g args).run P w=.ok (.enter g args) w):aaI P (ρ.f 6) g true k :=
 fun β aa enc cf hk h1 hO blk off cap d w O hH hblk U=>AnyQ.slices_SortFunc L k Y Z enc hk h1 cf hO g #[] blk off cap d w eg (fun m os dk X x y=>by simpa [V4] using O m os dk X x y) hH hblk U
theorem JD {α:Type} {E:iM α} (h6:E.size=6) {f g:α->Int} (O:∀x,(E.cells x)[0]? = some (.int .i64 (f x))) (h1:∀x,(E.cells x)[1]? = some (.int .i64 (g x))) (ty:Nat) :
  bT prog 42 (Z4 ty E (dL (aFn 43)) (fun l (_:Unit)=>Au (iT f g) l) (fun _:Unit =>.clean (.tup []))) :=
 Yk (F:=Au (iT f g)) func42 ⟨rfl,rfl⟩ (fun _=>rfl) (fun p cap w=>AnyF.slices_SortFunc_none Tryz.Yl p cap _ w) (qz f g) (Ug h6 O h1)
  (by rw[h6];exact U7 Tryz.Yl isAgg65 sizeOf65 (enters_of func43 (by kernel_rfl) rfl))
end Go.Proofs.YtoioidmblipblaaGreat.Am
namespace Go.Proofs.YtoioidmblipblaaGreat.Am
open Go.RowKit Go.Proofs.YtoioidmblipblaaGreat.P
def kg:Nat->Code->Code
 | 0,.seq a _=>a
 | k+1,.seq a b =>.seq a (kg k b)
 | _,c=>c
def zb:Nat->Code->Code
 | 0,.seq _ b=>b
 | k+1,.seq _ b=>zb k b
 | _,_ =>.skip
def spine:Nat->Code->Bool
 | 0,.seq _ _=>true
 | k+1,.seq _ b=>spine k b
 | _,_=>false
def Wh (fn:Func):Code:=match fn.body with|some c=>c|none =>.skip
theorem Je (a b:Code):kg 0 (.seq a b)=a:=rfl
theorem Jd (k:Nat) (a b:Code):kg (k+1) (.seq a b)=.seq a (kg k b):=rfl
section
variable {P:Program} {T:Nat->Option Ty} {N:Nat} {M:Nat->Prop} {L:iN} {w0:World} {Γ:Env}
theorem zX (hT:gW P T) (hΓ:bF P Γ) (hm:P.follows .mixedOrders=true) {F:Nat} {Q:Exit->Act->World->Prop} : ∀(k:Nat) (c:Code) (s:St) (x:Ex) (Y:St) (a:Act) (w:World),spine k c=true->fK T Γ N F (kg k c) s=some (x,Y)->codeOk (kg k c)=true->Holds N M L w0 s a w ->
  (x=.normal->∀U w',Holds N M L w0 Y U w'->(zb k c).wp P Q U w')->(x ≠ .normal->∀U w',Holds N M L w0 Y U w'->Q (CI x) U w')->c.wp P Q a w
 | 0,.seq b c,s,x,Y,a,w,_,Z,X,hH,h1,h2=>by
  refine wp_seq (il hT hΓ hm b s x Y _ a w Z X hH fun U w' O =>?_);cases x with
  | normal=>exact h1 rfl U w' O
  | exit n=>exact h2 (by intro h;cases h) U w' O
  | ret=>exact h2 (by intro h;cases h) U w' O
 | k+1,.seq b c,s,x,Y,a,w,hs,Z,X,hH,h1,h2=>by
  simp only[kg,codeOk,age]at X;simp only[kg,fK,acx]at Z;apply wp_seq;split at Z
  ·rename_i s1 aa;exact il hT hΓ hm b s .normal s1 _ a w aa X.1 hH fun U w' O=>zX hT hΓ hm k c s1 x Y U w' hs Z X.2 O h1 h2
  ·rename_i r hne;refine il hT hΓ hm b s x Y _ a w Z X.1 hH fun U w' O =>?_;cases x with
   | normal=>exact absurd Z (fun h=>hne Y h)
   | exit n=>exact h2 (by intro h;cases h) U w' O
   | ret=>exact h2 (by intro h;cases h) U w' O
end
def vE (T:Nat->Option Ty) (rs:List ResultVar) (r:RK×Option Row) (J:(Nat->D)->(Nat->Option Row)->Nat->Prop):Kt:=fun x t h e =>
 match x with
 | .normal=>J t h e
 | .ret=>fH .clean T none rs ⟨t,EH h,e⟩=some r
 | .exit _=>False
section
variable {T:Nat->Option Ty} {Γ:Env} {n F k:Nat} {rs:List ResultVar} {r:RK×Option Row} {J:(Nat->D)->(Nat->Option Row)->Nat->Prop} {t:Nat->D} {h:Nat->Option Row} {e:Nat}
theorem E6:vE T rs r J .normal t h e=J t h e:=aiw
theorem CM:vE T rs r J .ret t h e=(fH .clean T none rs ⟨t,EH h,e⟩=some r):=aiw
def Ri (T:Nat->Option Ty) (Γ:Env) (F k:Nat) (fn:Func) (args:List D) (K:Kt):Prop:=∃c,fn.body=some c∧∃x s,fK T Γ fn.ntmps F (kg k c) (bW none args)=some (x,s)∧K x s.t s.h s.e
theorem Vr {fn:Func} {c:Code} {args:List D} (O:fn.body=some c) (U:fn.ntmps=n) (X:fn.results=rs.toArray) (hw:cW T Γ n F [.code (kg k c)] (vE T rs r J) .normal (EY args) S8 0):Ri T Γ F k fn args (vE T fn.results.toList r J):=by
 obtain⟨x,s,h1,h2⟩:=J9 _ _ _ _ _ (show O6 T Γ n F (kg k c) (EY args) S8 0 (vE T rs r J) from hw);refine⟨c,O,x,s,?_,?_⟩
 ·rw[U];exact h1
 ·rw[X];exact h2
end
section
variable {P:Program} {T:Nat->Option Ty} {Γ:Env}
theorem OL {n:Nat} {args:List D} {w:World} {M:Nat->Prop} {vs:Array Value} (hM:∀b,M b->b<w.heap.size) (O:wB w M args vs) (hn:args.length<=n) (Y:n<=PK):Holds n M none w (bW none args) { tmps:=vs++Array.replicate (n-vs.size) undef,defers:=[] } w:=by
 have hI:Inv n M none w (fun _=>none) (fun x v=>x<n∧v<0) (bW none args).t (bW none args).h { tmps:=vs++Array.replicate (n-vs.size) undef,defers:=[] } w:={
  tab:=fun b U=>(O.tab b U).less fun b U=>by
   rcases U with U|⟨x,r,g,X,_⟩
   ·exact U
   ·cases X
  below:=ef.refl _ _
  mlt:=hM
  lent:=fun b U=>absurd U pj
  pin:=fun go hg=>by cases hg
  defers:=rfl
  tsz:=by have:=O.1;simp;omega
  slots:=fun i=>by
   simp only[bW];rcases tC (n:=n) (i:=i) O.1 with he|he
   ·rw[he]
    by_cases Z:i<args.length
    ·have h1:=O.2 i _ (afQ Z);have e1:args.getD i .und=args[i]:=by simp[List.getD,Z]
     rw[e1];exact bs (h1.less fun b U=>by
      rcases U with U|⟨x,r,g,X,_⟩
      ·exact U
      ·cases X)
    ·have e1:args.getD i .und=.und:=by simp[List.getD,ahi (aho Z)]
     rw[e1];trivial
   ·rw[he];trivial
  rows:=fun x r X=>by cases X
  inj:=fun x y r s g g' X=>by cases X
  big:=Y
  pha:=fun y r g hy=>by cases hy
  ali:=fun y r g hy=>by cases hy }
 exact⟨_,⟨(by rw[Bq (fun k r hk=>by cases hk)];exact hI.weaken fun x v X=>absurd X.2 (Nat.not_lt_zero _)),fun x r ty s nv cs X=>by cases X⟩⟩
theorem GI (hT:gW P T) {fn:Func} {M:Nat->Prop} {w w':World} {s:St} {a':Act} {rk:RK} (hH:Holds fn.ntmps M none w s a' w') (U:fH .clean T none fn.results.toList ⟨s.t,EH s.h,s.e⟩=some (rk,none)) :
  a'.defers=[]∧∃v,(results fn a'.tmps).run P w'=.ok v w'∧(∃v',Ending.returned v=.returned v'∧Below w.heap.size w w'∧so w w' M (fun _=>False) v' rk):=by
 obtain⟨blk',aa⟩:=hH;obtain⟨sE,X⟩:∃sE:St,sE=⟨s.t,EH s.h,s.e⟩:=⟨_,rfl⟩;have O:Inv fn.ntmps M none w blk' (VE fn.ntmps s.e [] s.h) sE.t sE.h a' w':=by rw[X];exact aa.inv
 rw[<- X]at U;have Y:Below w.heap.size w w':=O.below.below (fun b hb=>absurd hb pj);refine⟨O.defers,?_⟩;simp only[fH,oH,js]at U;split at U<;>try (cases U;done)
 rename_i ds fr o Z ho;split at U<;>try (cases U;done)
 simp only[afM,Prod.mk.injEq]at U;obtain⟨rfl,_⟩:=U;obtain⟨v,ab,ad⟩:=pI (P:=P) hT O Z (O.abd fr);exact⟨v,ab,v,rfl,Y,ad⟩
def Kk (P:Program) (fn:Func) (c:Code) (rk:RK) (J:(Nat->D)->(Nat->Option Row)->Nat->Prop):Prop:=∀(w0:World) (M:Nat->Prop) (s:St) (a:Act) (w:World),J s.t s.h s.e->Holds fn.ntmps M none w0 s a w ->
 c.wp P (bodyPost P fn fun e w'=>∃v,e=.returned v∧Below w0.heap.size w0 w'∧so w0 w' M (fun _=>False) v rk) a w
theorem bT.front (Z:gW P T) (hΓ:bF P Γ) (hm:P.follows .mixedOrders=true) {α β:Type} {A:iU α} {F:α->Option β} {R:β->RK} {f:FuncId} {fn:Func} {c:Code} {k:Nat} {J:β->(Nat->D)->(Nat->Option Row)->Nat->Prop} (hf:P.funcs[f]? = some fn) (hb:fn.body=some c) (O:(codeOk (kg k c)&&spine k c)=true)
  (hc:(fn.name == "runtime.NumGoroutine")=false∧fn.body.isNone=false) (hn:∀a,(A.ds a).length<=fn.ntmps) (Y:fn.ntmps<=1000000) (h:∀a r,F a=some r->Ri T Γ FU k fn (A.ds a) (vE T fn.results.toList (R r,none) (J r))) (ht:∀r,Kk P fn (zb k c) (R r) (J r)):bT P f (dP A F R) where
 calls lent la rk out hg:=by
  obtain⟨rfl,rfl,a,r,rfl,hr,rfl⟩:=qq hg;rw[age]at O;intro w M vs hM U;obtain⟨c',X,x,s,h1,h2⟩:=h a r hr;rw[hb]at X;cases X;apply calls_of_wp hf hb;refine zX Z hΓ hm k c (bW none (A.ds a)) x s _ _ O.2 h1 O.1 (OL hM U (hn a) (by rw[cm];exact Y)) ?_ ?_
  ·rintro rfl a' w' hH;exact ht r w M s a' w' h2 hH
  ·intro hx a' w' hH;cases x with
   | normal=>exact absurd rfl hx
   | exit n=>exact h2.elim
   | ret=>exact GI Z hH h2
 callable:=⟨fn,hf,hc⟩
end
end Go.Proofs.YtoioidmblipblaaGreat.Am
namespace Go.Proofs.YtoioidmblipblaaGreat.P
open Go.RowKit
structure az where
 ah:Int
 aa:(List Int)
structure aw where
 cD:az
 cw:az
structure gN where
 ck:Int
 aL:Int
structure bG where
 ct:Int
 iO:Int
 eB:aw
structure eM where
 aA:Int
 aN:(List bG)
structure RE where
 PM:Int
 abQ:Int
structure gn where
 bu:Int
 a7:Int
 aL:Int
structure sr where
 bu:Int
 a7:Int
 aL:Int
 CJ:ByteArray
structure fJ where
 ak:(List gn)
 aH:(List sr)
 aB:(List (List aw))
structure bV where
 au:fJ
 aZ:(List gN)
 aA:(List Int)
structure bA where
 ax:(List Int)
 ao:(List bV)
def Ap (U:(List Int)):(Int)->Option ((Int)⊕((Int)))
 | O =>
  if decide (O>0) then
   (P.idx U (IntKind.i64.wrap (O-1))).bind fun X =>
   if (X==0) then
    some (.inl (IntKind.i64.wrap (O-1)))
   else
    some (.inr O)
  else
   some (.inr O)
def jg (U:(List Int)):Option ((List Int)) :=
 (ba (Ap U) (U.length:Int)).bind fun O =>
 (wo U 0 O).bind fun X =>
 (kr 8 [] X).bind fun _ =>
 some X
def gF (U:Int) (X:(List Int)):Option (az) :=
 (jg X).bind fun O =>
 if ((O.length:Int)==0) then
  some (az.mk 0 ([]))
 else
  some (az.mk U O)
def HN:(Int×(List Int))->Option ((Int×(List Int))⊕(((List Int))))
 | (O,U) =>
  if (O != 0) then
   (AQ .i64 O 1048576).bind fun X =>
   if decide (X<0) then
    (kr 8 U [IntKind.i64.wrap (0-X)]).bind fun Y =>
    (B9 .i64 O 1048576).bind fun Z =>
    some (.inl (Z,Y))
   else
    (kr 8 U [X]).bind fun aa =>
    (B9 .i64 O 1048576).bind fun ab =>
    some (.inl (ab,aa))
  else
   some (.inr U)
def yY (X:Int):Option (az) :=
 if (X==0) then
  some (az.mk 0 ([]))
 else
  (if decide (X<0) then
   some (-1)
  else
   some 1).bind fun O =>
  (ba (HN) (X,[])).bind fun U =>
  (gF O U).bind fun Y =>
  some Y
def xy (U:az):(Int)->Option ((Int)⊕((Unit)⊕(Bool)))
 | O =>
  if decide (O<(U.aa.length:Int)) then
   (P.idx U.aa O).bind fun X =>
   if decide (X<0) then
    some (.inr (.inr false))
   else
    if decide (X>=1048576) then
     some (.inr (.inr false))
    else
     some (.inl (IntKind.i64.wrap (O+1)))
  else
   some (.inr (.inl ()))
def dK (O:az):Option (Bool) :=
 (ba (xy O) 0).bind fun q=>match q with
 | (.inl _) =>
  (if decide (O.ah<(-1)) then
   some true
  else
   if decide (O.ah>1) then
    some true
   else
    some (!(((O.aa.length:Int)==0)==(O.ah==0)))).bind fun U =>
  if U then
   some false
  else
   if ((O.aa.length:Int)==0) then
    some true
   else
    (P.idx O.aa (IntKind.i64.wrap ((O.aa.length:Int)-1))).bind fun X =>
    some (X != 0)
 | (.inr Y) =>
  some Y
def uz (O:az):Option (az) :=
 (dK O).bind fun U =>
 if (!U) then
  some (az.mk 0 ([]))
 else
  (gF (IntKind.i64.wrap (0-O.ah)) O.aa).bind fun X =>
  some X
def jG (O:(List Int)) (U:Int):Option (Int) :=
 if decide (U<(O.length:Int)) then
  (P.idx O U).bind fun X =>
  some X
 else
  some 0
def xC (p0:(List Int)) (p1:(List Int)) (U:Int):(Int×Int×(List Int))->Option ((Int×Int×(List Int))⊕(((List Int))))
 | (X,O,Y) =>
  (if decide (O<(p1.length:Int)) then
   some true
  else
   some (decide (X>0))).bind fun Z =>
  if Z then
   (P.idx Y (IntKind.i64.wrap (U+O))).bind fun aa =>
   (P.idx p0 U).bind fun ab =>
   (jG p1 O).bind fun ad =>
   (AQ .i64 (IntKind.i64.wrap ((IntKind.i64.wrap (aa+(IntKind.i64.wrap (ab*ad))))+X)) 1048576).bind fun ae =>
   (B9 .i64 (IntKind.i64.wrap ((IntKind.i64.wrap (aa+(IntKind.i64.wrap (ab*ad))))+X)) 1048576).bind fun ag =>
   some (.inl (ag,IntKind.i64.wrap (O+1),(Y.set (IntKind.i64.wrap (U+O)).toNat ae)))
  else
   some (.inr Y)
def xB (Y:(List Int)) (Z:(List Int)):(Int×(List Int))->Option ((Int×(List Int))⊕(((List Int))))
 | (O,U) =>
  if decide (O<(Y.length:Int)) then
   (ba (xC Y Z O) (0,0,U)).bind fun X =>
   some (.inl (IntKind.i64.wrap (O+1),X))
  else
   some (.inr U)
def mj (U:(List Int)) (X:(List Int)):Option ((List Int)) :=
 (Hl 8 (IntKind.i64.wrap ((U.length:Int)+(X.length:Int))) (IntKind.i64.wrap ((U.length:Int)+(X.length:Int))) 0).bind fun Z =>
 (ba (xB U X) (0,Z)).bind fun O =>
 (jg O).bind fun Y =>
 some Y
def Ak (Y:(List Int)) (Z:(List Int)):(Int)->Option ((Int)⊕((Unit)⊕(Bool)))
 | O =>
  if decide (O>=0) then
   (jG Y O).bind fun U =>
   (jG Z O).bind fun X =>
   if (U != X) then
    some (.inr (.inr (decide (U<X))))
   else
    some (.inl (IntKind.i64.wrap (O-1)))
  else
   some (.inr (.inl ()))
def qv (O:(List Int)) (U:(List Int)):Option (Bool) :=
 (ba (Ak O U) (IntKind.i64.wrap ((if (U.length:Int)>(O.length:Int) then (U.length:Int) else (O.length:Int))-1))).bind fun q=>match q with
 | (.inl _) =>
  some false
 | (.inr X) =>
  some X
def xA (p0:(List Int)) (p1:(List Int)):(Int×Int×(List Int))->Option ((Int×Int×(List Int))⊕(((List Int))))
 | (U,O,X) =>
  if decide (O<(p0.length:Int)) then
   (P.idx p0 O).bind fun Y =>
   (jG p1 O).bind fun Z =>
   if decide ((IntKind.i64.wrap ((IntKind.i64.wrap (Y-Z))-U))<0) then
    (kr 8 X [IntKind.i64.wrap ((IntKind.i64.wrap ((IntKind.i64.wrap (Y-Z))-U))+1048576)]).bind fun aa =>
    some (.inl (1,IntKind.i64.wrap (O+1),aa))
   else
    (kr 8 X [IntKind.i64.wrap ((IntKind.i64.wrap (Y-Z))-U)]).bind fun ab =>
    some (.inl (0,IntKind.i64.wrap (O+1),ab))
  else
   some (.inr X)
def mi (X:(List Int)) (Y:(List Int)):Option ((List Int)) :=
 (ba (xA X Y) (0,0,[])).bind fun O =>
 (jg O).bind fun U =>
 some U
def An (p1:(List Int)) (Y:(List Int)):(Int×Int)->Option ((Int×Int)⊕((Int)))
 | (U,O) =>
  if decide ((IntKind.i64.wrap (O-U))>1) then
   (B9 .i64 (IntKind.i64.wrap (U+O)) 2).bind fun X =>
   (mj p1 ([X])).bind fun Z =>
   (qv Y Z).bind fun aa =>
   if aa then
    some (.inl (U,X))
   else
    some (.inl (X,O))
  else
   some (.inr U)
def Al (p0:(List Int)) (p1:(List Int)):((List Int)×Int×(List Int))->Option (((List Int)×Int×(List Int))⊕(((List Int)×(List Int))))
 | (Y,O,X) =>
  if decide (O>=0) then
   (P.idx p0 O).bind fun aa =>
   (kr 8 [aa] Y).bind fun ab =>
   (jg ab).bind fun Z =>
   (ba (An p1 Z) (0,1048576)).bind fun U =>
   (P.idx X O).bind fun ah =>
   (jg ([U])).bind fun ad =>
   (mj p1 ad).bind fun ae =>
   (mi Z ae).bind fun ag =>
   some (.inl (ag,IntKind.i64.wrap (O-1),(X.set (O).toNat U)))
  else
   some (.inr (Y,X))
def tz (X:(List Int)) (Z:(List Int)):Option ((List Int)×(List Int)) :=
 (Hl 8 (X.length:Int) (X.length:Int) 0).bind fun x1 =>
 (ba (Al X Z) ([],IntKind.i64.wrap ((X.length:Int)-1),x1)).bind fun q=>match q with
 | (O,U) =>
  (jg U).bind fun Y =>
  some (Y,O)
def D9:((List Int)×(List Int))->Option (((List Int)×(List Int))⊕(((List Int))))
 | (U,O) =>
  if decide ((O.length:Int)>0) then
   (tz U O).bind fun X =>
   some (.inl (O,X.2))
  else
   some (.inr U)
def xx (Y:az) (Z:az):Option (az×Int) :=
 (dK Y).bind fun r1 =>
 (if (!r1) then
  some true
 else
  (dK Z).bind fun X =>
  some (!X)).bind fun O =>
 if O then
  some ((az.mk 0 ([])),1)
 else
  (ba (D9) (Y.aa,Z.aa)).bind fun U =>
  (gF 1 U).bind fun r9 =>
  some (r9,0)
def Ao (p0:(List Int)) (p1:(List Int)):(Int×Int×(List Int))->Option ((Int×Int×(List Int))⊕(((List Int))))
 | (U,O,Y) =>
  (if decide (O<(p0.length:Int)) then
   some true
  else
   if decide (O<(p1.length:Int)) then
    some true
   else
    some (decide (U>0))).bind fun X =>
  if X then
   (jG p0 O).bind fun Z =>
   (jG p1 O).bind fun aa =>
   (AQ .i64 (IntKind.i64.wrap ((IntKind.i64.wrap (Z+aa))+U)) 1048576).bind fun ab =>
   (kr 8 Y [ab]).bind fun ad =>
   (B9 .i64 (IntKind.i64.wrap ((IntKind.i64.wrap (Z+aa))+U)) 1048576).bind fun ae =>
   some (.inl (ae,IntKind.i64.wrap (O+1),ad))
  else
   some (.inr Y)
def qw (X:(List Int)) (Y:(List Int)):Option ((List Int)) :=
 (ba (Ao X Y) (0,0,[])).bind fun O =>
 (jg O).bind fun U =>
 some U
def xw (Y:az) (O:az):Option (az×az×Int) :=
 (dK Y).bind fun r1 =>
 (if (!r1) then
  some true
 else
  (dK O).bind fun ab =>
  some (!ab)).bind fun U =>
 if U then
  some ((az.mk 0 ([])),(az.mk 0 ([])),1)
 else
  if (O.ah==0) then
   some ((az.mk 0 ([])),(az.mk 0 ([])),15)
  else
   (tz Y.aa O.aa).bind fun Z =>
   (if decide ((IntKind.i64.wrap (Y.ah*O.ah))>=0) then
    some true
   else
    some ((Z.2.length:Int)==0)).bind fun X =>
   if X then
    (gF (IntKind.i64.wrap (Y.ah*O.ah)) Z.1).bind fun r8 =>
    (gF Y.ah Z.2).bind fun r9 =>
    some (r8,r9,0)
   else
    (qw Z.1 ([1])).bind fun ad =>
    (gF (-1) ad).bind fun ae =>
    (mi O.aa Z.2).bind fun ag =>
    (gF O.ah ag).bind fun ai =>
    some (ae,ai,0)
def xE (p0:az) (p1:az):Option (aw×Int) :=
 (dK p0).bind fun r1 =>
 (if (!r1) then
  some true
 else
  (dK p1).bind fun ae =>
  some (!ae)).bind fun Z =>
 if Z then
  some ((aw.mk (az.mk 0 ([])) (az.mk 0 ([]))),1)
 else
  if (p1.ah==0) then
   some ((aw.mk (az.mk 0 ([])) (az.mk 0 ([]))),15)
  else
   (if decide (p1.ah<0) then
    (uz p0).bind fun ab =>
    (uz p1).bind fun ad =>
    some (ab.ah,ab.aa,ad.ah,ad.aa)
   else
    some (p0.ah,p0.aa,p1.ah,p1.aa)).bind fun q=>match q with
   | (O,U,X,Y) =>
    (xx (az.mk O U) (az.mk X Y)).bind fun r6 =>
    (xw (az.mk O U) r6.1).bind fun r7 =>
    (xw (az.mk X Y) r6.1).bind fun r8 =>
    some ((aw.mk r7.1 r8.1),0)
def Ea (U:Int) (X:Int):Option (aw×Int) :=
 (yY U).bind fun Y =>
 (yY X).bind fun Z =>
 (xE Y Z).bind fun O =>
 some (O.1,O.2)
def xi:Option (aw) :=
 (Ea 1 2).bind fun O =>
 some O.1
def xD (O:Int):Option (aw) :=
 (Ea O 1).bind fun U =>
 some U.1
def Aj (X:az) (Y:az):(Int)->Option ((Int)⊕((Unit)⊕(Bool)))
 | O =>
  if decide (O<(X.aa.length:Int)) then
   (P.idx X.aa O).bind fun Z =>
   (P.idx Y.aa O).bind fun U =>
   if (Z != U) then
    some (.inr (.inr false))
   else
    some (.inl (IntKind.i64.wrap (O+1)))
  else
   some (.inr (.inl ()))
def xz (U:az) (X:az):Option (Bool) :=
 (if (U.ah != X.ah) then
  some true
 else
  some ((U.aa.length:Int) != (X.aa.length:Int))).bind fun O =>
 if O then
  some false
 else
  (ba (Aj U X) 0).bind fun q=>match q with
  | (.inl _) =>
   some true
  | (.inr Y) =>
   some Y
def pG (U:az) (X:az):Option (Int) :=
 (dK U).bind fun Z =>
 (if (!Z) then
  some true
 else
  (dK X).bind fun r9 =>
  if (!r9) then
   some true
  else
   (xz U X).bind fun Y =>
   some Y).bind fun O =>
 if O then
  some 0
 else
  if (U.ah != X.ah) then
   if decide (U.ah<X.ah) then
    some (-1)
   else
    some 1
  else
   (qv U.aa X.aa).bind fun r6 =>
   if (r6==(decide (U.ah>0))) then
    some (-1)
   else
    some 1
def qy (U:aw):Option (Bool) :=
 (dK U.cD).bind fun X =>
 (if (!X) then
  some true
 else
  (dK U.cw).bind fun Y =>
  if (!Y) then
   some true
  else
   some (decide (U.cw.ah<1))).bind fun O =>
 if O then
  some false
 else
  (xx U.cD U.cw).bind fun Z =>
  (yY 1).bind fun r5 =>
  (pG Z.1 r5).bind fun r6 =>
  some (r6==0)
def uw (U:az) (X:az):Option (az×Int) :=
 (dK U).bind fun Y =>
 (if (!Y) then
  some true
 else
  (dK X).bind fun Z =>
  some (!Z)).bind fun O =>
 if O then
  some ((az.mk 0 ([])),1)
 else
  (mj U.aa X.aa).bind fun r4 =>
  (gF (IntKind.i64.wrap (U.ah*X.ah)) r4).bind fun r5 =>
  some (r5,0)
def Be (O:az) (U:az):Option (az×Int) :=
 (dK O).bind fun r1 =>
 (if (!r1) then
  some true
 else
  (dK U).bind fun Z =>
  some (!Z)).bind fun X =>
 if X then
  some ((az.mk 0 ([])),1)
 else
  (if (O.ah==0) then
   some true
  else
   if (U.ah==0) then
    some true
   else
    some (O.ah==U.ah)).bind fun Y =>
  if Y then
   (qw O.aa U.aa).bind fun r6 =>
   (gF (jQ .or .i64 O.ah U.ah) r6).bind fun r7 =>
   some (r7,0)
  else
   (qv O.aa U.aa).bind fun r8 =>
   if r8 then
    (mi U.aa O.aa).bind fun ab =>
    (gF U.ah ab).bind fun ad =>
    some (ad,0)
   else
    (mi O.aa U.aa).bind fun ae =>
    (gF O.ah ae).bind fun ag =>
    some (ag,0)
def Bf (X:az) (O:az):Option (az×Int) :=
 (dK O).bind fun Y =>
 if (!Y) then
  some ((az.mk 0 ([])),1)
 else
  (uz O).bind fun Z =>
  (Be X Z).bind fun U =>
  some (U.1,U.2)
def Bg (U:aw) (X:aw):Option (aw×Int) :=
 (qy U).bind fun r1 =>
 (if (!r1) then
  some true
 else
  (qy X).bind fun Y =>
  some (!Y)).bind fun O =>
 if O then
  some ((aw.mk (az.mk 0 ([])) (az.mk 0 ([]))),1)
 else
  (uw U.cD X.cw).bind fun r4 =>
  (uw X.cD U.cw).bind fun r5 =>
  (uw U.cw X.cw).bind fun r6 =>
  (Bf r4.1 r5.1).bind fun r7 =>
  (xE r7.1 r6.1).bind fun Z =>
  some (Z.1,Z.2)
def kH (X:Int) (U:aw):Option (bA) :=
 (xD 1).bind fun O =>
 (Bg O U).bind fun Y =>
 some (bA.mk ([20,10]) ([(bV.mk (fJ.mk ([(gn.mk 1 0 0),(gn.mk 0 0 0)]) ([(sr.mk 0 0 0 (ByteArray.mk #[]))]) ([[O,O]])) ([(gN.mk 1 X)]) ([0])),(bV.mk (fJ.mk ([(gn.mk 1 0 0)]) ([(sr.mk 0 0 0 (ByteArray.mk #[])),(sr.mk 2 0 0 (ByteArray.mk #[104,101,97,116]))]) ([[U],[Y.1]])) ([(gN.mk 0 20)]) ([1]))]))
def dM (O:Int) (U:Int) (X:Int):Option (Bool) :=
 if decide (O>=U) then
  some (decide (O<=X))
 else
  some false
def mH (U:(List Int)):(Int)->Option ((Int)⊕((Int)))
 | O =>
  if decide (O>0) then
   (P.idx U (IntKind.i64.wrap (O-1))).bind fun X =>
   if (X==0) then
    some (.inl (IntKind.i64.wrap (O-1)))
   else
    some (.inr O)
  else
   some (.inr O)
def er (U:(List Int)):Option ((List Int)) :=
 (ba (mH U) (U.length:Int)).bind fun O =>
 (wo U 0 O).bind fun X =>
 some X
def dm (U:Int) (X:(List Int)):Option (az) :=
 (er X).bind fun O =>
 if ((O.length:Int)==0) then
  some (az.mk 0 ([]))
 else
  some (az.mk U O)
def ua:(Int×(List Int))->Option ((Int×(List Int))⊕(((List Int))))
 | (O,U) =>
  if decide (O>0) then
   (kr 8 U [IntKind.i64.wrap (jQ .and .u64 O 1048575)]).bind fun Y =>
   (A2 .u64 O 20).bind fun X =>
   some (.inl (X,Y))
  else
   some (.inr U)
def qT (Y:Int):Option (az) :=
 (if decide (Y<0) then
  some ((-1),IntKind.u64.wrap (0-(IntKind.u64.wrap Y)))
 else
  some (1,IntKind.u64.wrap Y)).bind fun q=>match q with
 | (O,U) =>
  (ba (ua) (U,[])).bind fun X =>
  (dm O X).bind fun Z =>
  some Z
def iZ (O:Int):Option (aw) :=
 (qT O).bind fun U =>
 (qT 1).bind fun X =>
 some (aw.mk U X)
def nF (U:az):(Int)->Option ((Int)⊕((Unit)⊕(Bool)))
 | O =>
  if decide (O<(U.aa.length:Int)) then
   (P.idx U.aa O).bind fun X =>
   if decide (X<0) then
    some (.inr (.inr false))
   else
    if decide (X>1048575) then
     some (.inr (.inr false))
    else
     some (.inl (IntKind.i64.wrap (O+1)))
  else
   some (.inr (.inl ()))
def cO (O:az):Option (Bool) :=
 (ba (nF O) 0).bind fun q=>match q with
 | (.inl _) =>
  if ((O.aa.length:Int)==0) then
   some (O.ah==0)
  else
   if (O.ah==1) then
    (P.idx O.aa (IntKind.i64.wrap ((O.aa.length:Int)-1))).bind fun U =>
    some (U != 0)
   else
    if (O.ah==(-1)) then
     (P.idx O.aa (IntKind.i64.wrap ((O.aa.length:Int)-1))).bind fun X =>
     some (X != 0)
    else
     some false
 | (.inr Y) =>
  some Y
def ep (O:Bool) (U:az):Option (az×Int) :=
 if (!O) then
  some ((az.mk 0 ([])),1)
 else
  some (U,0)
def cT (O:(List Int)):Option (List Int):=kr 8 [] O
def nT (O:Int):Option (Bool) :=
 some (O != O)
def fW (O:Int) (p1:Int):Option (Int) :=
 (nT O).bind fun X =>
 (nT p1).bind fun U =>
 if X then
  if U then
   some 0
  else
   some (-1)
 else
  if U then
   some 1
  else
   if decide (O<p1) then
    some (-1)
   else
    if decide (O>p1) then
     some 1
    else
     some 0
def kW (Z:(List Int)) (p1:(List Int)):(Int)->Option ((Int)⊕((Unit)⊕(Int)))
 | O =>
  if decide (O>=0) then
   (P.idx Z O).bind fun U =>
   (P.idx p1 O).bind fun X =>
   if (U != X) then
    (fW U X).bind fun Y =>
    some (.inr (.inr Y))
   else
    some (.inl (IntKind.i64.wrap (O-1)))
  else
   some (.inr (.inl ()))
def fV (O:(List Int)) (U:(List Int)):Option (Int) :=
 if ((O.length:Int) != (U.length:Int)) then
  (fW (O.length:Int) (U.length:Int)).bind fun X =>
  some X
 else
  (ba (kW O U) (IntKind.i64.wrap ((O.length:Int)-1))).bind fun q=>match q with
  | (.inl _) =>
   some 0
  | (.inr Y) =>
   some Y
def nH (p0:(List Int)) (p1:Int):(Int×Int×(List Int))->Option ((Int×Int×(List Int))⊕((Int×(List Int))))
 | (X,O,U) =>
  if decide (O>=0) then
   (Fm .i64 X 20).bind fun Y =>
   (P.idx p0 O).bind fun Z =>
   (B9 .i64 (jQ .or .i64 Y Z) p1).bind fun aa =>
   (P.idx U O).bind fun ad =>
   (AQ .i64 (jQ .or .i64 Y Z) p1).bind fun ab =>
   some (.inl (ab,IntKind.i64.wrap (O-1),(U.set (O).toNat aa)))
  else
   some (.inr (X,U))
def lX (X:(List Int)) (Z:Int):Option ((List Int)×Int) :=
 (Hl 8 (X.length:Int) (X.length:Int) 0).bind fun x1 =>
 (ba (nH X Z) (0,IntKind.i64.wrap ((X.length:Int)-1),x1)).bind fun q=>match q with
 | (O,U) =>
  (er U).bind fun Y =>
  some (Y,O)
def qZ (p1:(List Int)) (U:Int) (Z:Int):(Int×Int×(List Int))->Option ((Int×Int×(List Int))⊕((Int×(List Int))))
 | (X,O,Y) =>
  if decide (O<(p1.length:Int)) then
   (P.idx p1 O).bind fun aa =>
   (P.idx Y (IntKind.i64.wrap (U+O))).bind fun ab =>
   (A2 .i64 (IntKind.i64.wrap ((IntKind.i64.wrap (ab+(IntKind.i64.wrap (Z*aa))))+X)) 20).bind fun ad =>
   some (.inl (ad,IntKind.i64.wrap (O+1),(Y.set (IntKind.i64.wrap (U+O)).toNat (jQ .and .i64 (IntKind.i64.wrap ((IntKind.i64.wrap (ab+(IntKind.i64.wrap (Z*aa))))+X)) 1048575))))
  else
   some (.inr (X,Y))
def qY (p0:(List Int)) (Z:(List Int)):(Int×(List Int))->Option ((Int×(List Int))⊕(((List Int))))
 | (O,X) =>
  if decide (O<(p0.length:Int)) then
   (P.idx p0 O).bind fun aa =>
   (ba (qZ Z O aa) (0,0,X)).bind fun q=>match q with
   | (Y,U) =>
    (P.idx U (IntKind.i64.wrap (O+(Z.length:Int)))).bind fun ab =>
    some (.inl (IntKind.i64.wrap (O+1),(U.set (IntKind.i64.wrap (O+(Z.length:Int))).toNat (IntKind.i64.wrap (ab+Y)))))
  else
   some (.inr X)
def nG (U:(List Int)) (X:(List Int)):Option ((List Int)) :=
 (Hl 8 (IntKind.i64.wrap ((U.length:Int)+(X.length:Int))) (IntKind.i64.wrap ((U.length:Int)+(X.length:Int))) 0).bind fun Z =>
 (ba (qY U X) (0,Z)).bind fun O =>
 (er O).bind fun Y =>
 some Y
def kd (p0:(List Int)) (p1:(List Int)) (p2:Int):(Int×Int×(List Int))->Option ((Int×Int×(List Int))⊕((Int×(List Int))))
 | (X,O,Y) =>
  if decide (O<((p0).length:Int)) then
   (P.idx Y O).bind fun Z =>
   (if decide (O<(p1.length:Int)) then
    (P.idx p1 O).bind fun aa =>
    some (IntKind.i64.wrap ((IntKind.i64.wrap (Z-X))-(IntKind.i64.wrap (p2*aa))))
   else
    some (IntKind.i64.wrap (Z-X))).bind fun U =>
   (A2 .i64 U 20).bind fun ab =>
   some (.inl (IntKind.i64.wrap (0-ab),IntKind.i64.wrap (O+1),(Y.set (O).toNat (jQ .and .i64 U 1048575))))
  else
   some (.inr (X,Y))
def ke (p1:(List Int)) (Z:(List Int)):(Int×Int×(List Int))->Option ((Int×Int×(List Int))⊕(((List Int))))
 | (X,O,Y) =>
  if decide (O<((Z).length:Int)) then
   (P.idx Y O).bind fun aa =>
   (if decide (O<(p1.length:Int)) then
    (P.idx p1 O).bind fun ab =>
    some (IntKind.i64.wrap ((IntKind.i64.wrap (X+aa))+ab))
   else
    some (IntKind.i64.wrap (X+aa))).bind fun U =>
   (A2 .i64 U 20).bind fun ad =>
   some (.inl (ad,IntKind.i64.wrap (O+1),(Y.set (O).toNat (jQ .and .i64 U 1048575))))
  else
   some (.inr Y)
def ot (Z:(List Int)) (p1:(List Int)) (Y:Int):Option ((List Int)×(Int)) :=
 (ba (kd Z p1 Y) (0,0,Z)).bind fun q=>match q with
 | (U,O) =>
  if (U==0) then
   some (O,Y)
  else
   (ba (ke p1 O) (0,0,O)).bind fun X =>
   some (X,IntKind.i64.wrap (Y-1))
def fL (O:(List Int)) (U:(List Int)) (X:Int):Option ((List Int)×(Int)):=(ot O U X).bind fun r=>if r.1.length=O.length then some r else none
theorem yL {O:(List Int)} {U:(List Int)} {X:Int} {r:(List Int)×(Int)} (h:fL O U X=some r):r.1.length=O.length:=by
 unfold fL at h;obtain⟨q,Y,h⟩:=ae h;split at h
 ·cases h;assumption
 ·cases h
def qV (X:(List Int)):(Int)->Option ((Int)⊕((Int)))
 | O =>
  (P.idx X (IntKind.i64.wrap ((X.length:Int)-1))).bind fun U =>
  if decide ((IntKind.i64.wrap (U*O))<524288) then
   some (.inl (IntKind.i64.wrap (O*2)))
  else
   some (.inr O)
def qX (Y:(List Int)) (Z:Int) (aa:(List Int)) (ab:Int):(Int×Int)->Option ((Int×Int)⊕((Int)))
 | (O,U) =>
  (if decide (O>=1048576) then
   some true
  else
   if decide (U<1048576) then
    (P.idx Y (IntKind.i64.wrap (((Y).length:Int)-2))).bind fun ad =>
    (Fm .i64 U 20).bind fun ae =>
    (P.idx aa (IntKind.i64.wrap ((IntKind.i64.wrap (Z+((Y).length:Int)))-2))).bind fun ag =>
    some (decide ((IntKind.i64.wrap (O*ad))>(jQ .or .i64 ae ag)))
   else
    some false).bind fun X =>
  if X then
   some (.inl (IntKind.i64.wrap (O-1),IntKind.i64.wrap (U+ab)))
  else
   some (.inr O)
def qW (U:(List Int)):(Int×(List Int)×(List Int))->Option ((Int×(List Int)×(List Int))⊕(((List Int)×(List Int))))
 | (O,X,Y) =>
  if decide (O>=0) then
   (P.idx X (IntKind.i64.wrap (O+((U).length:Int)))).bind fun ag =>
   (Fm .i64 ag 20).bind fun ab =>
   (P.idx X (IntKind.i64.wrap ((IntKind.i64.wrap (O+((U).length:Int)))-1))).bind fun ad =>
   (P.idx U (IntKind.i64.wrap (((U).length:Int)-1))).bind fun Z =>
   (B9 .i64 (jQ .or .i64 ab ad) Z).bind fun ah =>
   (AQ .i64 (jQ .or .i64 ab ad) Z).bind fun ai =>
   (ba (qX U O X Z) (ah,ai)).bind fun aa =>
   (wo X O (IntKind.i64.wrap ((IntKind.i64.wrap (O+((U).length:Int)))+1))).bind fun aj =>
   (fL aj U aa).bind fun ae =>
   (P.idx Y O).bind fun ak =>
   some (.inl (IntKind.i64.wrap (O-1),(X.take (O).toNat++(ae.1++X.drop (IntKind.i64.wrap ((IntKind.i64.wrap (O+((U).length:Int)))+1)).toNat)),(Y.set (O).toNat ae.2)))
  else
   some (.inr (X,Y))
def qU (p0:(List Int)) (p1:(List Int)):Option ((List Int)×(List Int)) :=
 (fV p0 p1).bind fun r1 =>
 if decide (r1<0) then
  (cT p0).bind fun r3 =>
  some ([],r3)
 else
  if ((p1.length:Int)==1) then
   (P.idx p1 0).bind fun x5 =>
   (lX p0 x5).bind fun r6 =>
   (er ([r6.2])).bind fun r8 =>
   some (r6.1,r8)
  else
   (ba (qV p1) 1).bind fun O =>
   (nG p0 ([O])).bind fun ad =>
   (kr 8 ad [0]).bind fun X =>
   (nG p1 ([O])).bind fun Y =>
   (if (((X).length:Int)==(p0.length:Int)) then
    (kr 8 X [0]).bind fun ae =>
    some ae
   else
    some X).bind fun U =>
   (Hl 8 (IntKind.i64.wrap (((U).length:Int)-((Y).length:Int))) (IntKind.i64.wrap (((U).length:Int)-((Y).length:Int))) 0).bind fun aa =>
   (ba (qW Y) (IntKind.i64.wrap (((aa).length:Int)-1),U,aa)).bind fun q=>match q with
   | (ab,Z) =>
    (er ab).bind fun ag =>
    (lX ag O).bind fun ah =>
    (er Z).bind fun ai =>
    some (ai,ah.1)
def oh:((List Int)×(List Int))->Option (((List Int)×(List Int))⊕(((List Int))))
 | (U,O) =>
  if decide ((O.length:Int)>0) then
   (qU U O).bind fun X =>
   some (.inl (O,X.2))
  else
   some (.inr U)
def pk (p0:az) (p1:az):Option (az×Int) :=
 (cO p0).bind fun r1 =>
 (if (!r1) then
  some true
 else
  (cO p1).bind fun Y =>
  some (!Y)).bind fun O =>
 if O then
  (ep false (az.mk 0 ([]))).bind fun r5 =>
  some (r5.1,r5.2)
 else
  (cT p0.aa).bind fun r6 =>
  (ba (oh) (r6,p1.aa)).bind fun U =>
  (cT U).bind fun Z =>
  (dm 1 Z).bind fun ab =>
  (ep true ab).bind fun X =>
  some (X.1,X.2)
def qS (p0:az):(Int×Int)->Option ((Int×Int)⊕((Int)⊕(Int×Bool)))
 | (X,O) =>
  if decide (O<(p0.aa.length:Int)) then
   (P.idx p0.aa O).bind fun Y =>
   (if (O==3) then
    some (decide (Y>8))
   else
    some false).bind fun U =>
   if U then
    some (.inr (.inr (0,false)))
   else
    (Fm .u64 (IntKind.u64.wrap Y) (IntKind.i64.wrap (20*O))).bind fun Z =>
    some (.inl (jQ .or .u64 X Z,IntKind.i64.wrap (O+1)))
  else
   some (.inr (.inl X))
def tY (Y:az):Option (Int×Bool) :=
 (cO Y).bind fun Z =>
 (if (!Z) then
  some true
 else
  some (decide ((Y.aa.length:Int)>4))).bind fun U =>
 if U then
  some (0,false)
 else
  (ba (qS Y) (0,0)).bind fun q=>match q with
  | (.inl O) =>
   (if decide (Y.ah<0) then
    some (decide (O<=9223372036854775808))
   else
    some false).bind fun X =>
   if X then
    some (IntKind.i64.wrap (IntKind.u64.wrap (0-O)),true)
   else
    if decide (Y.ah>=0) then
     if decide (O<9223372036854775808) then
      some (IntKind.i64.wrap O,true)
     else
      some (0,false)
    else
     some (0,false)
  | (.inr rb) =>
   some rb
def qn (U:az):Option (Bool) :=
 (tY U).bind fun O =>
 if O.2 then
  some (O.1==1)
 else
  some false
def dp (U:aw):Option (Bool) :=
 (cO U.cD).bind fun Y =>
 (if (!Y) then
  some true
 else
  (cO U.cw).bind fun Z =>
  if (!Z) then
   some true
  else
   some (U.cw.ah != 1)).bind fun O =>
 if O then
  some false
 else
  (pk U.cD U.cw).bind fun X =>
  if (X.2==0) then
   (qn X.1).bind fun r6 =>
   some r6
  else
   some false
def ib (O:aw):Option (Int) :=
 (dp O).bind fun U =>
 if (!U) then
  some 0
 else
  some O.cD.ah
def tZ (U:az) (X:az):Option (az×Int) :=
 (cO U).bind fun r1 =>
 (if (!r1) then
  some true
 else
  (cO X).bind fun Y =>
  some (!Y)).bind fun O =>
 if O then
  (ep false (az.mk 0 ([]))).bind fun Z =>
  some (Z.1,Z.2)
 else
  (nG U.aa X.aa).bind fun r6 =>
  (dm (IntKind.i64.wrap (U.ah*X.ah)) r6).bind fun r7 =>
  (ep true r7).bind fun r8 =>
  some (r8.1,r8.2)
def cQ (O:az) (U:az):Option (az) :=
 (tZ O U).bind fun X =>
 some X.1
def ud (U:(List Int)):(Int)->Option ((Int)⊕((Unit)⊕(Int)))
 | O =>
  if decide (O<(U.length:Int)) then
   (P.idx U O).bind fun X =>
   if (X != 0) then
    some (.inr (.inr X))
   else
    some (.inl (IntKind.i64.wrap (O+1)))
  else
   some (.inr (.inl ()))
def sI (O:(List Int)):Option (Int) :=
 (ba (ud O) 0).bind fun q=>match q with
 | (.inl _) =>
  some 0
 | (.inr U) =>
  some U
def oo (U:(List Int)) (X:(List Int)):(Int×Int×(List Int))->Option ((Int×Int×(List Int))⊕((Int×(List Int))))
 | (Z,O,aa) =>
  if decide (O<(U.length:Int)) then
   (P.idx U O).bind fun ab =>
   (if decide (O<(X.length:Int)) then
    (P.idx X O).bind fun ad =>
    some (IntKind.i64.wrap ((IntKind.i64.wrap (Z+ab))+ad))
   else
    some (IntKind.i64.wrap (Z+ab))).bind fun Y =>
   (P.idx aa O).bind fun ag =>
   (A2 .i64 Y 20).bind fun ae =>
   some (.inl (ae,IntKind.i64.wrap (O+1),(aa.set (O).toNat (jQ .and .i64 Y 1048575))))
  else
   some (.inr (Z,aa))
def pn (Z:(List Int)) (p1:(List Int)):Option ((List Int)) :=
 (if decide ((Z.length:Int)<(p1.length:Int)) then
  some (p1,Z)
 else
  some (Z,p1)).bind fun q=>match q with
 | (O,X) =>
  (Hl 8 (IntKind.i64.wrap ((O.length:Int)+1)) (IntKind.i64.wrap ((O.length:Int)+1)) 0).bind fun x2 =>
  (ba (oo O X) (0,0,x2)).bind fun q=>match q with
  | (Y,U) =>
   (P.idx U (O.length:Int)).bind fun ab =>
   (er (U.set ((O.length:Int)).toNat Y)).bind fun aa =>
   some aa
def q8 (p1:(List Int)) (r1:(List Int)):(Int×Int×(List Int))->Option ((Int×Int×(List Int))⊕(((List Int))))
 | (Y,O,X) =>
  if decide (O<((r1).length:Int)) then
   (P.idx X O).bind fun Z =>
   (if decide (O<(p1.length:Int)) then
    (P.idx p1 O).bind fun aa =>
    some (IntKind.i64.wrap ((IntKind.i64.wrap (Z-Y))-aa))
   else
    some (IntKind.i64.wrap (Z-Y))).bind fun U =>
   (A2 .i64 U 20).bind fun ab =>
   some (.inl (jQ .and .i64 ab 1,IntKind.i64.wrap (O+1),(X.set (O).toNat (jQ .and .i64 U 1048575))))
  else
   some (.inr X)
def po (Y:(List Int)) (Z:(List Int)):Option ((List Int)) :=
 (cT Y).bind fun X =>
 (ba (q8 Z X) (0,0,X)).bind fun O =>
 (er O).bind fun U =>
 some U
def tX (O:az) (U:az):Option (az×Int) :=
 (cO O).bind fun r1 =>
 (if (!r1) then
  some true
 else
  (cO U).bind fun ad =>
  some (!ad)).bind fun X =>
 if X then
  (ep false (az.mk 0 ([]))).bind fun r5 =>
  some (r5.1,r5.2)
 else
  if decide ((IntKind.i64.wrap (O.ah*U.ah))>=0) then
   (sI ([O.ah,U.ah])).bind fun r8 =>
   (pn O.aa U.aa).bind fun r9 =>
   (dm r8 r9).bind fun ae =>
   (ep true ae).bind fun Y =>
   some (Y.1,Y.2)
  else
   (fV O.aa U.aa).bind fun ag =>
   if decide (ag<0) then
    (po U.aa O.aa).bind fun ai =>
    (dm U.ah ai).bind fun aj =>
    (ep true aj).bind fun Z =>
    some (Z.1,Z.2)
   else
    (po O.aa U.aa).bind fun ak =>
    (dm O.ah ak).bind fun al =>
    (ep true al).bind fun ab =>
    some (ab.1,ab.2)
def nE (O:az):Option (az) :=
 (cO O).bind fun U =>
 if (!U) then
  some (az.mk 0 ([]))
 else
  (cT O.aa).bind fun X =>
  (dm (IntKind.i64.wrap (0-O.ah)) X).bind fun Y =>
  some Y
def nD (X:az) (O:az):Option (az×az×Int) :=
 (cO X).bind fun r1 =>
 (if (!r1) then
  some true
 else
  (cO O).bind fun ab =>
  some (!ab)).bind fun Y =>
 if Y then
  some ((az.mk 0 ([])),(az.mk 0 ([])),1)
 else
  if (O.ah==0) then
   some ((az.mk 0 ([])),(az.mk 0 ([])),15)
  else
   (qU X.aa O.aa).bind fun Z =>
   (if decide ((IntKind.i64.wrap (X.ah*O.ah))<0) then
    some (decide ((Z.2.length:Int)>0))
   else
    some false).bind fun U =>
   if U then
    (pn Z.1 ([1])).bind fun r9 =>
    (dm (-1) r9).bind fun ad =>
    (po O.aa Z.2).bind fun ae =>
    (dm O.ah ae).bind fun ag =>
    some (ad,ag,0)
   else
    (dm (IntKind.i64.wrap (X.ah*O.ah)) Z.1).bind fun ai =>
    (dm X.ah Z.2).bind fun aj =>
    some (ai,aj,0)
def mM (p0:az) (p1:az):Option (aw×Int) :=
 (cO p0).bind fun r1 =>
 (if (!r1) then
  some true
 else
  (cO p1).bind fun ae =>
  some (!ae)).bind fun Z =>
 if Z then
  some ((aw.mk (az.mk 0 ([])) (az.mk 0 ([]))),1)
 else
  if (p1.ah==0) then
   some ((aw.mk (az.mk 0 ([])) (az.mk 0 ([]))),15)
  else
   (if decide (p1.ah<0) then
    (nE p0).bind fun ab =>
    (nE p1).bind fun ad =>
    some (ab.ah,ab.aa,ad.ah,ad.aa)
   else
    some (p0.ah,p0.aa,p1.ah,p1.aa)).bind fun q=>match q with
   | (O,U,X,Y) =>
    (pk (az.mk O U) (az.mk X Y)).bind fun r6 =>
    (nD (az.mk O U) r6.1).bind fun r7 =>
    (nD (az.mk X Y) r6.1).bind fun r8 =>
    some ((aw.mk r7.1 r8.1),0)
def oJ (U:aw) (X:aw):Option (aw×Int) :=
 (dp U).bind fun r1 =>
 (if (!r1) then
  some true
 else
  (dp X).bind fun Y =>
  some (!Y)).bind fun O =>
 if O then
  some ((aw.mk (az.mk 0 ([])) (az.mk 0 ([]))),1)
 else
  (cQ U.cD X.cw).bind fun r4 =>
  (cQ X.cD U.cw).bind fun r5 =>
  (tX r4 r5).bind fun r6 =>
  (cQ U.cw X.cw).bind fun r7 =>
  (mM r6.1 r7).bind fun Z =>
  some (Z.1,Z.2)
def nO (O:aw) (U:aw):Option (aw) :=
 (oJ O U).bind fun X =>
 some X.1
def kF (U:az) (X:az):Option (Int) :=
 (cO U).bind fun Y =>
 (if (!Y) then
  some true
 else
  (cO X).bind fun Z =>
  some (!Z)).bind fun O =>
 if O then
  some 0
 else
  if (U.ah != X.ah) then
   (fW U.ah X.ah).bind fun r5 =>
   some r5
  else
   (fV U.aa X.aa).bind fun r6 =>
   some (IntKind.i64.wrap (U.ah*r6))
def iu (U:aw) (X:aw):Option (Int) :=
 (dp U).bind fun Y =>
 (if (!Y) then
  some true
 else
  (dp X).bind fun Z =>
  some (!Z)).bind fun O =>
 if O then
  some 0
 else
  (cQ U.cD X.cw).bind fun r4 =>
  (cQ X.cD U.cw).bind fun r5 =>
  (kF r4 r5).bind fun r6 =>
  some r6
def nP (p0:(List aw)):(Int×Int×(List Int)×Int×(List Int))->Option ((Int×Int×(List Int)×Int×(List Int))⊕((Int×(List Int)×Int×(List Int))⊕(Bool)))
 | (ab,O,U,X,Y) =>
  if decide (ab<(p0.length:Int)) then
   (P.idx p0 ab).bind fun ad =>
   (dp ad).bind fun ae =>
   if (!ae) then
    some (.inr (.inr false))
   else
    (ib ad).bind fun ag =>
    if decide (ag<0) then
     some (.inr (.inr false))
    else
     (nO (aw.mk (az.mk O U) (az.mk X Y)) ad).bind fun Z =>
     some (.inl (IntKind.i64.wrap (ab+1),Z.cD.ah,Z.cD.aa,Z.cw.ah,Z.cw.aa))
  else
   some (.inr (.inl (O,U,X,Y)))
def nX (p0:(List aw)):Option (Bool) :=
 (iZ 0).bind fun Z =>
 (ba (nP p0) (0,Z.cD.ah,Z.cD.aa,Z.cw.ah,Z.cw.aa)).bind fun q=>match q with
 | (.inl (O,U,X,Y)) =>
  (iZ 1).bind fun ab =>
  (iu (aw.mk (az.mk O U) (az.mk X Y)) ab).bind fun ad =>
  some (ad==0)
 | (.inr ra) =>
  some ra
def jD (X:fJ):(Int)->Option ((Int)⊕((Unit)⊕(Bool)))
 | O =>
  if decide (O<(X.aH.length:Int)) then
   (P.idx X.aH O).bind fun U =>
   (dM U.bu 0 3).bind fun Y =>
   if (!Y) then
    some (.inr (.inr false))
   else
    if decide (U.a7<0) then
     some (.inr (.inr false))
    else
     (P.idx X.aB O).bind fun Z =>
     if ((Z.length:Int) != (X.ak.length:Int)) then
      some (.inr (.inr false))
     else
      some (.inl (IntKind.i64.wrap (O+1)))
  else
   some (.inr (.inl ()))
def fZ (p0:fJ) (X:Int):(Int×(List aw))->Option ((Int×(List aw))⊕(((List aw))))
 | (O,U) =>
  if decide (O<(p0.aH.length:Int)) then
   (P.idx p0.aB O).bind fun Y =>
   (P.idx Y X).bind fun Z =>
   (P.idx U O).bind fun aa =>
   some (.inl (IntKind.i64.wrap (O+1),(U.set (O).toNat Z)))
  else
   some (.inr U)
def jE (U:fJ):(Int)->Option ((Int)⊕((Unit)⊕(Bool)))
 | O =>
  if decide (O<(U.ak.length:Int)) then
   (P.idx U.ak O).bind fun X =>
   (Hl 64 (U.aH.length:Int) (U.aH.length:Int) (aw.mk (az.mk 0 ([])) (az.mk 0 ([])))).bind fun Z =>
   (ba (fZ U O) (0,Z)).bind fun Y =>
   (dM X.bu 0 2).bind fun aa =>
   if (!aa) then
    some (.inr (.inr false))
   else
    if decide (X.a7<0) then
     some (.inr (.inr false))
    else
     (nX Y).bind fun ab =>
     if (!ab) then
      some (.inr (.inr false))
     else
      some (.inl (IntKind.i64.wrap (O+1)))
  else
   some (.inr (.inl ()))
def iF (U:fJ):Option (Bool) :=
 (if decide ((U.ak.length:Int)>100) then
  some true
 else
  if decide ((U.aH.length:Int)>100) then
   some true
  else
   some ((U.aB.length:Int) != (U.aH.length:Int))).bind fun O =>
 if O then
  some false
 else
  (ba (jD U) 0).bind fun q=>match q with
  | (.inl _) =>
   (ba (jE U) 0).bind fun q=>match q with
   | (.inl _) =>
    some true
   | (.inr rc) =>
    some rc
  | (.inr X) =>
   some X
def mf (O:gN) (U:Int):Option (Bool) :=
 (dM O.ck 0 (IntKind.i64.wrap (U-1))).bind fun X =>
 if (!X) then
  some true
 else
  (dM O.aL 1 1099511627776).bind fun Y =>
  some (!Y)
def mg (O:Int) (U:Int):Option (Bool) :=
 (dM O 0 (IntKind.i64.wrap (U-1))).bind fun X =>
 some (!X)
def mE (O:(List Int)):Option (List Int):=J4 O
def cy (O:(List Int)):Option (List Int):=Bm O
def lp (U:(List Int)):(Int)->Option ((Int)⊕((Unit)⊕(Bool)))
 | O =>
  if decide (O<((U).length:Int)) then
   (P.idx U O).bind fun X =>
   if (O != X) then
    some (.inr (.inr false))
   else
    some (.inl (IntKind.i64.wrap (O+1)))
  else
   some (.inr (.inl ()))
def jd (U:(List Int)) (X:Int):Option (Bool) :=
 (mE U).bind fun Y =>
 (cy Y).bind fun O =>
 (ba (lp O) 0).bind fun q=>match q with
 | (.inl _) =>
  some (((O).length:Int)==X)
 | (.inr Z) =>
  some Z
def cU (X:(List gN)) (U:Int):(Int)->Option ((Int)⊕((Unit)⊕(Int)))
 | O =>
  if decide (O<(X.length:Int)) then
   (P.idx X O).bind fun Y =>
   (mf Y U).bind fun Z =>
   if Z then
    some (.inr (.inr O))
   else
    some (.inl (IntKind.i64.wrap (O+1)))
  else
   some (.inr (.inl ()))
def cA (U:(List gN)) (O:Int):Option (Int) :=
 (ba (cU U O) 0).bind fun q=>match q with
 | (.inl _) =>
  some (-1)
 | (.inr X) =>
  some X
def bR (U:(List gN)) (O:Int):Option (Bool) :=
 (cA U O).bind fun X =>
 some (decide (X>=0))
def cV (X:(List Int)) (U:Int):(Int)->Option ((Int)⊕((Unit)⊕(Int)))
 | O =>
  if decide (O<(X.length:Int)) then
   (P.idx X O).bind fun Y =>
   (mg Y U).bind fun Z =>
   if Z then
    some (.inr (.inr O))
   else
    some (.inl (IntKind.i64.wrap (O+1)))
  else
   some (.inr (.inl ()))
def cB (U:(List Int)) (O:Int):Option (Int) :=
 (ba (cV U O) 0).bind fun q=>match q with
 | (.inl _) =>
  some (-1)
 | (.inr X) =>
  some X
def bS (U:(List Int)) (O:Int):Option (Bool) :=
 (cB U O).bind fun X =>
 some (decide (X>=0))
def kK (Z:bV):(Int×(List Int))->Option ((Int×(List Int))⊕(((List Int))))
 | (O,U) =>
  if decide (O<(Z.au.ak.length:Int)) then
   (P.idx Z.au.ak O).bind fun X =>
   if (X.bu==1) then
    (kr 8 U [X.a7]).bind fun Y =>
    some (.inl (IntKind.i64.wrap (O+1),Y))
   else
    some (.inl (IntKind.i64.wrap (O+1),U))
  else
   some (.inr U)
def kL (Z:bV):(Int×(List Int))->Option ((Int×(List Int))⊕(((List Int))))
 | (O,U) =>
  if decide (O<(Z.au.aH.length:Int)) then
   (P.idx Z.au.aH O).bind fun X =>
   if (X.bu==0) then
    (kr 8 U [X.a7]).bind fun Y =>
    some (.inl (IntKind.i64.wrap (O+1),Y))
   else
    some (.inl (IntKind.i64.wrap (O+1),U))
  else
   some (.inr U)
def qt (O:bV) (p1:Int):Option (Bool) :=
 (iF O.au).bind fun r1 =>
 if (!r1) then
  some false
 else
  (ba (kK O) (0,[])).bind fun U =>
  (ba (kL O) (0,[])).bind fun X =>
  (jd U (O.aZ.length:Int)).bind fun Y =>
  if Y then
   (jd X (O.aA.length:Int)).bind fun Z =>
   if Z then
    (bR O.aZ p1).bind fun aa =>
    if (!aa) then
     (bS O.aA p1).bind fun ab =>
     some (!ab)
    else
     some false
   else
    some false
  else
   some false
def ju (X:bA):(Int)->Option ((Int)⊕((Unit)⊕(Int×Int)))
 | O =>
  if decide (O<(X.ax.length:Int)) then
   (P.idx X.ax O).bind fun Y =>
   (dM Y 1 1099511627776).bind fun U =>
   if (!U) then
    some (.inr (.inr (3,O)))
   else
    some (.inl (IntKind.i64.wrap (O+1)))
  else
   some (.inr (.inl ()))
def jv (X:bV):(Int×(List Int))->Option ((Int×(List Int))⊕(((List Int))))
 | (O,U) =>
  if decide (O<(X.aA.length:Int)) then
   (P.idx X.aA O).bind fun Y =>
   (P.idx U Y).bind fun Z =>
   some (.inl (IntKind.i64.wrap (O+1),(U.set (Y).toNat (IntKind.i64.wrap (Z+1)))))
  else
   some (.inr U)
def jw (Y:bV):(Int×(List Int))->Option ((Int×(List Int))⊕(((List Int))))
 | (O,X) =>
  if decide (O<(Y.aZ.length:Int)) then
   (P.idx Y.aZ O).bind fun U =>
   (P.idx X U.ck).bind fun Z =>
   some (.inl (IntKind.i64.wrap (O+1),(X.set (U.ck).toNat (if 1099511627777<(IntKind.i64.wrap (Z+U.aL)) then 1099511627777 else IntKind.i64.wrap (Z+U.aL)))))
  else
   some (.inr X)
def iy (p0:bA):(Int×(List Int)×(List Int))->Option ((Int×(List Int)×(List Int))⊕(((List Int)×(List Int))⊕(Int×Int)))
 | (O,X,Y) =>
  if decide (O<(p0.ao.length:Int)) then
   (P.idx p0.ao O).bind fun U =>
   (qt U (p0.ax.length:Int)).bind fun ab =>
   if (!ab) then
    some (.inr (.inr (1,O)))
   else
    (ba (jv U) (0,X)).bind fun Z =>
    (ba (jw U) (0,Y)).bind fun aa =>
    some (.inl (IntKind.i64.wrap (O+1),Z,aa))
  else
   some (.inr (.inl (X,Y)))
def jx (U:(List Int)):(Int)->Option ((Int)⊕((Unit)⊕(Int×Int)))
 | O =>
  if decide (O<((U).length:Int)) then
   (P.idx U O).bind fun X =>
   if (X==0) then
    some (.inr (.inr (21,O)))
   else
    if decide (X>1) then
     some (.inr (.inr (5,O)))
    else
     some (.inl (IntKind.i64.wrap (O+1)))
  else
   some (.inr (.inl ()))
def jy (Y:bA) (U:(List Int)):(Int)->Option ((Int)⊕((Unit)⊕(Int×Int)))
 | O =>
  if decide (O<((U).length:Int)) then
   (P.idx U O).bind fun X =>
   (P.idx Y.ax O).bind fun x76 =>
   if decide (X>x76) then
    some (.inr (.inr (25,O)))
   else
    some (.inl (IntKind.i64.wrap (O+1)))
  else
   some (.inr (.inl ()))
def jt (O:bA):Option (Int×Int) :=
 (if decide ((O.ax.length:Int)>2000) then
  some true
 else
  some (decide ((O.ao.length:Int)>400))).bind fun U =>
 if U then
  some (6,0)
 else
  (ba (ju O) 0).bind fun q=>match q with
  | (.inl _) =>
   (Hl 8 (O.ax.length:Int) (O.ax.length:Int) 0).bind fun X =>
   (ba (iy O) (0,X,X)).bind fun q=>match q with
   | (.inl (Y,Z)) =>
    (ba (jx Y) 0).bind fun q=>match q with
    | (.inl _) =>
     (ba (jy O Z) 0).bind fun q=>match q with
     | (.inl _) =>
      some (0,0)
     | (.inr ri) =>
      some ri
    | (.inr rh) =>
     some rh
   | (.inr rc) =>
    some rc
  | (.inr rb) =>
   some rb
def uo (U:Int) (X:Int):Option (aw×Int) :=
 (qT U).bind fun Y =>
 (qT X).bind fun Z =>
 (mM Y Z).bind fun O =>
 some (O.1,O.2)
def ql (U:aw) (X:aw):Option (aw×Int) :=
 (dp U).bind fun Z =>
 (if (!Z) then
  some true
 else
  (dp X).bind fun r8 =>
  some (!r8)).bind fun O =>
 if O then
  some ((aw.mk (az.mk 0 ([])) (az.mk 0 ([]))),1)
 else
  (cQ U.cD X.cD).bind fun r4 =>
  (cQ U.cw X.cw).bind fun r5 =>
  (mM r4 r5).bind fun Y =>
  some (Y.1,Y.2)
def fY (p2:bV) (Z:Int) (X:gN) (ae:aw×Int):(Int×(List ((Int×Int)×aw)))->Option ((Int×(List ((Int×Int)×aw)))⊕(((List ((Int×Int)×aw)))))
 | (O,U) =>
  if decide (O<(p2.au.aH.length:Int)) then
   (P.idx p2.au.aH O).bind fun ab =>
   (if (ab.bu != 0) then
    some true
   else
    (P.idx p2.au.aB O).bind fun ag =>
    (P.idx ag Z).bind fun ah =>
    (ib ah).bind fun ai =>
    some (ai==0)).bind fun aa =>
   if aa then
    some (.inl (IntKind.i64.wrap (O+1),U))
   else
    (P.idx p2.aA ab.a7).bind fun Y =>
    (P.idx p2.au.aB O).bind fun aj =>
    (P.idx aj Z).bind fun ak =>
    (ql ae.1 ak).bind fun ad =>
    if kR U (X.ck,Y) then
     (nO (aw.mk ((ff (aw.mk (az.mk 0 ([])) (az.mk 0 ([]))) U (X.ck,Y)).cD) ((ff (aw.mk (az.mk 0 ([])) (az.mk 0 ([]))) U (X.ck,Y)).cw)) ad.1).bind fun al =>
     some (.inl (IntKind.i64.wrap (O+1),(oT U (X.ck,Y) al)))
    else
     some (.inl (IntKind.i64.wrap (O+1),(oT U (X.ck,Y) ad.1)))
  else
   some (.inr U)
def ic (p1:(List Int)) (p2:bV):(Int×(List ((Int×Int)×aw)))->Option ((Int×(List ((Int×Int)×aw)))⊕(((List ((Int×Int)×aw)))))
 | (O,U) =>
  if decide (O<(p2.au.ak.length:Int)) then
   (P.idx p2.au.ak O).bind fun Y =>
   if (Y.bu != 1) then
    some (.inl (IntKind.i64.wrap (O+1),U))
   else
    (P.idx p2.aZ Y.a7).bind fun X =>
    (P.idx p1 X.ck).bind fun aa =>
    (uo X.aL aa).bind fun ab =>
    (ba (fY p2 O X ab) (0,U)).bind fun Z =>
    some (.inl (IntKind.i64.wrap (O+1),Z))
  else
   some (.inr U)
def gR (U:(List ((Int×Int)×aw))) (X:(List Int)) (Y:bV):Option ((List ((Int×Int)×aw))×(Unit)) :=
 (ba (ic X Y) (0,U)).bind fun O =>
 some (O,())
def me (O:bG) (U:bG):Option (Int) :=
 (fW O.ct U.ct).bind fun X =>
 (fW O.iO U.iO).bind fun Y =>
 (sI ([X,Y])).bind fun Z =>
 some Z
def Bc (p:Int) (m:List ((Int×Int)×aw)):Option (eM×Int) :=
 if m.length<=8000∧(m.map (·.1)).Nodup then some (eM.mk p (np (iT bG.ct bG.iO) (m.map fun q=>bG.mk q.1.1 q.1.2 q.2)),0) else none
def nW (X:bA):(Int×(List ((Int×Int)×aw)))->Option ((Int×(List ((Int×Int)×aw)))⊕(((List ((Int×Int)×aw)))))
 | (O,U) =>
  if decide (O<(X.ao.length:Int)) then
   (P.idx X.ao O).bind fun Z =>
   (gR U X.ax Z).bind fun Y =>
   some (.inl (IntKind.i64.wrap (O+1),Y.1))
  else
   some (.inr U)
def rA (U:bA):Option (eM×Int) :=
 (jt U).bind fun X =>
 if (X.1 != 0) then
  some ((eM.mk 0 ([])),X.1)
 else
  (ba (nW U) (0,([]:(List ((Int×Int)×aw))))).bind fun O =>
  if decide ((O.length:Int)>8000) then
   some ((eM.mk 0 ([])),6)
  else
   Bc (U.ax.length:Int) O
def lx (X:az) (Y:az):(Int)->Option ((Int)⊕((Unit)⊕(Bool)))
 | O =>
  if decide (O<(X.aa.length:Int)) then
   (P.idx X.aa O).bind fun Z =>
   (P.idx Y.aa O).bind fun U =>
   if (Z != U) then
    some (.inr (.inr false))
   else
    some (.inl (IntKind.i64.wrap (O+1)))
  else
   some (.inr (.inl ()))
def jh (U:az) (X:az):Option (Bool) :=
 (if (U.ah != X.ah) then
  some true
 else
  some ((U.aa.length:Int) != (X.aa.length:Int))).bind fun O =>
 if O then
  some false
 else
  (ba (lx U X) 0).bind fun q=>match q with
  | (.inl _) =>
   some true
  | (.inr Y) =>
   some Y
def lv (O:aw) (U:aw):Option (Bool) :=
 (jh O.cD U.cD).bind fun X =>
 if X then
  (jh O.cw U.cw).bind fun Y =>
  some Y
 else
  some false
def pH (Z:eM) (p1:eM):(Int)->Option ((Int)⊕((Unit)⊕(Bool)))
 | O =>
  if decide (O<(Z.aN.length:Int)) then
   (P.idx Z.aN O).bind fun U =>
   (P.idx p1.aN O).bind fun X =>
   if (U.ct != X.ct) then
    some (.inr (.inr false))
   else
    if (U.iO != X.iO) then
     some (.inr (.inr false))
    else
     (lv U.eB X.eB).bind fun Y =>
     if (!Y) then
      some (.inr (.inr false))
     else
      some (.inl (IntKind.i64.wrap (O+1)))
  else
   some (.inr (.inl ()))
def j0 (U:eM) (X:eM):Option (Bool) :=
 (if (U.aA != X.aA) then
  some true
 else
  some ((U.aN.length:Int) != (X.aN.length:Int))).bind fun O =>
 if O then
  some false
 else
  (ba (pH U X) 0).bind fun q=>match q with
  | (.inl _) =>
   some true
  | (.inr Y) =>
   some Y
def qm (X:aw) (U:aw):Option (aw×Int) :=
 (dp X).bind fun Z =>
 (if (!Z) then
  some true
 else
  (dp U).bind fun r7 =>
  some (!r7)).bind fun O =>
 if O then
  some ((aw.mk (az.mk 0 ([])) (az.mk 0 ([]))),1)
 else
  (nE U.cD).bind fun r4 =>
  (oJ X (aw.mk r4 U.cw)).bind fun Y =>
  some (Y.1,Y.2)
def ll (X:(List aw)):(Int×(List aw))->Option ((Int×(List aw))⊕(((List aw))))
 | (O,U) =>
  if decide (O<((X).length:Int)) then
   (iZ 1).bind fun Y =>
   (P.idx U O).bind fun Z =>
   some (.inl (IntKind.i64.wrap (O+1),(U.set (O).toNat Y)))
  else
   some (.inr U)
def ln (p0:eM):(Int×(List aw))->Option ((Int×(List aw))⊕(((List aw))))
 | (O,U) =>
  if decide (O<(p0.aN.length:Int)) then
   (P.idx p0.aN O).bind fun X =>
   (P.idx U X.ct).bind fun Y =>
   (qm Y X.eB).bind fun Z =>
   some (.inl (IntKind.i64.wrap (O+1),(U.set (X.ct).toNat Z.1)))
  else
   some (.inr U)
def kM (X:eM):Option ((List aw)) :=
 (Hl 64 X.aA X.aA (aw.mk (az.mk 0 ([])) (az.mk 0 ([])))).bind fun Y =>
 (ba (ll Y) (0,Y)).bind fun O =>
 (ba (ln X) (0,O)).bind fun U =>
 some U
def mS (O:aw):Option (Bool) :=
 (ib O).bind fun U =>
 some (decide (U<0))
def dz (U:(List aw)):(Int)->Option ((Int)⊕((Unit)⊕(Int)))
 | O =>
  if decide (O<(U.length:Int)) then
   (P.idx U O).bind fun X =>
   (mS X).bind fun Y =>
   if Y then
    some (.inr (.inr O))
   else
    some (.inl (IntKind.i64.wrap (O+1)))
  else
   some (.inr (.inl ()))
def cY (O:(List aw)):Option (Int) :=
 (ba (dz O) 0).bind fun q=>match q with
 | (.inl _) =>
  some (-1)
 | (.inr U) =>
  some U
def b8 (O:(List aw)):Option (Bool) :=
 (cY O).bind fun U =>
 some (decide (U>=0))
def lk (Y:eM):(Int)->Option ((Int)⊕((Unit)⊕(Bool)))
 | O =>
  if decide (O<(Y.aN.length:Int)) then
   (P.idx Y.aN O).bind fun U =>
   (dM U.ct 0 (IntKind.i64.wrap (Y.aA-1))).bind fun Z =>
   (if (!Z) then
    some true
   else
    (dM U.iO 0 (IntKind.i64.wrap (Y.aA-1))).bind fun aa =>
    if (!aa) then
     some true
    else
     (dp U.eB).bind fun ab =>
     if (!ab) then
      some true
     else
      (ib U.eB).bind fun ad =>
      some (decide (ad<=0))).bind fun X =>
   if X then
    some (.inr (.inr false))
   else
    if decide (O>0) then
     (P.idx Y.aN (IntKind.i64.wrap (O-1))).bind fun ae =>
     (me ae U).bind fun ag =>
     if decide (ag>=0) then
      some (.inr (.inr false))
     else
      some (.inl (IntKind.i64.wrap (O+1)))
    else
     some (.inl (IntKind.i64.wrap (O+1)))
  else
   some (.inr (.inl ()))
def kJ (U:eM):Option (Bool) :=
 (dM U.aA 0 2000).bind fun Z =>
 (if (!Z) then
  some true
 else
  some (decide ((U.aN.length:Int)>8000))).bind fun O =>
 if O then
  some false
 else
  (ba (lk U) 0).bind fun q=>match q with
  | (.inl _) =>
   (kM U).bind fun X =>
   (b8 X).bind fun Y =>
   some (!Y)
  | (.inr rb) =>
   some rb
def jz (p0:eM):(Int×(List (List Int)))->Option ((Int×(List (List Int)))⊕(((List (List Int)))))
 | (O,U) =>
  if decide (O<(p0.aN.length:Int)) then
   (P.idx p0.aN O).bind fun X =>
   (P.idx U X.iO).bind fun Y =>
   (kr 8 Y [X.ct]).bind fun Z =>
   some (.inl (IntKind.i64.wrap (O+1),(U.set (X.iO).toNat Z)))
  else
   some (.inr U)
def jA (Y:(List aw)):(Int×(List Int)×(List Int))->Option ((Int×(List Int)×(List Int))⊕(((List Int)×(List Int))))
 | (O,U,X) =>
  if decide (O<(Y.length:Int)) then
   (P.idx Y O).bind fun Z =>
   (P.idx U O).bind fun ad =>
   (ib Z).bind fun aa =>
   if decide (aa>0) then
    (P.idx (U.set (O).toNat (-1)) O).bind fun ae =>
    (kr 8 X [O]).bind fun ab =>
    some (.inl (IntKind.i64.wrap (O+1),((U.set (O).toNat (-1)).set (O).toNat 0),ab))
   else
    some (.inl (IntKind.i64.wrap (O+1),(U.set (O).toNat (-1)),X))
  else
   some (.inr (U,X))
def jC (aa:Int) (Z:(List Int)):(Int×(List Int)×(List Int))->Option ((Int×(List Int)×(List Int))⊕(((List Int)×(List Int))))
 | (O,U,X) =>
  if decide (O<((Z).length:Int)) then
   (P.idx Z O).bind fun Y =>
   (P.idx U Y).bind fun ab =>
   if (ab==(-1)) then
    (P.idx U aa).bind fun ad =>
    (kr 8 X [Y]).bind fun ae =>
    some (.inl (IntKind.i64.wrap (O+1),(U.set (Y).toNat (IntKind.i64.wrap (ad+1))),ae))
   else
    some (.inl (IntKind.i64.wrap (O+1),U,X))
  else
   some (.inr (U,X))
def jB (U:(List (List Int))):((List Int)×(List Int))->Option (((List Int)×(List Int))⊕(((List Int))))
 | (X,O) =>
  if decide (((O).length:Int)>0) then
   (P.idx O 0).bind fun Y =>
   (wo O 1 (O.length:Int)).bind fun ab =>
   (P.idx U Y).bind fun ad =>
   (ba (jC Y ad) (0,X,ab)).bind fun q=>match q with
   | (Z,aa) =>
    some (.inl (Z,aa))
  else
   some (.inr X)
def fD (O:eM):Option ((List Int)) :=
 (kJ O).bind fun r1 =>
 if (!r1) then
  some ([])
 else
  (Hl 24 O.aA O.aA ([])).bind fun x3 =>
  (ba (jz O) (0,x3)).bind fun U =>
  (Hl 8 O.aA O.aA 0).bind fun aa =>
  (kM O).bind fun ab =>
  (ba (jA ab) (0,aa,[])).bind fun q=>match q with
  | (X,Y) =>
   (ba (jB U) (X,Y)).bind fun Z =>
   some Z
def kl (U:(List Int)) (X:(List Int)):(Int)->Option ((Int)⊕((Unit)⊕(Bool)))
 | O =>
  if decide (O<(U.length:Int)) then
   (P.idx U O).bind fun Y =>
   (P.idx X O).bind fun Z =>
   if (Y != Z) then
    some (.inr (.inr false))
   else
    some (.inl (IntKind.i64.wrap (O+1)))
  else
   some (.inr (.inl ()))
def fm (O:(List Int)) (U:(List Int)):Option (Bool) :=
 if ((O.length:Int) != (U.length:Int)) then
  some false
 else
  (ba (kl O U) 0).bind fun q=>match q with
  | (.inl _) =>
   some true
  | (.inr X) =>
   some X
def xo (O:eM) (U:Int):Option (aw) :=
 (kJ O).bind fun X =>
 if (!X) then
  some (aw.mk (az.mk 0 ([])) (az.mk 0 ([])))
 else
  (dM U 0 (IntKind.i64.wrap (O.aA-1))).bind fun Y =>
  if (!Y) then
   some (aw.mk (az.mk 0 ([])) (az.mk 0 ([])))
  else
   (kM O).bind fun Z =>
   (P.idx Z U).bind fun x6 =>
   some x6
def tr (Y:(List Int)):(Int×(List Int))->Option ((Int×(List Int))⊕(((List Int))))
 | (O,U) =>
  if decide (O<(Y.length:Int)) then
   (P.idx Y O).bind fun Z =>
   if (Z==(-1)) then
    (kr 8 U [O]).bind fun X =>
    some (.inl (IntKind.i64.wrap (O+1),X))
   else
    some (.inl (IntKind.i64.wrap (O+1),U))
  else
   some (.inr U)
def pB (U:eM):Option ((List Int)) :=
 (fD U).bind fun X =>
 (ba (tr X) (0,[])).bind fun O =>
 some O
def tl:Option (Bool) :=
 (xi).bind fun U =>
 (kH 5 U).bind fun r2 =>
 (rA r2).bind fun Y =>
 (if (Y.2 != 0) then
  some true
 else
  (j0 Y.1 (eM.mk 2 ([(bG.mk 0 1 U),(bG.mk 1 0 U)]))).bind fun aa =>
  if (!aa) then
   some true
  else
   (fD Y.1).bind fun ab =>
   (fm ab ([0,0])).bind fun ad =>
   if (!ad) then
    some true
   else
    (xo Y.1 1).bind fun ae =>
    (lv ae U).bind fun ag =>
    some (!ag)).bind fun O =>
 if O then
  some false
 else
  (xD 1).bind fun r6 =>
  (kH 10 r6).bind fun r7 =>
  (rA r7).bind fun Z =>
  (kH 11 U).bind fun r9 =>
  (jt r9).bind fun X =>
  if (Z.2==0) then
   (fD Z.1).bind fun ah =>
   (fm ah ([(-1),(-1)])).bind fun ai =>
   if ai then
    (pB Z.1).bind fun aj =>
    (fm aj ([0,1])).bind fun ak =>
    if ak then
     if (X.1==25) then
      if (X.2==1) then
       (kJ Z.1).bind fun al =>
       some al
      else
       some false
     else
      some false
    else
     some false
   else
    some false
  else
   some false
def uA (O:aw) (U:Int):Option (Bool) :=
 if decide ((O.cD.aa.length:Int)<=U) then
  some (decide ((O.cw.aa.length:Int)<=U))
 else
  some false
def dX (U:(List aw)):(Int)->Option ((Int)⊕((Unit)⊕(Bool)))
 | O =>
  if decide (O<(U.length:Int)) then
   (P.idx U O).bind fun X =>
   (uA X 4).bind fun Y =>
   if (!Y) then
    some (.inr (.inr false))
   else
    some (.inl (IntKind.i64.wrap (O+1)))
  else
   some (.inr (.inl ()))
def ly (X:fJ):(Int)->Option ((Int)⊕((Unit)⊕(Bool)))
 | O =>
  if decide (O<(X.aB.length:Int)) then
   (P.idx X.aB O).bind fun U =>
   if decide ((U.length:Int)>8) then
    some (.inr (.inr false))
   else
    (ba (dX U) 0).bind fun q=>match q with
    | (.inl _) =>
     some (.inl (IntKind.i64.wrap (O+1)))
    | (.inr rd) =>
     some (.inr (.inr rd))
  else
   some (.inr (.inl ()))
def ji (U:fJ):Option (Bool) :=
 (if decide ((U.ak.length:Int)>5) then
  some true
 else
  if decide ((U.aH.length:Int)>5) then
   some true
  else
   some (decide ((U.aB.length:Int)>8))).bind fun O =>
 if O then
  some false
 else
  (ba (ly U) 0).bind fun q=>match q with
  | (.inl _) =>
   some true
  | (.inr X) =>
   some X
def rI (Y:bA):(Int)->Option ((Int)⊕((Unit)⊕(Bool)))
 | O =>
  if decide (O<(Y.ao.length:Int)) then
   (P.idx Y.ao O).bind fun U =>
   (ji U.au).bind fun X =>
   if (!X) then
    some (.inr (.inr false))
   else
    if decide ((U.aZ.length:Int)>6) then
     some (.inr (.inr false))
    else
     if decide ((U.aA.length:Int)>6) then
      some (.inr (.inr false))
     else
      some (.inl (IntKind.i64.wrap (O+1)))
  else
   some (.inr (.inl ()))
def uB (U:bA):Option (Bool) :=
 (if decide ((U.ax.length:Int)>6) then
  some true
 else
  some (decide ((U.ao.length:Int)>5))).bind fun O =>
 if O then
  some false
 else
  (ba (rI U) 0).bind fun q=>match q with
  | (.inl _) =>
   some true
  | (.inr X) =>
   some X
def iw (U:bA) (p1:Int):Option (Bool) :=
 (tl).bind fun r1 =>
 (uB U).bind fun r2 =>
 (if (!r2) then
  some true
 else
  some ((U.ao.length:Int)==0)).bind fun X =>
 if X then
  some r1
 else
  (AQ .i64 (IntKind.i64.wrap p1) (U.ao.length:Int)).bind fun x5 =>
  (wo U.ao x5 (U.ao.length:Int)).bind fun x7 =>
  (kr 120 [] x7).bind fun _ =>
  (wo U.ao 0 x5).bind fun ad =>
  (kr 120 x7 ad).bind fun aa =>
  (rA U).bind fun O =>
  (rA (bA.mk U.ax aa)).bind fun Y =>
  (jt (bA.mk U.ax aa)).bind fun ab =>
  (if (O.2 != Y.2) then
   some true
  else
   if (O.2 != ab.1) then
    some true
   else
    (j0 O.1 Y.1).bind fun ae =>
    if (!ae) then
     some true
    else
     (fD O.1).bind fun ag =>
     (fD Y.1).bind fun ah =>
     (fm ag ah).bind fun ai =>
     some (!ai)).bind fun Z =>
  if Z then
   some false
  else
   (jt U).bind fun aj =>
   if r1 then
    if (O.2==1) then
     some true
    else
     some (ab.2==aj.2)
   else
    some false
end Go.Proofs.YtoioidmblipblaaGreat.P
namespace Go.Proofs.YtoioidmblipblaaGreat.Am
open Go.RowKit Go.Proofs.YtoioidmblipblaaGreat.P
set_option maxRecDepth 100000
set_option maxHeartbeats 4000000
theorem bT.gJ {P:Program} {T:Nat->Option Ty} {Γ:Env} (U:gW P T) (X:bF P Γ) (hm:P.follows .mixedOrders=true) {α β:Type} {A:iU α} {F:α->Option β} {R:β->RK} {mode:Mode} {f:FuncId} {fn:Func} {G:Option (D×Row)->List D->Option (RK×Option Row)} (Y:P.funcs[f]? = some fn)
  (O:((match fn.body with|some c=>codeOk c|none=>true)&&(!(fn.name == "runtime.NumGoroutine") && !fn.body.isNone))=true) (hG:∀l d,G l d=dP A F R l d) (Z:∀a,Nat.ble (A.ds a).length fn.ntmps=true) (h:∀a r,F a=some r->jO mode T Γ FU fn none (A.ds a)=some (R r,none)):bT P f G:=by
 have e:G=dP A F R:=funext fun l=>funext fun d=>hG l d;subst e;exact bT.ofB U X hm Y O Z h
theorem vmt:type_of% (ai @abu<|ai @TR<|ai @abv<|ai @YG<|ai @YR<|ai @Yx<|ai @Yy<|ai @JT<|ai @QN<|ai @Yz<|ai @JU<|ai @YA<|ai @YB<|ai @YC<|ai @YD<|ai @YE<|ai @QO<|ai @YF<|ai @JV<|ai @QP<|ai @QQ<|ai @QR<|ai @YH<|ai @QS<|ai @QT<|ai @YI<|ai @JW<|ai @YJ<|ai @JX<|ai @YK<|ai @YL<|ai @YM<|ai @YN<|ai @YO<|ai @YP<|ai @JY<|ai @YQ<|ai @YS<|ai @JZ<|ai @YT<|ai @J0<|ai @TM<|ai @TN<|ai @TO<|ai @TP<|@TQ):=⟨@abu,@TR,@abv,@YG,@YR,@Yx,@Yy,@JT,@QN,@Yz,@JU,@YA,@YB,@YC,@YD,@YE,@QO,@YF,@JV,@QP,@QQ,@QR,@YH,@QS,@QT,@YI,@JW,@YJ,@JX,@YK,@YL,@YM,@YN,@YO,@YP,@JY,@YQ,@YS,@JZ,@YT,@J0,@TM,@TN,@TO,@TP,@TQ⟩
def dB:iM az:=AI (lF (eI .i64) (jM (eI .i64))) (fun x=>(x.ah,x.aa)) (by rintro⟨⟩ ⟨⟩ h;simpa using h)
theorem zH (x:az):dB.cells x=[.int .i64 x.ah,.sl false false x.aa.length (ab (eI .i64) x.aa)]:=aiw
theorem Cr:dB.size=2:=aiw
theorem LM (x:az):az.mk x.ah x.aa=x:=aiw
def aD:iM aw:=AI (lF dB dB) (fun x=>(x.cD,x.cw)) (by rintro⟨⟩ ⟨⟩ h;simpa using h)
theorem w7 (x:aw):aD.cells x=[.int .i64 x.cD.ah,.sl false false x.cD.aa.length (ab (eI .i64) x.cD.aa),.int .i64 x.cw.ah,.sl false false x.cw.aa.length (ab (eI .i64) x.cw.aa)]:=aiw
theorem zJ:aD.size=4:=aiw
theorem GM (x:aw):aw.mk x.cD x.cw=x:=aiw
def fe:iM gN:=AI (lF (eI .i64) (eI .i64)) (fun x=>(x.ck,x.aL)) (by rintro⟨⟩ ⟨⟩ h;simpa using h)
theorem zN (x:gN):fe.cells x=[.int .i64 x.ck,.int .i64 x.aL]:=aiw
theorem Cu:fe.size=2:=aiw
theorem LP (x:gN):gN.mk x.ck x.aL=x:=aiw
def bD:iM bG:=AI (lF (eI .i64) (lF (eI .i64) aD)) (fun x=>(x.ct,x.iO,x.eB)) (by rintro⟨⟩ ⟨⟩ h;simpa using h)
theorem nI (x:bG):bD.cells x=[.int .i64 x.ct,.int .i64 x.iO,.int .i64 x.eB.cD.ah,.sl false false x.eB.cD.aa.length (ab (eI .i64) x.eB.cD.aa),.int .i64 x.eB.cw.ah,.sl false false x.eB.cw.aa.length (ab (eI .i64) x.eB.cw.aa)]:=aiw
theorem sR:bD.size=6:=aiw
theorem GO (x:bG):bG.mk x.ct x.iO x.eB=x:=aiw
def qg:iM eM:=AI (lF (eI .i64) (jM bD)) (fun x=>(x.aA,x.aN)) (by rintro⟨⟩ ⟨⟩ h;simpa using h)
theorem zL (x:eM):qg.cells x=[.int .i64 x.aA,.sl false false x.aN.length (ab bD x.aN)]:=aiw
theorem Cs:qg.size=2:=aiw
theorem LN (x:eM):eM.mk x.aA x.aN=x:=aiw
def W4:iM RE:=AI (lF (eI .i64) (eI .i64)) (fun x=>(x.PM,x.abQ)) (by rintro⟨⟩ ⟨⟩ h;simpa using h)
theorem xa (x:RE):W4.cells x=[.int .i64 x.PM,.int .i64 x.abQ]:=aiw
theorem zO:W4.size=2:=aiw
theorem GP (x:RE):RE.mk x.PM x.abQ=x:=aiw
def bg:iM gn:=AI (lF (eI .i64) (lF (eI .i64) (eI .i64))) (fun x=>(x.bu,x.a7,x.aL)) (by rintro⟨⟩ ⟨⟩ h;simpa using h)
theorem sQ (x:gn):bg.cells x=[.int .i64 x.bu,.int .i64 x.a7,.int .i64 x.aL]:=aiw
theorem va:bg.size=3:=aiw
theorem zS (x:gn):gn.mk x.bu x.a7 x.aL=x:=aiw
def dO:iM sr:=AI (lF (eI .i64) (lF (eI .i64) (lF (eI .i64) W2))) (fun x=>(x.bu,x.a7,x.aL,x.CJ)) (by rintro⟨⟩ ⟨⟩ h;simpa using h)
theorem zM (x:sr):dO.cells x=[.int .i64 x.bu,.int .i64 x.a7,.int .i64 x.aL,.str x.CJ]:=aiw
theorem Ct:dO.size=4:=aiw
theorem LO (x:sr):sr.mk x.bu x.a7 x.aL x.CJ=x:=aiw
def vw:iM fJ:=AI (lF (jM bg) (lF (jM dO) (jM (jM aD)))) (fun x=>(x.ak,x.aH,x.aB)) (by rintro⟨⟩ ⟨⟩ h;simpa using h)
theorem wZ (x:fJ):vw.cells x=[.sl false false x.ak.length (ab bg x.ak),.sl false false x.aH.length (ab dO x.aH),.sl false false x.aB.length (ab (jM aD) x.aB)]:=aiw
theorem zI:vw.size=3:=aiw
theorem GL (x:fJ):fJ.mk x.ak x.aH x.aB=x:=aiw
def b6:iM bV:=AI (lF vw (lF (jM fe) (jM (eI .i64)))) (fun x=>(x.au,x.aZ,x.aA)) (by rintro⟨⟩ ⟨⟩ h;simpa using h)
theorem w8 (x:bV):b6.cells x=[.sl false false x.au.ak.length (ab bg x.au.ak),.sl false false x.au.aH.length (ab dO x.au.aH),.sl false false x.au.aB.length (ab (jM aD) x.au.aB),.sl false false x.aZ.length (ab fe x.aZ),.sl false false x.aA.length (ab (eI .i64) x.aA)]:=aiw
theorem zK:b6.size=5:=aiw
theorem GN (x:bV):bV.mk x.au x.aZ x.aA=x:=aiw
def nJ:iM bA:=AI (lF (jM (eI .i64)) (jM b6)) (fun x=>(x.ax,x.ao)) (by rintro⟨⟩ ⟨⟩ h;simpa using h)
theorem vb (x:bA):nJ.cells x=[.sl false false x.ax.length (ab (eI .i64) x.ax),.sl false false x.ao.length (ab b6 x.ao)]:=aiw
theorem w9:nJ.size=2:=aiw
theorem CH (x:bA):bA.mk x.ax x.ao=x:=aiw
theorem aa2 {l:List _} : (ab (eI .i64) l).length=l.length*1:=bM _ l
theorem QV {l:List _} : (ab (eI .i64) l).take (l.length*1)=ab (eI .i64) l:=by
 have:=gr (eI .i64) l l.length;rw[ahJ]at this;exact this
theorem YU {l:List _} {i:Nat} {x:_} : (ab (eI .i64) (l.set i x)).take (l.length*1)=ab (eI .i64) (l.set i x):=by
 have:=@QV (l.set i x)
 rwa [ahI]at this
theorem aa3 {l:List _} : (ab (EU (eI .i64)) l).length=l.length*1:=bM _ l
theorem QW {l:List _} : (ab (EU (eI .i64)) l).take (l.length*1)=ab (EU (eI .i64)) l:=by
 have:=gr (EU (eI .i64)) l l.length;rw[ahJ]at this;exact this
theorem YV {l:List _} {i:Nat} {x:_} : (ab (EU (eI .i64)) (l.set i x)).take (l.length*1)=ab (EU (eI .i64)) (l.set i x):=by
 have:=@QW (l.set i x)
 rwa [ahI]at this
theorem aa4 {l:List _} : (ab (jM (eI .i64)) l).length=l.length*1:=bM _ l
theorem QX {l:List _} : (ab (jM (eI .i64)) l).take (l.length*1)=ab (jM (eI .i64)) l:=by
 have:=gr (jM (eI .i64)) l l.length;rw[ahJ]at this;exact this
theorem YW {l:List _} {i:Nat} {x:_} : (ab (jM (eI .i64)) (l.set i x)).take (l.length*1)=ab (jM (eI .i64)) (l.set i x):=by
 have:=@QX (l.set i x)
 rwa [ahI]at this
theorem aa5 {l:List _} : (ab (jM aD) l).length=l.length*1:=bM _ l
theorem QY {l:List _} : (ab (jM aD) l).take (l.length*1)=ab (jM aD) l:=by
 have:=gr (jM aD) l l.length;rw[ahJ]at this;exact this
theorem YX {l:List _} {i:Nat} {x:_} : (ab (jM aD) (l.set i x)).take (l.length*1)=ab (jM aD) (l.set i x):=by
 have:=@QY (l.set i x)
 rwa [ahI]at this
theorem aa6 {l:List _} : (ab aD l).length=l.length*4:=bM _ l
theorem QZ {l:List _} : (ab aD l).take (l.length*4)=ab aD l:=by
 have:=gr aD l l.length;rw[ahJ]at this;exact this
theorem YY {l:List _} {i:Nat} {x:_} : (ab aD (l.set i x)).take (l.length*4)=ab aD (l.set i x):=by
 have:=@QZ (l.set i x)
 rwa [ahI]at this
theorem aa7 {l:List _} : (ab b6 l).length=l.length*5:=bM _ l
theorem Q0 {l:List _} : (ab b6 l).take (l.length*5)=ab b6 l:=by
 have:=gr b6 l l.length;rw[ahJ]at this;exact this
theorem YZ {l:List _} {i:Nat} {x:_} : (ab b6 (l.set i x)).take (l.length*5)=ab b6 (l.set i x):=by
 have:=@Q0 (l.set i x)
 rwa [ahI]at this
theorem aa8 {l:List _} : (ab dO l).length=l.length*4:=bM _ l
theorem Q1 {l:List _} : (ab dO l).take (l.length*4)=ab dO l:=by
 have:=gr dO l l.length;rw[ahJ]at this;exact this
theorem Y0 {l:List _} {i:Nat} {x:_} : (ab dO (l.set i x)).take (l.length*4)=ab dO (l.set i x):=by
 have:=@Q1 (l.set i x)
 rwa [ahI]at this
theorem aa9 {l:List _} : (ab bg l).length=l.length*3:=bM _ l
theorem Q3 {l:List _} : (ab bg l).take (l.length*3)=ab bg l:=by
 have:=gr bg l l.length;rw[ahJ]at this;exact this
theorem Y1 {l:List _} {i:Nat} {x:_} : (ab bg (l.set i x)).take (l.length*3)=ab bg (l.set i x):=by
 have:=@Q3 (l.set i x)
 rwa [ahI]at this
theorem aba {l:List _} : (ab bD l).length=l.length*6:=bM _ l
theorem Q4 {l:List _} : (ab bD l).take (l.length*6)=ab bD l:=by
 have:=gr bD l l.length;rw[ahJ]at this;exact this
theorem Y2 {l:List _} {i:Nat} {x:_} : (ab bD (l.set i x)).take (l.length*6)=ab bD (l.set i x):=by
 have:=@Q4 (l.set i x)
 rwa [ahI]at this
theorem abb {l:List _} : (ab fe l).length=l.length*2:=bM _ l
theorem Q5 {l:List _} : (ab fe l).take (l.length*2)=ab fe l:=by
 have:=gr fe l l.length;rw[ahJ]at this;exact this
theorem Y3 {l:List _} {i:Nat} {x:_} : (ab fe (l.set i x)).take (l.length*2)=ab fe (l.set i x):=by
 have:=@Q5 (l.set i x)
 rwa [ahI]at this
theorem vme:type_of% (ai @wX<|ai @zG<|ai @Cq<|ai @Gy<|ai @Sn<|ai @Cp<|ai @Gz<|ai @Lw<|ai @xb<|ai @uf<|ai @wY<|ai @zH<|ai @Cr<|ai @w7<|ai @zJ<|ai @zN<|ai @Cu<|ai @nI<|ai @sR<|ai @zL<|ai @Cs<|ai @xa<|ai @zO<|ai @sQ<|ai @va<|ai @zM<|ai @Ct<|ai @wZ<|ai @zI<|ai @w8<|ai @zK<|ai @vb<|@w9):=⟨@wX,@zG,@Cq,@Gy,@Sn,@Cp,@Gz,@Lw,@xb,@uf,@wY,@zH,@Cr,@w7,@zJ,@zN,@Cu,@nI,@sR,@zL,@Cs,@xa,@zO,@sQ,@va,@zM,@Ct,@wZ,@zI,@w8,@zK,@vb,@w9⟩
theorem vml:type_of% (ai @bh<|ai @LM<|ai @GM<|ai @LP<|ai @GO<|ai @LN<|ai @GP<|ai @zS<|ai @LO<|ai @GL<|ai @GN<|ai @CH<|ai @aa2<|ai @QV<|ai @YU<|ai @aa3<|ai @QW<|ai @YV<|ai @aa4<|ai @QX<|ai @YW<|ai @aa5<|ai @QY<|ai @YX<|ai @aa6<|ai @QZ<|ai @YY<|ai @aa7<|ai @Q0<|ai @YZ<|ai @aa8<|ai @Q1<|ai @Y0<|ai @aa9<|ai @Q3<|ai @Y1<|ai @aba<|ai @Q4<|ai @Y2<|ai @abb<|ai @Q5<|@Y3):=⟨@bh,@LM,@GM,@LP,@GO,@LN,@GP,@zS,@LO,@GL,@GN,@CH,@aa2,@QV,@YU,@aa3,@QW,@YV,@aa4,@QX,@YW,@aa5,@QY,@YX,@aa6,@QZ,@YY,@aa7,@Q0,@YZ,@aa8,@Q1,@Y0,@aa9,@Q3,@Y1,@aba,@Q4,@Y2,@abb,@Q5,@Y3⟩
theorem Zv:T1 tab ⟨.map 77 42,1,8,[.map none],false⟩ true (.agg [.int .i64 0,.sl false false 0 [],.int .i64 0,.sl false false 0 []]):=⟨_,_,rfl,rfl,rfl,rfl⟩
theorem abh {h:Nat->Option Row} {m:D} {n O:Int} {ok:Bool} : fX tab ⟨.map 77 42,1,8,[.map none],false⟩ h m (.agg [.int .i64 n,.int .i64 O]) ok=lkE true ok (.agg [.int .i64 0,.sl false false 0 [],.int .i64 0,.sl false false 0 []]) (n,some O) (mapOf h m):=ab0 Zv rfl
theorem abj {h:Nat->Option Row} {y v:Nat} {n O:Int} {x:D} : cF tab ⟨.map 77 42,1,8,[.map none],false⟩ h (.mp y v) (.agg [.int .i64 n,.int .i64 O]) x=muE true h y v (n,some O) (sj h x):=ab6 Zv rfl
theorem abi {ty e d:Nat} (O:ty<900000):UR tab (some ⟨.map 77 42,1,8,[.map none],false⟩) ty e d=some ⟨.mp d e,[(d,some ⟨e,ty,[.mpc [] []],false,true,true⟩)]⟩:=Z5 Zv O
theorem SX {m:List ((Int×Int)×aw)} {n O:Int} : oO (.agg [.int .i64 0,.sl false false 0 [],.int .i64 0,.sl false false 0 []]) (dC m) (fu (bt aD) m) (n,some O)=.agg [.int .i64 (((ff (aw.mk (az.mk 0 ([])) (az.mk 0 ([]))) m (n,O)).cD).ah),.sl false false (((ff (aw.mk (az.mk 0 ([])) (az.mk 0 ([]))) m (n,O)).cD).aa).length (ab (eI .i64) (((ff (aw.mk (az.mk 0 ([])) (az.mk 0 ([]))) m (n,O)).cD).aa)),.int .i64 (((ff (aw.mk (az.mk 0 ([])) (az.mk 0 ([]))) m (n,O)).cw).ah),.sl false false (((ff (aw.mk (az.mk 0 ([])) (az.mk 0 ([]))) m (n,O)).cw).aa).length (ab (eI .i64) (((ff (aw.mk (az.mk 0 ([])) (az.mk 0 ([]))) m (n,O)).cw).aa))]:=Hh (A:=(bt aD)) (aw.mk (az.mk 0 ([])) (az.mk 0 ([]))) (n,O) m
theorem TV {m:List ((Int×Int)×aw)} {n O:Int} {v0:Int} {v1:(List Int)} {v2:Int} {v3:(List Int)} : D.mpc (we (dC m) (n,some O)) (AX (dC m) (fu (bt aD) m) (n,some O) (.agg [.int .i64 v0,.sl false false v1.length (ab (eI .i64) v1),.int .i64 v2,.sl false false v3.length (ab (eI .i64) v3)]))=.mpc (dC (oT m (n,O) (aw.mk (az.mk v0 v1) (az.mk v2 v3)))) (fu (bt aD) (oT m (n,O) (aw.mk (az.mk v0 v1) (az.mk v2 v3)))):=by
 rw[<- N2 (n,O) (aw.mk (az.mk v0 v1) (az.mk v2 v3)) m,<- N4 (n,O) (aw.mk (az.mk v0 v1) (az.mk v2 v3)) m];rfl
theorem XG {e d:Nat} (O:d<1000000):Z2 ⟨.struct [(3,0),(26,1)],2,32,[.int .i64 0,.slice none 0 0],false⟩ 28 e d 65 6 1=some ⟨.ptr d e 0,[(d,some ⟨e,28,[.nr 65 6 (4*e+2) [.int .i64 0,.nx 0 []]],false,false,true⟩)]⟩:=by
 unfold Z2;rw[if_pos ⟨by decide,rfl,rfl,by rw[cm];exact O,rfl⟩];rfl
theorem vmm:type_of% (ai @abh<|ai @abj<|ai @abi<|ai @SX<|ai @TV<|@vi):=⟨@abh,@abj,@abi,@SX,@TV,@vi⟩
theorem w:type_of% (ai @v<|ai @vmt<|ai @vme<|ai @vml<|ai @vn<|ai @XG<|@vmm):=⟨@v,@vmt,@vme,@vml,@vn,@XG,@vmm⟩
theorem bX:type_of% (ai @vme<|ai @ahA<|ai @ahq<|ai @af4<|ai @ahB<|@ag7):=⟨@vme,@ahA,@ahq,@af4,@ahB,@ag7⟩
def eh (l:Option (D×Row)) (d:List D):=dP (dL (mG (eI .i64))) (fun x:(List Int)=>jg x) (fun r:(List Int) =>.clean (.sl false false r.length (ab (eI .i64) r))) l d
theorem Tr {β:Type} {F:(List Int)->Option β} {R:β->RK} (O:(List Int)):dP (dL (mG (eI .i64))) F R none [.sl false false O.length (ab (eI .i64) O)]=(F (O)).map fun r=>(R r,none):=cI _ _ _ (O)
theorem mU:bT prog 129 eh:=bT.gJ (mode := .clean) tok bF.none mixed func129 (by kernel_rfl) (fun _ _=>rfl) (fun _=>by kernel_rfl) fun p0 r O=>by
 replace O:jg p0=some r:=O;apply aF rfl ntmps129 results129;simp only[gK];unfold jg at O;try simp only[w,seval]
 obtain⟨o4,ak,O⟩:=ae O;refine aC (fun s t H e=>match s with|aa=>t 0=.sl false false p0.length (ab (eI .i64) p0)∧t 3=.int .i64 aa) (fun o x t H e=>match o with|Y=>x=.exit 0∧t 0=.sl false false p0.length (ab (eI .i64) p0)∧t 3=.int .i64 Y) ak ?_ ?_ ?_
 ·and_intros<;>first|rfl|(simp only[w,seval]<;>rfl)
 ·rintro aa t H e Z c O;simp only[Ap]at O;try simp only[w,seval,Z]
  apply sp eW O<;>intro _ O
  ·obtain⟨x6,al,O⟩:=ae O;have U:=bC (eI .i64) al;simp only[bX]at U;try simp only[w,seval,Z,U]
   apply sp aj O<;>intro _ O
   ·cases O;try simp only[w,seval,Z,U]
    apply iP;and_intros<;>first|rfl|(simp only[w,seval,Z,U]<;>rfl)
   ·cases O;try simp only[w,seval,Z,U]
    apply jW;refine⟨rfl,?_⟩;and_intros<;>first|rfl|(simp only[w,seval,Z,U]<;>rfl)
  ·cases O;try simp only[w,seval,Z]
   apply jW;refine⟨rfl,?_⟩;and_intros<;>first|rfl|(simp only[w,seval,Z]<;>rfl)
 ·rintro x t H e hx;obtain⟨Y,rfl⟩:∃z,z=o4:=⟨_,rfl⟩;dsimp only at hx O;obtain⟨rfl,an⟩:=hx;obtain⟨x8,ao,O⟩:=ae O;obtain⟨aq,ar,au,av,ad⟩:=Es (eI .i64) ao;simp only[bX]at ad;obtain⟨aw,ag,O⟩:=ae O;obtain⟨X,ah,ai⟩:=wF ag;replace X:=X.symm;subst X;cases O;try simp only[w,seval,an,aq,ar,au,av,ad,ah,ai]
def cP (l:Option (D×Row)) (d:List D):=dP (gX (aI .i64) (dL (mG (eI .i64)))) (fun x:Int×(List Int)=>gF x.1 x.2) (fun r:az =>.clean (.agg [.int .i64 r.ah,.sl false false r.aa.length (ab (eI .i64) r.aa)])) l d
theorem Bj {β:Type} {F:Int×(List Int)->Option β} {R:β->RK} (U:Int) (O:(List Int)):dP (gX (aI .i64) (dL (mG (eI .i64)))) F R none [.int .i64 U,.sl false false O.length (ab (eI .i64) O)]=(F (U,O)).map fun r=>(R r,none):=cI _ _ _ (U,O)
def vR:Env:=(Am.ext bk 129 false eh)
theorem Mb:bF prog vR:=(bF.none.add mU false)
theorem wy:type_of% (ai @w<|ai @Tr<|ai @eh.eq_1<|@vR.eq_1):=⟨@w,@Tr,@eh.eq_1,@vR.eq_1⟩
theorem kN:bT prog 97 cP:=bT.gJ (mode := .clean) tok Mb mixed func97 (by kernel_rfl) (fun _ _=>rfl) (fun _=>by kernel_rfl) fun⟨X,Y⟩ r O=>by
 replace O:gF X Y=some r:=O;apply aF rfl ntmps97 results97;simp only[gK];unfold gF at O;obtain⟨Z,U,O⟩:=ae O;try simp only[wy,seval,U]
 apply sp aj O<;>intro _ O
 ·cases O;try simp only[wy,seval,U]
 ·cases O;try simp only[wy,seval,U]
def oc (l:Option (D×Row)) (d:List D):=dP (dL (aI .i64)) (fun x:Int=>yY x) (fun r:az =>.clean (.agg [.int .i64 r.ah,.sl false false r.aa.length (ab (eI .i64) r.aa)])) l d
theorem Kc {β:Type} {F:Int->Option β} {R:β->RK} (O:Int):dP (dL (aI .i64)) F R none [.int .i64 O]=(F (O)).map fun r=>(R r,none):=cI _ _ _ (O)
def CP:Env:=(Am.ext bk 97 false cP)
theorem Uz:bF prog CP:=(bF.none.add kN false)
theorem eR:type_of% (ai @w<|ai @Bj<|ai @cP.eq_1<|@CP.eq_1):=⟨@w,@Bj,@cP.eq_1,@CP.eq_1⟩
theorem HF:bT prog 60 oc:=bT.gJ (mode := .clean) tok Uz mixed func60 (by kernel_rfl) (fun _ _=>rfl) (fun _=>by kernel_rfl) fun p0 r O=>by
 replace O:yY p0=some r:=O;apply aF rfl ntmps60 results60;simp only[gK];unfold yY at O;try simp only[eR,seval]
 apply sp aj O<;>intro _ O
 ·cases O;try simp only[eR,seval]
 ·try simp only[eR,seval]
  obtain⟨o2,aK,O⟩:=ae O;refine j9 0 (fun s t H e=>match s with|U=>∃X:Nat,t 0=.int .i64 p0∧t 2=.ptr 2 X 0∧t 3=.int .i64 U∧H 2=some ⟨X,40,[.int .i64 0,.sl true true 0 []],false,false,false⟩) (fun s=>s=o2) ?_ ?_
  ·rintro U t H e ⟨X,ax⟩ rfl;try dsimp only at O
   try simp only[eR,seval,ax]
   obtain⟨aL,ay,O⟩:=ae O;refine aC (fun s t H e=>match s with|(az,aw)=>∃Y:Nat,∃ak:Nat,t 0=.int .i64 az∧t 2=.ptr 2 Y 0∧t 3=.int .i64 U∧t 4=.buf 4 ak 1 0 (aw).length∧H 2=some ⟨Y,40,[.int .i64 0,.sl true true 0 []],false,false,false⟩∧H 4=some ⟨ak,3,ab (eI .i64) aw,false,true,false⟩) (fun o x t H e=>match o with|Z=>x=.exit 0∧∃aa:Nat,∃ad:Nat,t 2=.ptr 2 aa 0∧t 3=.int .i64 U∧t 4=.buf 4 ad 1 0 (Z).length∧H 2=some ⟨aa,40,[.int .i64 0,.sl true true 0 []],false,false,false⟩∧H 4=some ⟨ad,3,ab (eI .i64) Z,false,true,false⟩) ay ?_ ?_ ?_
   ·refine⟨X,e,?_⟩;and_intros<;>first|rfl|(simp only[eR,seval,ax]<;>rfl)
   ·rintro⟨az,aw⟩ t H e ⟨Y,ak,Zb⟩ c O;simp only[HN]at O;try simp only[eR,seval,Zb]
    apply sp aj O<;>intro _ O
    ·obtain⟨aN,aA,O⟩:=ae O;have ag:=uq aA;try simp only[eR,seval,Zb,ag]
     apply sp aj O<;>intro _ O
     ·obtain⟨aO,aB,O⟩:=ae O;obtain⟨an,ah,ao,aq⟩:=ir (eI .i64) aB;simp only[bX]at ah;obtain⟨aP,aD,O⟩:=ae O;have aE:=rf aD;cases O;try simp only[eR,seval,Zb,ag,an,ah,ao,aq,aE]
      apply iP;refine⟨Y,e+1+1+1+1,?_⟩;and_intros<;>first|rfl|(simp only[eR,seval,Zb,ag,an,ah,ao,aq,aE]<;>rfl)
     ·obtain⟨aQ,aG,O⟩:=ae O;obtain⟨ar,ai,au,av⟩:=ir (eI .i64) aG;simp only[bX]at ai;obtain⟨aR,aH,O⟩:=ae O;have aI:=rf aH;cases O;try simp only[eR,seval,Zb,ag,ar,ai,au,av,aI]
      apply iP;refine⟨Y,e+1+1+1,?_⟩;and_intros<;>first|rfl|(simp only[eR,seval,Zb,ag,ar,ai,au,av,aI]<;>rfl)
    ·cases O;try simp only[eR,seval,Zb]
     apply jW;refine⟨rfl,⟨Y,ak,?_⟩⟩;and_intros<;>first|rfl|(simp only[eR,seval,Zb]<;>rfl)
   ·rintro x t H e hx;obtain⟨Z,rfl⟩:∃z,z=aL:=⟨_,rfl⟩;dsimp only at hx O;obtain⟨rfl,⟨aa,ad,aM⟩⟩:=hx;obtain⟨aS,aJ,O⟩:=ae O;cases O;try simp only[eR,seval,aM,aJ]
  ·clear O;have O:=aK;try simp only[eR,seval]
   apply sp aj O<;>intro _ O
   ·cases O;try simp only[eR,seval]
    rw[al];refine⟨_,rfl,?_⟩;refine⟨0,?_⟩;and_intros<;>first|rfl|(simp only[eR,seval]<;>rfl)
   ·cases O;try simp only[eR,seval]
    rw[al];refine⟨_,rfl,?_⟩;refine⟨0,?_⟩;and_intros<;>first|rfl|(simp only[eR,seval]<;>rfl)
def bo (l:Option (D×Row)) (d:List D):=dP (dL (bt dB)) (fun x:az=>dK x) (fun r:Bool =>.clean (.bool r)) l d
theorem qC {β:Type} {F:az->Option β} {R:β->RK} (U:Int) (O:(List Int)):dP (dL (bt dB)) F R none [.agg [.int .i64 U,.sl false false O.length (ab (eI .i64) O)]]=(F ((az.mk U O))).map fun r=>(R r,none):=cI _ _ _ ((az.mk U O))
theorem fO:bT prog 84 bo:=bT.gJ (mode := .clean) tok bF.none mixed func84 (by kernel_rfl) (fun _ _=>rfl) (fun _=>by kernel_rfl) fun Z r O=>by
 replace O:dK Z=some r:=O;apply aF rfl ntmps84 results84;simp only[gK];unfold dK at O;try simp only[w,seval]
 obtain⟨o5,av,O⟩:=ae O;refine aC (fun s t H e=>match s with|ao=>∃ad:Nat,t 1=.ptr 1 ad 0∧t 3=.int .i64 ao∧H 1=some ⟨ad,40,[.int .i64 Z.ah,.sl false false Z.aa.length (ab (eI .i64) Z.aa)],false,false,false⟩) (fun o x t H e=>match o with|(.inl _)=>x=.exit 0∧∃X:Nat,t 1=.ptr 1 X 0∧H 1=some ⟨X,40,[.int .i64 Z.ah,.sl false false Z.aa.length (ab (eI .i64) Z.aa)],false,false,false⟩|(.inr r)=>x=.ret∧fH .clean tab none [.tmp 2] ⟨t,EH H,e⟩=some (.clean (.bool r),none)) av ?_ ?_ ?_
 ·refine⟨0,?_⟩;and_intros<;>first|rfl|(simp only[w,seval]<;>rfl)
 ·rintro ao t H e ⟨ad,Za⟩ c O;simp only[xy]at O;try simp only[w,seval,Za]
  apply sp aj O<;>intro _ O
  ·obtain⟨x7,aq,O⟩:=ae O;have U:=bC (eI .i64) aq;simp only[bX]at U;try simp only[w,seval,Za,U]
   apply sp aO O<;>intro _ O
   ·cases O;try simp only[w,seval,Za,U]
    refine rv ⟨rfl,?_⟩;try simp only[w,seval,Za,U]
   ·have U:=bC (eI .i64) aq;simp only[bX]at U;try simp only[w,seval,Za,U,U]
    apply sp aj O<;>intro _ O
    ·cases O;try simp only[w,seval,Za,U,U]
     refine rv ⟨rfl,?_⟩;try simp only[w,seval,Za,U,U]
    ·cases O;try simp only[w,seval,Za,U,U]
     apply iP;refine⟨ad,?_⟩;and_intros<;>first|rfl|(simp only[w,seval,Za,U,U]<;>rfl)
  ·cases O;try simp only[w,seval,Za]
   apply jW;refine⟨rfl,⟨ad,?_⟩⟩;and_intros<;>first|rfl|(simp only[w,seval,Za]<;>rfl)
 ·rintro x t H e hx;rcases o5 with _|ra
  ·dsimp only at hx O;obtain⟨rfl,⟨X,Y⟩⟩:=hx;try simp only[w,seval,Y]
   obtain⟨aw,ar,O⟩:=ae O;refine bz 0 (fun s t H e=>match s with|ag=>∃ai:Nat,t 1=.ptr 1 ai 0∧t 4=.int .i64 (Z.aa.length:Int)∧t 44=.bool ag∧H 1=some ⟨ai,40,[.int .i64 Z.ah,.sl false false Z.aa.length (ab (eI .i64) Z.aa)],false,false,false⟩) (fun s=>s=aw) ?_ ?_
   ·rintro ag t H e ⟨ai,ak⟩ rfl;try dsimp only at O
    try simp only[w,seval,ak]
    apply sp aj O<;>intro _ O
    ·cases O;try simp only[w,seval,ak]
    ·try simp only[w,seval,ak]
     apply sp aO O<;>intro _ O
     ·cases O;try simp only[w,seval,ak]
     ·obtain⟨ax,au,O⟩:=ae O;have an:=bC (eI .i64) au;simp only[bX]at an;cases O;try simp only[w,seval,ak,an]
   ·clear O;have O:=ar;try simp only[w,seval,Y]
    apply sp aO O<;>intro _ O
    ·cases O;try simp only[w,seval,Y]
     rw[al];refine⟨_,rfl,?_⟩;refine⟨X,?_⟩;and_intros<;>first|rfl|(simp only[w,seval,Y]<;>rfl)
    ·try simp only[w,seval,Y]
     apply sp aO O<;>intro _ O
     ·cases O;try simp only[w,seval,Y]
      rw[al];refine⟨_,rfl,?_⟩;refine⟨X,?_⟩;and_intros<;>first|rfl|(simp only[w,seval,Y]<;>rfl)
     ·cases O;try simp only[w,seval,Y]
      rw[al];refine⟨_,rfl,?_⟩;refine⟨X,?_⟩;and_intros<;>first|rfl|(simp only[w,seval,Y]<;>rfl)
  ·dsimp only at hx O;obtain⟨rfl,hE⟩:=hx;cases O;try simp only[bc,aX,bj,cJ,cG,cc,cd]
   exact hE
def lP (l:Option (D×Row)) (d:List D):=dP (dL (bt dB)) (fun x:az=>uz x) (fun r:az =>.clean (.agg [.int .i64 r.ah,.sl false false r.aa.length (ab (eI .i64) r.aa)])) l d
def yC:Env:=(Am.ext (Am.ext bk 84 false bo) 97 false cP)
theorem P7:bF prog yC:=((bF.none.add fO false).add kN false)
theorem zg:type_of% (ai @w<|ai @qC<|ai @bo.eq_1<|ai @Bj<|ai @cP.eq_1<|@yC.eq_1):=⟨@w,@qC,@bo.eq_1,@Bj,@cP.eq_1,@yC.eq_1⟩
theorem DW:bT prog 95 lP:=bT.gJ (mode := .clean) tok P7 mixed func95 (by kernel_rfl) (fun _ _=>rfl) (fun _=>by kernel_rfl) fun Y r O=>by
 replace O:uz Y=some r:=O;apply aF rfl ntmps95 results95;simp only[gK];unfold uz at O;obtain⟨Z,U,O⟩:=ae O;try simp only[zg,seval,U]
 apply sp aj O<;>intro _ O
 ·cases O;try simp only[zg,seval,U]
 ·obtain⟨r3,X,O⟩:=ae O;cases O;try simp only[zg,seval,U,X]
def eo (l:Option (D×Row)) (d:List D):=dP (gX (mG (eI .i64)) (dL (aI .i64))) (fun x:(List Int)×Int=>jG x.1 x.2) (fun r:Int =>.clean (.int .i64 r)) l d
theorem Vy {β:Type} {F:(List Int)×Int->Option β} {R:β->RK} (O:(List Int)) (U:Int):dP (gX (mG (eI .i64)) (dL (aI .i64))) F R none [.sl false false O.length (ab (eI .i64) O),.int .i64 U]=(F (O,U)).map fun r=>(R r,none):=cI _ _ _ (O,U)
theorem nQ:bT prog 143 eo:=bT.gJ (mode := .clean) tok bF.none mixed func143 (by kernel_rfl) (fun _ _=>rfl) (fun _=>by kernel_rfl) fun⟨Y,Z⟩ r O=>by
 replace O:jG Y Z=some r:=O;apply aF rfl ntmps143 results143;simp only[gK];unfold jG at O;try simp only[w,seval]
 apply sp aj O<;>intro _ O
 ·obtain⟨x2,X,O⟩:=ae O;have U:=bC (eI .i64) X;simp only[bX]at U;cases O;try simp only[w,seval,U]
 ·cases O;try simp only[w,seval]
def kD (l:Option (D×Row)) (d:List D):=dP (gX (mG (eI .i64)) (dL (mG (eI .i64)))) (fun x:(List Int)×(List Int)=>mj x.1 x.2) (fun r:(List Int) =>.clean (.sl false false r.length (ab (eI .i64) r))) l d
theorem As {β:Type} {F:(List Int)×(List Int)->Option β} {R:β->RK} (O:(List Int)) (U:(List Int)):dP (gX (mG (eI .i64)) (dL (mG (eI .i64)))) F R none [.sl false false O.length (ab (eI .i64) O),.sl false false U.length (ab (eI .i64) U)]=(F (O,U)).map fun r=>(R r,none):=cI _ _ _ (O,U)
def te:Env:=(Am.ext (Am.ext bk 129 false eh) 143 false eo)
theorem Jo:bF prog te:=((bF.none.add mU false).add nQ false)
theorem bZ:type_of% (ai @w<|ai @Tr<|ai @eh.eq_1<|ai @Vy<|ai @eo.eq_1<|@te.eq_1):=⟨@w,@Tr,@eh.eq_1,@Vy,@eo.eq_1,@te.eq_1⟩
theorem xu:bT prog 130 kD:=bT.gJ (mode := .clean) tok Jo mixed func130 (by kernel_rfl) (fun _ _=>rfl) (fun _=>by kernel_rfl) fun⟨p0,p1⟩ r U=>by
 replace U:mj p0 p1=some r:=U;apply aF rfl ntmps130 results130;simp only[gK];unfold mj at U;obtain⟨x1,aT,U⟩:=ae U;obtain⟨X,Y,Z,O,aa⟩:=mk_one (eI .i64) aT;simp only[bX]at O;try simp only[bZ,seval,X,Y,Z,O,aa]
 obtain⟨aU,aH,U⟩:=ae U;refine aC (fun s t H e=>match s with|(an,aD)=>∃ao:Nat,t 0=.sl false false p0.length (ab (eI .i64) p0)∧t 1=.sl false false p1.length (ab (eI .i64) p1)∧t 5=.buf 5 ao 1 0 (aD).length∧t 6=.int .i64 an∧H 5=some ⟨ao,3,ab (eI .i64) aD,false,true,false⟩) (fun o x t H e=>match o with|aq=>x=.exit 0∧∃ar:Nat,t 5=.buf 5 ar 1 0 (aq).length∧H 5=some ⟨ar,3,ab (eI .i64) aq,false,true,false⟩) aH ?_ ?_ ?_
 ·refine⟨1,?_⟩;and_intros<;>first|rfl|(simp only[bZ,seval,X,Y,Z,O,aa]<;>rfl)
 ·rintro⟨an,aD⟩ t H e ⟨ao,Za⟩ c U;simp only[xB]at U;try simp only[bZ,seval,X,Y,Z,O,aa,Za]
  apply sp aj U<;>intro _ U
  ·try simp only[bZ,seval,X,Y,Z,O,aa,Za]
   obtain⟨aV,aI,U⟩:=ae U;refine aC (fun s t H e=>match s with|(aE,aG,au)=>∃av:Nat,t 0=.sl false false p0.length (ab (eI .i64) p0)∧t 1=.sl false false p1.length (ab (eI .i64) p1)∧t 5=.buf 5 av 1 0 (au).length∧t 6=.int .i64 an∧t 7=.int .i64 aE∧t 8=.int .i64 aG∧H 5=some ⟨av,3,ab (eI .i64) au,false,true,false⟩) (fun o x t H e=>match o with|aw=>x=.exit 2∧∃ah:Nat,t 0=.sl false false p0.length (ab (eI .i64) p0)∧t 1=.sl false false p1.length (ab (eI .i64) p1)∧t 5=.buf 5 ah 1 0 (aw).length∧t 6=.int .i64 an∧H 5=some ⟨ah,3,ab (eI .i64) aw,false,true,false⟩) aI ?_ ?_ ?_
   ·refine⟨ao,?_⟩;and_intros<;>first|rfl|(simp only[bZ,seval,X,Y,Z,O,aa,Za]<;>rfl)
   ·rintro⟨aE,aG,au⟩ t H e ⟨av,Ze⟩ c U;simp only[xC]at U;try simp only[bZ,seval,X,Y,Z,O,aa,Ze]
    obtain⟨aW,aJ,U⟩:=ae U;refine bz 0 (fun s t H e=>match s with|ax=>∃ag:Nat,t 0=.sl false false p0.length (ab (eI .i64) p0)∧t 1=.sl false false p1.length (ab (eI .i64) p1)∧t 5=.buf 5 ag 1 0 (au).length∧t 6=.int .i64 an∧t 7=.int .i64 aE∧t 8=.int .i64 aG∧t 29=.bool ax∧H 5=some ⟨ag,3,ab (eI .i64) au,false,true,false⟩) (fun s=>s=aW) ?_ ?_
    ·rintro ax t H e ⟨ag,ak⟩ rfl;try dsimp only at U
     try simp only[bZ,seval,X,Y,Z,O,aa,ak]
     apply sp aj U<;>intro _ U
     ·obtain⟨aY,ay,U⟩:=ae U;have ad:=bC (eI .i64) ay;simp only[bX]at ad;obtain⟨aZ,aK,U⟩:=ae U;have ai:=bC (eI .i64) aK;simp only[bX]at ai;obtain⟨a1,az,U⟩:=ae U;try simp only[bZ,seval,X,Y,Z,O,aa,ak,ad,ai,az]
      refine bH (by kernel_rfl) ?_;obtain⟨aL,aM,U⟩:=ae U;have aN:=uq aM;have ad:=bC (eI .i64) ay;simp only[bX]at ad;have aB:=fP (eI .i64) (x':=aL) (fo:=0) (cs:=[.int .i64 aL]) ay rfl (ahr rfl);simp only[bX,Nat.add_zero]at aB;have aA:=aB;simp only[putCells,List.length_cons,List.length_nil,agt,Nat.reduceAdd]at aA;obtain⟨a6,aP,U⟩:=ae U;have aQ:=rf aP;cases U;try simp only[bZ,seval,X,Y,Z,O,aa,ak,ad,ai,az,aN,ad,aB,aA,aQ]
      apply iP;refine⟨ag,?_⟩;and_intros<;>first|rfl|(simp only[bZ,seval,X,Y,Z,O,aa,ak,ad,ai,az,aN,ad,aB,aA,aQ]<;>rfl)
     ·cases U;try simp only[bZ,seval,X,Y,Z,O,aa,ak]
      apply jW;refine⟨rfl,⟨ag,?_⟩⟩;and_intros<;>first|rfl|(simp only[bZ,seval,X,Y,Z,O,aa,ak]<;>rfl)
    ·clear U;have U:=aJ;try simp only[bZ,seval,X,Y,Z,O,aa,Ze]
     apply sp aO U<;>intro _ U
     ·cases U;try simp only[bZ,seval,X,Y,Z,O,aa,Ze]
      rw[al];refine⟨_,rfl,?_⟩;refine⟨av,?_⟩;and_intros<;>first|rfl|(simp only[bZ,seval,X,Y,Z,O,aa,Ze]<;>rfl)
     ·cases U;try simp only[bZ,seval,X,Y,Z,O,aa,Ze]
      rw[al];refine⟨_,rfl,?_⟩;refine⟨av,?_⟩;and_intros<;>first|rfl|(simp only[bZ,seval,X,Y,Z,O,aa,Ze]<;>rfl)
   ·rintro x t H e hx;obtain⟨aw,rfl⟩:∃z,z=aV:=⟨_,rfl⟩;dsimp only at hx U;obtain⟨rfl,⟨ah,aR⟩⟩:=hx;cases U;try simp only[bZ,seval,X,Y,Z,O,aa,aR]
    apply iP;refine⟨ah,?_⟩;and_intros<;>first|rfl|(simp only[bZ,seval,X,Y,Z,O,aa,aR]<;>rfl)
  ·cases U;try simp only[bZ,seval,X,Y,Z,O,aa,Za]
   apply jW;refine⟨rfl,⟨ao,?_⟩⟩;and_intros<;>first|rfl|(simp only[bZ,seval,X,Y,Z,O,aa,Za]<;>rfl)
 ·rintro x t H e hx;obtain⟨aq,rfl⟩:∃z,z=aU:=⟨_,rfl⟩;dsimp only at hx U;obtain⟨rfl,⟨ar,aX⟩⟩:=hx;obtain⟨a7,aS,U⟩:=ae U;cases U;try simp only[bZ,seval,X,Y,Z,O,aa,aX,aS]
def gM (l:Option (D×Row)) (d:List D):=dP (gX (mG (eI .i64)) (dL (mG (eI .i64)))) (fun x:(List Int)×(List Int)=>qv x.1 x.2) (fun r:Bool =>.clean (.bool r)) l d
def vQ:Env:=(Am.ext bk 143 false eo)
theorem Ma:bF prog vQ:=(bF.none.add nQ false)
theorem gV:type_of% (ai @w<|ai @Vy<|ai @eo.eq_1<|@vQ.eq_1):=⟨@w,@Vy,@eo.eq_1,@vQ.eq_1⟩
theorem tw:bT prog 124 gM:=bT.gJ (mode := .clean) tok Ma mixed func124 (by kernel_rfl) (fun _ _=>rfl) (fun _=>by kernel_rfl) fun⟨p0,p1⟩ r O=>by
 replace O:qv p0 p1=some r:=O;apply aF rfl ntmps124 results124;simp only[gK];unfold qv at O;try simp only[gV,seval]
 obtain⟨o5,aa,O⟩:=ae O;refine aC (fun s t H e=>match s with|Z=>t 0=.sl false false p0.length (ab (eI .i64) p0)∧t 1=.sl false false p1.length (ab (eI .i64) p1)∧t 5=.int .i64 Z) (fun o x t H e=>match o with|(.inl _)=>x=.exit 0|(.inr r)=>x=.ret∧fH .clean tab none [.tmp 4] ⟨t,EH H,e⟩=some (.clean (.bool r),none)) aa ?_ ?_ ?_
 ·and_intros<;>first|rfl|(simp only[gV,seval]<;>rfl)
 ·rintro Z t H e Y c O;simp only[Ak]at O;try simp only[gV,seval,Y]
  apply sp aj O<;>intro _ O
  ·obtain⟨r7,U,O⟩:=ae O;obtain⟨r8,X,O⟩:=ae O;try simp only[gV,seval,Y,U,X]
   apply sp aj O<;>intro _ O
   ·cases O;try simp only[gV,seval,Y,U,X]
    refine rv ⟨rfl,?_⟩;try simp only[gV,seval,Y,U,X]
   ·cases O;try simp only[gV,seval,Y,U,X]
    apply iP;and_intros<;>first|rfl|(simp only[gV,seval,Y,U,X]<;>rfl)
  ·cases O;try simp only[gV,seval,Y]
   apply jW;exact rfl
 ·rintro x t H e hx;rcases o5 with _|ra
  ·dsimp only at hx O;subst hx;cases O;try simp only[gV,seval]
  ·dsimp only at hx O;obtain⟨rfl,hE⟩:=hx;cases O;try simp only[bc,aX,bj,cJ,cG,cc,cd]
   exact hE
def fU (l:Option (D×Row)) (d:List D):=dP (gX (mG (eI .i64)) (dL (mG (eI .i64)))) (fun x:(List Int)×(List Int)=>mi x.1 x.2) (fun r:(List Int) =>.clean (.sl false false r.length (ab (eI .i64) r))) l d
def td:Env:=(Am.ext (Am.ext bk 129 false eh) 143 false eo)
theorem Jn:bF prog td:=((bF.none.add mU false).add nQ false)
theorem eV:type_of% (ai @w<|ai @Tr<|ai @eh.eq_1<|ai @Vy<|ai @eo.eq_1<|@td.eq_1):=⟨@w,@Tr,@eh.eq_1,@Vy,@eo.eq_1,@td.eq_1⟩
theorem rG:bT prog 128 fU:=bT.gJ (mode := .clean) tok Jn mixed func128 (by kernel_rfl) (fun _ _=>rfl) (fun _=>by kernel_rfl) fun⟨p0,p1⟩ r O=>by
 replace O:mi p0 p1=some r:=O;apply aF rfl ntmps128 results128;simp only[gK];unfold mi at O;try simp only[eV,seval]
 obtain⟨o9,az,O⟩:=ae O;refine aC (fun s t H e=>match s with|(ar,au,aq)=>∃ag:Nat,t 0=.sl false false p0.length (ab (eI .i64) p0)∧t 1=.sl false false p1.length (ab (eI .i64) p1)∧t 5=.buf 5 ag 1 0 (aq).length∧t 6=.int .i64 ar∧t 7=.int .i64 au∧H 5=some ⟨ag,3,ab (eI .i64) aq,false,true,false⟩) (fun o x t H e=>match o with|Y=>x=.exit 0∧∃Z:Nat,t 5=.buf 5 Z 1 0 (Y).length∧H 5=some ⟨Z,3,ab (eI .i64) Y,false,true,false⟩) az ?_ ?_ ?_
 ·refine⟨1,?_⟩;and_intros<;>first|rfl|(simp only[eV,seval]<;>rfl)
 ·rintro⟨ar,au,aq⟩ t H e ⟨ag,Za⟩ c O;simp only[xA]at O;try simp only[eV,seval,Za]
  apply sp aj O<;>intro _ O
  ·obtain⟨aB,av,O⟩:=ae O;have U:=bC (eI .i64) av;simp only[bX]at U;obtain⟨aD,X,O⟩:=ae O;try simp only[eV,seval,Za,U,X]
   refine bH (by kernel_rfl) ?_;try simp only[eV,seval,Za,U,X]
   apply sp aj O<;>intro _ O
   ·obtain⟨aE,aw,O⟩:=ae O;obtain⟨ah,aa,ai,ak⟩:=ir (eI .i64) aw;simp only[bX]at aa;cases O;try simp only[eV,seval,Za,U,X,ah,aa,ai,ak]
    apply iP;refine⟨e+1+1+1+1+1+1,?_⟩;and_intros<;>first|rfl|(simp only[eV,seval,Za,U,X,ah,aa,ai,ak]<;>rfl)
   ·obtain⟨aG,ax,O⟩:=ae O;obtain⟨al,ad,an,ao⟩:=ir (eI .i64) ax;simp only[bX]at ad;cases O;try simp only[eV,seval,Za,U,X,al,ad,an,ao]
    apply iP;refine⟨e+1+1+1+1,?_⟩;and_intros<;>first|rfl|(simp only[eV,seval,Za,U,X,al,ad,an,ao]<;>rfl)
  ·cases O;try simp only[eV,seval,Za]
   apply jW;refine⟨rfl,⟨ag,?_⟩⟩;and_intros<;>first|rfl|(simp only[eV,seval,Za]<;>rfl)
 ·rintro x t H e hx;obtain⟨Y,rfl⟩:∃z,z=o9:=⟨_,rfl⟩;dsimp only at hx O;obtain⟨rfl,⟨Z,aA⟩⟩:=hx;obtain⟨aH,ay,O⟩:=ae O;cases O;try simp only[eV,seval,aA,ay]
def kp (l:Option (D×Row)) (d:List D):=dP (gX (mG (eI .i64)) (dL (mG (eI .i64)))) (fun x:(List Int)×(List Int)=>tz x.1 x.2) (fun r:(List Int)×(List Int) =>.clean (.tup [.sl false false r.1.length (ab (eI .i64) r.1),.sl false false r.2.length (ab (eI .i64) r.2)])) l d
theorem tx (O:(List Int)) (U:(List Int)):kD none [.sl false false O.length (ab (eI .i64) O),.sl false false U.length (ab (eI .i64) U)]=(mj O U).map fun r:(List Int)=>(.clean (.sl false false r.length (ab (eI .i64) r)),none):=cI _ _ _ (O,U)
theorem wh (O:(List Int)):eh none [.sl false false O.length (ab (eI .i64) O)]=(jg O).map fun r:(List Int)=>(.clean (.sl false false r.length (ab (eI .i64) r)),none):=cI _ _ _ (O)
def vS:Env:=(Am.keep 7 (Am.ext (Am.ext (Am.ext (Am.ext bk 124 false gM) 128 false fU) 129 false eh) 130 false kD))
theorem Mc:bF prog vS:=(bF.keep ((((bF.none.add tw false).add rG false).add mU false).add xu false) 7)
theorem dr:type_of% (ai @w<|ai @As<|ai @gM.eq_1<|ai @fU.eq_1<|ai @wh<|ai @tx<|@vS.eq_1):=⟨@w,@As,@gM.eq_1,@fU.eq_1,@wh,@tx,@vS.eq_1⟩
theorem Ad:bT prog 122 kp:=bT.gJ (mode := .clean) tok Mc mixed func122 (by kernel_rfl) (fun _ _=>rfl) (fun _=>by kernel_rfl) fun⟨p0,p1⟩ r O=>by
 replace O:tz p0 p1=some r:=O;apply aF rfl ntmps122 results122;simp only[gK];unfold tz at O;obtain⟨x1,aW,O⟩:=ae O;obtain⟨ah,ai,ak,Z,al⟩:=mk_one (eI .i64) aW;simp only[bX]at Z;try simp only[dr,seval,ah,ai,ak,Z,al]
 obtain⟨aX,aO,O⟩:=ae O;refine aC (fun s t H e=>match s with|(aN,aE,ar)=>∃aw:Nat,t 0=.sl false false p0.length (ab (eI .i64) p0)∧t 1=.sl false false p1.length (ab (eI .i64) p1)∧t 6=.buf 6 aw 1 0 (ar).length∧t 7=.sl false false aN.length (ab (eI .i64) aN)∧t 8=.int .i64 aE∧H 6=some ⟨aw,3,ab (eI .i64) ar,false,true,false⟩) (fun o x t H e=>match o with|(ax,ay)=>x=.exit 0∧∃az:Nat,t 6=.buf 6 az 1 0 (ay).length∧t 7=.sl false false ax.length (ab (eI .i64) ax)∧H 6=some ⟨az,3,ab (eI .i64) ay,false,true,false⟩) aO ?_ ?_ ?_
 ·refine⟨1,?_⟩;and_intros<;>first|rfl|(simp only[dr,seval,ah,ai,ak,Z,al]<;>rfl)
 ·rintro⟨aN,aE,ar⟩ t H e ⟨aw,Za⟩ c O;simp only[Al]at O;try simp only[dr,seval,ah,ai,ak,Z,al,Za]
  apply sp aj O<;>intro _ O
  ·obtain⟨a6,aP,O⟩:=ae O;have U:=bC (eI .i64) aP;simp only[bX]at U;obtain⟨a7,aQ,O⟩:=ae O;obtain⟨X,Y,aa,ad⟩:=RN (eI .i64) aQ;simp only[bh,bX,List.length_cons,agt,Nat.reduceAdd]at X Y;obtain⟨aG,ag,O⟩:=ae O;try simp only[dr,seval,ah,ai,ak,Z,al,Za,U,X,Y,aa,ad,ag]
   obtain⟨aY,aR,O⟩:=ae O;refine aC (fun s t H e=>match s with|(aS,aI)=>∃av:Nat,t 0=.sl false false p0.length (ab (eI .i64) p0)∧t 1=.sl false false p1.length (ab (eI .i64) p1)∧t 6=.buf 6 av 1 0 (ar).length∧t 7=.sl false false aG.length (ab (eI .i64) aG)∧t 8=.int .i64 aE∧t 9=.int .i64 aS∧t 10=.int .i64 aI∧H 6=some ⟨av,3,ab (eI .i64) ar,false,true,false⟩) (fun o x t H e=>match o with|an=>x=.exit 2∧∃au:Nat,t 0=.sl false false p0.length (ab (eI .i64) p0)∧t 1=.sl false false p1.length (ab (eI .i64) p1)∧t 6=.buf 6 au 1 0 (ar).length∧t 7=.sl false false aG.length (ab (eI .i64) aG)∧t 8=.int .i64 aE∧t 9=.int .i64 an∧H 6=some ⟨au,3,ab (eI .i64) ar,false,true,false⟩) aR ?_ ?_ ?_
   ·refine⟨aw,?_⟩;and_intros<;>first|rfl|(simp only[dr,seval,ah,ai,ak,Z,al,Za,U,X,Y,aa,ad,ag]<;>rfl)
   ·rintro⟨aS,aI⟩ t H e ⟨av,Zc⟩ c O;simp only[An]at O;try simp only[dr,seval,ah,ai,ak,Z,al,U,X,Y,aa,ad,ag,Zc]
    apply sp aj O<;>intro _ O
    ·obtain⟨aZ,aT,O⟩:=ae O;have aA:=rf aT;have i46:=tx p1 ([aZ]);simp only[bh,bX,List.length_cons,List.length_nil,agt,Nat.reduceAdd,ahI]at i46;obtain⟨a8,ao,O⟩:=ae O;obtain⟨ba,aq,O⟩:=ae O;try simp only[dr,seval,ah,ai,ak,Z,al,U,X,Y,aa,ad,ag,Zc,aA,i46,ao,aq]
     apply sp aj O<;>intro _ O
     ·cases O;try simp only[dr,seval,ah,ai,ak,Z,al,U,X,Y,aa,ad,ag,Zc,aA,i46,ao,aq]
      apply iP;refine⟨av,?_⟩;and_intros<;>first|rfl|(simp only[dr,seval,ah,ai,ak,Z,al,U,X,Y,aa,ad,ag,Zc,aA,i46,ao,aq]<;>rfl)
     ·cases O;try simp only[dr,seval,ah,ai,ak,Z,al,U,X,Y,aa,ad,ag,Zc,aA,i46,ao,aq]
      apply iP;refine⟨av,?_⟩;and_intros<;>first|rfl|(simp only[dr,seval,ah,ai,ak,Z,al,U,X,Y,aa,ad,ag,Zc,aA,i46,ao,aq]<;>rfl)
    ·cases O;try simp only[dr,seval,ah,ai,ak,Z,al,U,X,Y,aa,ad,ag,Zc]
     apply jW;refine⟨rfl,⟨av,?_⟩⟩;and_intros<;>first|rfl|(simp only[dr,seval,ah,ai,ak,Z,al,U,X,Y,aa,ad,ag,Zc]<;>rfl)
   ·rintro x t H e hx;obtain⟨an,rfl⟩:∃z,z=aY:=⟨_,rfl⟩;dsimp only at hx O;obtain⟨rfl,⟨au,aU⟩⟩:=hx;obtain⟨bb,aJ,O⟩:=ae O;have aB:=bC (eI .i64) aJ;simp only[bX]at aB;have aH:=fP (eI .i64) (x':=an) (fo:=0) (cs:=[.int .i64 an]) aJ rfl (ahr rfl);simp only[bX,Nat.add_zero]at aH;have aD:=aH;simp only[putCells,List.length_cons,List.length_nil,agt,Nat.reduceAdd]at aD;have i52:=wh ([an]);simp only[bh,bX,List.length_cons,List.length_nil,agt,Nat.reduceAdd,ahI]at i52;obtain⟨bc,aK,O⟩:=ae O;obtain⟨bd,aL,O⟩:=ae O;obtain⟨bf,aM,O⟩:=ae O;cases O;try simp only[dr,seval,ah,ai,ak,Z,al,U,X,Y,aa,ad,ag,aU,aB,aH,aD,i52,aK,aL,aM]
    apply iP;refine⟨au,?_⟩;and_intros<;>first|rfl|(simp only[dr,seval,ah,ai,ak,Z,al,U,X,Y,aa,ad,ag,aU,aB,aH,aD,i52,aK,aL,aM]<;>rfl)
  ·cases O;try simp only[dr,seval,ah,ai,ak,Z,al,Za]
   apply jW;refine⟨rfl,⟨aw,?_⟩⟩;and_intros<;>first|rfl|(simp only[dr,seval,ah,ai,ak,Z,al,Za]<;>rfl)
 ·rintro x t H e hx;rcases aX with⟨ax,ay⟩;dsimp only at hx O;obtain⟨rfl,⟨az,a1⟩⟩:=hx;obtain⟨bg,aV,O⟩:=ae O;cases O;try simp only[dr,seval,ah,ai,ak,Z,al,a1,aV]
def lO (l:Option (D×Row)) (d:List D):=dP (gX (bt dB) (dL (bt dB))) (fun x:az×az=>xx x.1 x.2) (fun r:az×Int =>.clean (.tup [.agg [.int .i64 r.1.ah,.sl false false r.1.aa.length (ab (eI .i64) r.1.aa)],.int .i64 r.2])) l d
theorem xX {β:Type} {F:az×az->Option β} {R:β->RK} (X:Int) (O:(List Int)) (Y:Int) (U:(List Int)):dP (gX (bt dB) (dL (bt dB))) F R none [.agg [.int .i64 X,.sl false false O.length (ab (eI .i64) O)],.agg [.int .i64 Y,.sl false false U.length (ab (eI .i64) U)]]=(F ((az.mk X O),(az.mk Y U))).map fun r=>(R r,none):=cI _ _ _ ((az.mk X O),(az.mk Y U))
def yA:Env:=(Am.ext (Am.ext (Am.ext bk 84 false bo) 97 false cP) 122 false kp)
theorem P5:bF prog yA:=(((bF.none.add fO false).add kN false).add Ad false)
theorem eU:type_of% (ai @w<|ai @qC<|ai @bo.eq_1<|ai @Bj<|ai @cP.eq_1<|ai @As<|ai @kp.eq_1<|@yA.eq_1):=⟨@w,@qC,@bo.eq_1,@Bj,@cP.eq_1,@As,@kp.eq_1,@yA.eq_1⟩
theorem DV:bT prog 85 lO:=bT.gJ (mode := .clean) tok P5 mixed func85 (by kernel_rfl) (fun _ _=>rfl) (fun _=>by kernel_rfl) fun⟨p0,p1⟩ r O=>by
 replace O:xx p0 p1=some r:=O;apply aF rfl ntmps85 results85;simp only[gK];unfold xx at O;obtain⟨r1,U,O⟩:=ae O;try simp only[eU,seval,U]
 obtain⟨o2,av,O⟩:=ae O;refine bz 0 (fun s t H e=>match s with|Y=>∃Z:Nat,∃ad:Nat,∃X:Nat,t 2=.ptr 2 Z 0∧t 3=.ptr 3 ad 0∧t 4=.ptr 4 X 0∧t 17=.bool Y∧H 2=some ⟨Z,40,[.int .i64 p0.ah,.sl false false p0.aa.length (ab (eI .i64) p0.aa)],false,false,false⟩∧H 3=some ⟨ad,40,[.int .i64 p1.ah,.sl false false p1.aa.length (ab (eI .i64) p1.aa)],false,false,false⟩∧H 4=some ⟨X,40,[.int .i64 0,.sl true true 0 []],false,false,false⟩) (fun s=>s=o2) ?_ ?_
 ·rintro Y t H e ⟨Z,ad,X,an⟩ rfl;try dsimp only at O
  try simp only[eU,seval,U,an]
  apply sp aj O<;>intro _ O
  ·cases O;try simp only[eU,seval,U,an]
  ·try simp only[eU,seval,U,an]
   obtain⟨o6,aw,O⟩:=ae O;refine aC (fun s t H e=>match s with|(aq,ar)=>∃ag:Nat,t 4=.ptr 4 ag 0∧t 6=.sl false false aq.length (ab (eI .i64) aq)∧t 7=.sl false false ar.length (ab (eI .i64) ar)∧H 4=some ⟨ag,40,[.int .i64 0,.sl true true 0 []],false,false,false⟩) (fun o x t H e=>match o with|ai=>x=.exit 0∧∃ak:Nat,t 4=.ptr 4 ak 0∧t 6=.sl false false ai.length (ab (eI .i64) ai)∧H 4=some ⟨ak,40,[.int .i64 0,.sl true true 0 []],false,false,false⟩) aw ?_ ?_ ?_
   ·refine⟨X,?_⟩;and_intros<;>first|rfl|(simp only[eU,seval,U,an]<;>rfl)
   ·rintro⟨aq,ar⟩ t H e ⟨ag,Zb⟩ c O;simp only[D9]at O;try simp only[eU,seval,U,Zb]
    apply sp aj O<;>intro _ O
    ·obtain⟨r8,au,O⟩:=ae O;cases O;try simp only[eU,seval,U,Zb,au]
     apply iP;refine⟨ag,?_⟩;and_intros<;>first|rfl|(simp only[eU,seval,U,Zb,au]<;>rfl)
    ·cases O;try simp only[eU,seval,U,Zb]
     apply jW;refine⟨rfl,⟨ag,?_⟩⟩;and_intros<;>first|rfl|(simp only[eU,seval,U,Zb]<;>rfl)
   ·rintro x t H e hx;obtain⟨ai,rfl⟩:∃z,z=o6:=⟨_,rfl⟩;dsimp only at hx O;obtain⟨rfl,⟨ak,ax⟩⟩:=hx;obtain⟨r9,ay,O⟩:=ae O;cases O;try simp only[eU,seval,U,ax,ay]
 ·clear O;have O:=av;try simp only[eU,seval,U]
  apply sp aO O<;>intro _ O
  ·cases O;try simp only[eU,seval,U]
   rw[al];refine⟨_,rfl,?_⟩;refine⟨0,0,0,?_⟩;and_intros<;>first|rfl|(simp only[eU,seval,U]<;>rfl)
  ·obtain⟨az,ao,O⟩:=ae O;cases O;try simp only[eU,seval,U,ao]
   rw[al];refine⟨_,rfl,?_⟩;refine⟨0,0,0,?_⟩;and_intros<;>first|rfl|(simp only[eU,seval,U,ao]<;>rfl)
def lQ (l:Option (D×Row)) (d:List D):=dP (gX (mG (eI .i64)) (dL (mG (eI .i64)))) (fun x:(List Int)×(List Int)=>qw x.1 x.2) (fun r:(List Int) =>.clean (.sl false false r.length (ab (eI .i64) r))) l d
def vT:Env:=(Am.ext (Am.ext bk 129 false eh) 143 false eo)
theorem Md:bF prog vT:=((bF.none.add mU false).add nQ false)
theorem dE:type_of% (ai @w<|ai @Tr<|ai @eh.eq_1<|ai @Vy<|ai @eo.eq_1<|@vT.eq_1):=⟨@w,@Tr,@eh.eq_1,@Vy,@eo.eq_1,@vT.eq_1⟩
theorem Ae:bT prog 127 lQ:=bT.gJ (mode := .clean) tok Md mixed func127 (by kernel_rfl) (fun _ _=>rfl) (fun _=>by kernel_rfl) fun⟨p0,p1⟩ r O=>by
 replace O:qw p0 p1=some r:=O;apply aF rfl ntmps127 results127;simp only[gK];unfold qw at O;try simp only[dE,seval]
 obtain⟨aE,av,O⟩:=ae O;refine aC (fun s t H e=>match s with|(ar,au,Y)=>∃X:Nat,t 0=.sl false false p0.length (ab (eI .i64) p0)∧t 1=.sl false false p1.length (ab (eI .i64) p1)∧t 5=.buf 5 X 1 0 (Y).length∧t 6=.int .i64 ar∧t 7=.int .i64 au∧H 5=some ⟨X,3,ab (eI .i64) Y,false,true,false⟩) (fun o x t H e=>match o with|Z=>x=.exit 0∧∃aa:Nat,t 5=.buf 5 aa 1 0 (Z).length∧H 5=some ⟨aa,3,ab (eI .i64) Z,false,true,false⟩) av ?_ ?_ ?_
 ·refine⟨1,?_⟩;and_intros<;>first|rfl|(simp only[dE,seval]<;>rfl)
 ·rintro⟨ar,au,Y⟩ t H e ⟨X,Za⟩ c O;simp only[Ao]at O;try simp only[dE,seval,Za]
  obtain⟨aG,aw,O⟩:=ae O;refine bz 0 (fun s t H e=>match s with|ad=>∃U:Nat,t 0=.sl false false p0.length (ab (eI .i64) p0)∧t 1=.sl false false p1.length (ab (eI .i64) p1)∧t 5=.buf 5 U 1 0 (Y).length∧t 6=.int .i64 ar∧t 7=.int .i64 au∧t 22=.bool ad∧H 5=some ⟨U,3,ab (eI .i64) Y,false,true,false⟩) (fun s=>s=aG) ?_ ?_
  ·rintro ad t H e ⟨U,ag⟩ rfl;try dsimp only at O
   try simp only[dE,seval,ag]
   apply sp aj O<;>intro _ O
   ·obtain⟨aI,ai,O⟩:=ae O;obtain⟨aJ,ak,O⟩:=ae O;obtain⟨aK,ax,O⟩:=ae O;have ay:=uq ax;obtain⟨aL,az,O⟩:=ae O;obtain⟨an,ah,ao,aq⟩:=ir (eI .i64) az;simp only[bX]at ah;obtain⟨aM,aA,O⟩:=ae O;have aB:=rf aA;cases O;try simp only[dE,seval,ag,ai,ak,ay,an,ah,ao,aq,aB]
    apply iP;refine⟨e+1,?_⟩;and_intros<;>first|rfl|(simp only[dE,seval,ag,ai,ak,ay,an,ah,ao,aq,aB]<;>rfl)
   ·cases O;try simp only[dE,seval,ag]
    apply jW;refine⟨rfl,⟨U,?_⟩⟩;and_intros<;>first|rfl|(simp only[dE,seval,ag]<;>rfl)
  ·clear O;have O:=aw;try simp only[dE,seval,Za]
   apply sp aO O<;>intro _ O
   ·cases O;try simp only[dE,seval,Za]
    rw[al];refine⟨_,rfl,?_⟩;refine⟨X,?_⟩;and_intros<;>first|rfl|(simp only[dE,seval,Za]<;>rfl)
   ·try simp only[dE,seval,Za]
    apply sp aO O<;>intro _ O
    ·cases O;try simp only[dE,seval,Za]
     rw[al];refine⟨_,rfl,?_⟩;refine⟨X,?_⟩;and_intros<;>first|rfl|(simp only[dE,seval,Za]<;>rfl)
    ·cases O;try simp only[dE,seval,Za]
     rw[al];refine⟨_,rfl,?_⟩;refine⟨X,?_⟩;and_intros<;>first|rfl|(simp only[dE,seval,Za]<;>rfl)
 ·rintro x t H e hx;obtain⟨Z,rfl⟩:∃z,z=aE:=⟨_,rfl⟩;dsimp only at hx O;obtain⟨rfl,⟨aa,aH⟩⟩:=hx;obtain⟨aN,aD,O⟩:=ae O;cases O;try simp only[dE,seval,aH,aD]
def tO (l:Option (D×Row)) (d:List D):=dP (gX (bt dB) (dL (bt dB))) (fun x:az×az=>xw x.1 x.2) (fun r:az×az×Int =>.clean (.tup [.agg [.int .i64 r.1.ah,.sl false false r.1.aa.length (ab (eI .i64) r.1.aa)],.agg [.int .i64 r.2.1.ah,.sl false false r.2.1.aa.length (ab (eI .i64) r.2.1.aa)],.int .i64 r.2.2])) l d
theorem wg (O:(List Int)) (U:(List Int)):lQ none [.sl false false O.length (ab (eI .i64) O),.sl false false U.length (ab (eI .i64) U)]=(qw O U).map fun r:(List Int)=>(.clean (.sl false false r.length (ab (eI .i64) r)),none):=cI _ _ _ (O,U)
def yz:Env:=(Am.ext (Am.ext (Am.ext (Am.ext (Am.ext bk 84 false bo) 97 false cP) 122 false kp) 127 false lQ) 128 false fU)
theorem P4:bF prog yz:=(((((bF.none.add fO false).add kN false).add Ad false).add Ae false).add rG false)
theorem df:type_of% (ai @w<|ai @qC<|ai @bo.eq_1<|ai @Bj<|ai @cP.eq_1<|ai @As<|ai @kp.eq_1<|ai @wg<|ai @fU.eq_1<|@yz.eq_1):=⟨@w,@qC,@bo.eq_1,@Bj,@cP.eq_1,@As,@kp.eq_1,@wg,@fU.eq_1,@yz.eq_1⟩
theorem Qt:bT prog 96 tO:=bT.gJ (mode := .clean) tok P4 mixed func96 (by kernel_rfl) (fun _ _=>rfl) (fun _=>by kernel_rfl) fun⟨p0,p1⟩ r O=>by
 replace O:xw p0 p1=some r:=O;apply aF rfl ntmps96 results96;simp only[gK];unfold xw at O;obtain⟨r1,U,O⟩:=ae O;try simp only[df,seval,U]
 obtain⟨o2,aD,O⟩:=ae O;refine bz 0 (fun s t H e=>match s with|ak=>∃Z:Nat,∃ad:Nat,∃ag:Nat,∃ai:Nat,t 2=.ptr 2 Z 0∧t 3=.ptr 3 ad 0∧t 4=.ptr 4 ag 0∧t 5=.ptr 5 ai 0∧t 16=.bool ak∧H 2=some ⟨Z,40,[.int .i64 p0.ah,.sl false false p0.aa.length (ab (eI .i64) p0.aa)],false,false,false⟩∧H 3=some ⟨ad,40,[.int .i64 p1.ah,.sl false false p1.aa.length (ab (eI .i64) p1.aa)],false,false,false⟩∧H 4=some ⟨ag,40,[.int .i64 0,.sl true true 0 []],false,false,false⟩∧H 5=some ⟨ai,40,[.int .i64 0,.sl true true 0 []],false,false,false⟩) (fun s=>s=o2) ?_ ?_
 ·rintro ak t H e ⟨Z,ad,ag,ai,Y⟩ rfl;try dsimp only at O
  try simp only[df,seval,U,Y]
  apply sp aj O<;>intro _ O
  ·cases O;try simp only[df,seval,U,Y]
  ·try simp only[df,seval,U,Y]
   apply sp aj O<;>intro _ O
   ·cases O;try simp only[df,seval,U,Y]
   ·obtain⟨r5,X,O⟩:=ae O;try simp only[df,seval,U,Y,X]
    obtain⟨o6,aE,O⟩:=ae O;refine bz 0 (fun s t H e=>match s with|an=>∃ao:Nat,∃aq:Nat,∃ar:Nat,∃au:Nat,t 2=.ptr 2 ao 0∧t 3=.ptr 3 aq 0∧t 4=.ptr 4 ar 0∧t 5=.ptr 5 au 0∧t 7=.sl false false r5.1.length (ab (eI .i64) r5.1)∧t 8=.sl false false r5.2.length (ab (eI .i64) r5.2)∧t 42=.bool an∧H 2=some ⟨ao,40,[.int .i64 p0.ah,.sl false false p0.aa.length (ab (eI .i64) p0.aa)],false,false,false⟩∧H 3=some ⟨aq,40,[.int .i64 p1.ah,.sl false false p1.aa.length (ab (eI .i64) p1.aa)],false,false,false⟩∧H 4=some ⟨ar,40,[.int .i64 0,.sl true true 0 []],false,false,false⟩∧H 5=some ⟨au,40,[.int .i64 0,.sl true true 0 []],false,false,false⟩) (fun s=>s=o6) ?_ ?_
    ·rintro an t H e ⟨ao,aq,ar,au,av⟩ rfl;try dsimp only at O
     try simp only[df,seval,U,X,av]
     apply sp aj O<;>intro _ O
     ·obtain⟨r8,aB,O⟩:=ae O;obtain⟨r9,aC,O⟩:=ae O;try simp only[df,seval,U,X,av,aB,aC]
      refine bH (by kernel_rfl) ?_;cases O;try simp only[df,seval,U,X,av,aB,aC]
     ·have i10:=wg r5.1 ([1]);simp only[bh,bX,List.length_cons,List.length_nil,agt,Nat.reduceAdd,ahI]at i10;obtain⟨aG,aw,O⟩:=ae O;obtain⟨aH,ax,O⟩:=ae O;obtain⟨aI,ay,O⟩:=ae O;obtain⟨aJ,az,O⟩:=ae O;try simp only[df,seval,U,X,av,i10,aw,ax,ay,az]
      refine bH (by kernel_rfl) ?_;cases O;try simp only[df,seval,U,X,av,i10,aw,ax,ay,az]
    ·clear O;have O:=aE;try simp only[df,seval,U,Y,X]
     apply sp aO O<;>intro _ O
     ·cases O;try simp only[df,seval,U,Y,X]
      rw[al];refine⟨_,rfl,?_⟩;refine⟨Z,ad,ag,ai,?_⟩;and_intros<;>first|rfl|(simp only[df,seval,U,Y,X]<;>rfl)
     ·cases O;try simp only[df,seval,U,Y,X]
      rw[al];refine⟨_,rfl,?_⟩;refine⟨Z,ad,ag,ai,?_⟩;and_intros<;>first|rfl|(simp only[df,seval,U,Y,X]<;>rfl)
 ·clear O;have O:=aD;try simp only[df,seval,U]
  apply sp aO O<;>intro _ O
  ·cases O;try simp only[df,seval,U]
   rw[al];refine⟨_,rfl,?_⟩;refine⟨0,0,0,0,?_⟩;and_intros<;>first|rfl|(simp only[df,seval,U]<;>rfl)
  ·obtain⟨aK,aA,O⟩:=ae O;cases O;try simp only[df,seval,U,aA]
   rw[al];refine⟨_,rfl,?_⟩;refine⟨0,0,0,0,?_⟩;and_intros<;>first|rfl|(simp only[df,seval,U,aA]<;>rfl)
def lS (l:Option (D×Row)) (d:List D):=dP (gX (bt dB) (dL (bt dB))) (fun x:az×az=>xE x.1 x.2) (fun r:aw×Int =>.clean (.tup [.agg [.int .i64 r.1.cD.ah,.sl false false r.1.cD.aa.length (ab (eI .i64) r.1.cD.aa),.int .i64 r.1.cw.ah,.sl false false r.1.cw.aa.length (ab (eI .i64) r.1.cw.aa)],.int .i64 r.2])) l d
def yF:Env:=(Am.ext (Am.ext (Am.ext (Am.ext bk 84 false bo) 85 false lO) 95 false lP) 96 false tO)
theorem Qa:bF prog yF:=((((bF.none.add fO false).add DV false).add DW false).add Qt false)
theorem ew:type_of% (ai @w<|ai @qC<|ai @bo.eq_1<|ai @xX<|ai @lO.eq_1<|ai @lP.eq_1<|ai @tO.eq_1<|@yF.eq_1):=⟨@w,@qC,@bo.eq_1,@xX,@lO.eq_1,@lP.eq_1,@tO.eq_1,@yF.eq_1⟩
theorem DY:bT prog 59 lS:=bT.gJ (mode := .clean) tok Qa mixed func59 (by kernel_rfl) (fun _ _=>rfl) (fun _=>by kernel_rfl) fun⟨p0,p1⟩ r O=>by
 replace O:xE p0 p1=some r:=O;apply aF rfl ntmps59 results59;simp only[gK];unfold xE at O;obtain⟨r1,U,O⟩:=ae O;try simp only[ew,seval,U]
 obtain⟨o2,ay,O⟩:=ae O;refine bz 0 (fun s t H e=>match s with|ao=>∃ad:Nat,∃ag:Nat,∃ai:Nat,t 2=.ptr 2 ad 0∧t 3=.ptr 3 ag 0∧t 4=.ptr 4 ai 0∧t 21=.bool ao∧H 2=some ⟨ad,40,[.int .i64 p0.ah,.sl false false p0.aa.length (ab (eI .i64) p0.aa)],false,false,false⟩∧H 3=some ⟨ag,40,[.int .i64 p1.ah,.sl false false p1.aa.length (ab (eI .i64) p1.aa)],false,false,false⟩∧H 4=some ⟨ai,42,[.int .i64 0,.sl true true 0 [],.int .i64 0,.sl true true 0 []],false,false,false⟩) (fun s=>s=o2) ?_ ?_
 ·rintro ao t H e ⟨ad,ag,ai,X⟩ rfl;try dsimp only at O
  try simp only[ew,seval,U,X]
  apply sp aj O<;>intro _ O
  ·cases O;try simp only[ew,seval,U,X]
  ·try simp only[ew,seval,U,X]
   apply sp aj O<;>intro _ O
   ·cases O;try simp only[ew,seval,U,X]
   ·try simp only[ew,seval,U,X]
    obtain⟨o5,az,O⟩:=ae O;refine j9 0 (fun s t H e=>match s with|(ak,Y,an,Z)=>∃aq:Nat,∃ar:Nat,∃au:Nat,t 2=.ptr 2 aq 0∧t 3=.ptr 3 ar 0∧t 4=.ptr 4 au 0∧H 2=some ⟨aq,40,[.int .i64 ak,.sl false false Y.length (ab (eI .i64) Y)],false,false,false⟩∧H 3=some ⟨ar,40,[.int .i64 an,.sl false false Z.length (ab (eI .i64) Z)],false,false,false⟩∧H 4=some ⟨au,42,[.int .i64 0,.sl true true 0 [],.int .i64 0,.sl true true 0 []],false,false,false⟩) (fun s=>s=o5) ?_ ?_
    ·rintro⟨ak,Y,an,Z⟩ t H e ⟨aq,ar,au,aA⟩ rfl;try dsimp only at O
     obtain⟨r6,aB,O⟩:=ae O;obtain⟨r7,aC,O⟩:=ae O;obtain⟨r8,aD,O⟩:=ae O;cases O;try simp only[ew,seval,U,aA,aB,aC,aD]
    ·clear O;have O:=az;try simp only[ew,seval,U,X]
     apply sp aj O<;>intro _ O
     ·obtain⟨aE,av,O⟩:=ae O;obtain⟨aG,aw,O⟩:=ae O;cases O;try simp only[ew,seval,U,X,av,aw]
      rw[al];refine⟨_,rfl,?_⟩;refine⟨ad,ag,ai,?_⟩;and_intros<;>first|rfl|(simp only[ew,seval,U,X,av,aw]<;>rfl)
     ·cases O;try simp only[ew,seval,U,X]
      rw[al];refine⟨_,rfl,?_⟩;refine⟨ad,ag,ai,?_⟩;and_intros<;>first|rfl|(simp only[ew,seval,U,X]<;>rfl)
 ·clear O;have O:=ay;try simp only[ew,seval,U]
  apply sp aO O<;>intro _ O
  ·cases O;try simp only[ew,seval,U]
   rw[al];refine⟨_,rfl,?_⟩;refine⟨0,0,0,?_⟩;and_intros<;>first|rfl|(simp only[ew,seval,U]<;>rfl)
  ·obtain⟨aH,ax,O⟩:=ae O;cases O;try simp only[ew,seval,U,ax]
   rw[al];refine⟨_,rfl,?_⟩;refine⟨0,0,0,?_⟩;and_intros<;>first|rfl|(simp only[ew,seval,U,ax]<;>rfl)
def od (l:Option (D×Row)) (d:List D):=dP (gX (aI .i64) (dL (aI .i64))) (fun x:Int×Int=>Ea x.1 x.2) (fun r:aw×Int =>.clean (.tup [.agg [.int .i64 r.1.cD.ah,.sl false false r.1.cD.aa.length (ab (eI .i64) r.1.cD.aa),.int .i64 r.1.cw.ah,.sl false false r.1.cw.aa.length (ab (eI .i64) r.1.cw.aa)],.int .i64 r.2])) l d
theorem Vz {β:Type} {F:Int×Int->Option β} {R:β->RK} (O:Int) (U:Int):dP (gX (aI .i64) (dL (aI .i64))) F R none [.int .i64 O,.int .i64 U]=(F (O,U)).map fun r=>(R r,none):=cI _ _ _ (O,U)
def CQ:Env:=(Am.ext (Am.ext bk 59 false lS) 60 false oc)
theorem UA:bF prog CQ:=((bF.none.add DY false).add HF false)
theorem Zu:type_of% (ai @w<|ai @xX<|ai @lS.eq_1<|ai @Kc<|ai @oc.eq_1<|@CQ.eq_1):=⟨@w,@xX,@lS.eq_1,@Kc,@oc.eq_1,@CQ.eq_1⟩
theorem HG:bT prog 30 od:=bT.gJ (mode := .clean) tok UA mixed func30 (by kernel_rfl) (fun _ _=>rfl) (fun _=>by kernel_rfl) fun⟨Z,p1⟩ r O=>by
 replace O:Ea Z p1=some r:=O;apply aF rfl ntmps30 results30;simp only[gK];unfold Ea at O;obtain⟨r1,U,O⟩:=ae O;obtain⟨r2,X,O⟩:=ae O;obtain⟨r3,Y,O⟩:=ae O;cases O;try simp only[Zu,seval,U,X,Y]
def qH (l:Option (D×Row)) (d:List D):=dP (as0) (fun x:Unit=>xi) (fun r:aw =>.clean (.agg [.int .i64 r.cD.ah,.sl false false r.cD.aa.length (ab (eI .i64) r.cD.aa),.int .i64 r.cw.ah,.sl false false r.cw.aa.length (ab (eI .i64) r.cw.aa)])) l d
theorem sh8 {β:Type} {F:Unit->Option β} {R:β->RK} : dP (as0) F R none []=(F (())).map fun r=>(R r,none):=cI _ _ _ (())
def vM:Env:=(Am.ext bk 30 false od)
theorem L6:bF prog vM:=(bF.none.add HG false)
theorem Ro:type_of% (ai @w<|ai @Vz<|ai @od.eq_1<|@vM.eq_1):=⟨@w,@Vz,@od.eq_1,@vM.eq_1⟩
theorem NR:bT prog 32 qH:=bT.gJ (mode := .clean) tok L6 mixed func32 (by kernel_rfl) (fun _ _=>rfl) (fun _=>by kernel_rfl) fun _ r O=>by
 replace O:xi=some r:=O;apply aF rfl ntmps32 results32;simp only[gK];unfold xi at O;obtain⟨X,U,O⟩:=ae O;cases O;try simp only[Ro,seval,U]
def lR (l:Option (D×Row)) (d:List D):=dP (dL (aI .i64)) (fun x:Int=>xD x) (fun r:aw =>.clean (.agg [.int .i64 r.cD.ah,.sl false false r.cD.aa.length (ab (eI .i64) r.cD.aa),.int .i64 r.cw.ah,.sl false false r.cw.aa.length (ab (eI .i64) r.cw.aa)])) l d
def yE:Env:=(Am.ext bk 30 false od)
theorem P9:bF prog yE:=(bF.none.add HG false)
theorem Vw:type_of% (ai @w<|ai @Vz<|ai @od.eq_1<|@yE.eq_1):=⟨@w,@Vz,@od.eq_1,@yE.eq_1⟩
theorem DX:bT prog 25 lR:=bT.gJ (mode := .clean) tok P9 mixed func25 (by kernel_rfl) (fun _ _=>rfl) (fun _=>by kernel_rfl) fun X r O=>by
 replace O:xD X=some r:=O;apply aF rfl ntmps25 results25;simp only[gK];unfold xD at O;obtain⟨Y,U,O⟩:=ae O;cases O;try simp only[Vw,seval,U]
def qL (l:Option (D×Row)) (d:List D):=dP (gX (bt dB) (dL (bt dB))) (fun x:az×az=>xz x.1 x.2) (fun r:Bool =>.clean (.bool r)) l d
theorem NV:bT prog 123 qL:=bT.gJ (mode := .clean) tok bF.none mixed func123 (by kernel_rfl) (fun _ _=>rfl) (fun _=>by kernel_rfl) fun⟨p0,p1⟩ r O=>by
 replace O:xz p0 p1=some r:=O;apply aF rfl ntmps123 results123;simp only[gK];unfold xz at O;try simp only[w,seval]
 obtain⟨o1,aq,O⟩:=ae O;refine bz 0 (fun s t H e=>match s with|ad=>∃Y:Nat,∃Z:Nat,t 2=.ptr 2 Y 0∧t 3=.ptr 3 Z 0∧t 19=.bool ad∧H 2=some ⟨Y,40,[.int .i64 p0.ah,.sl false false p0.aa.length (ab (eI .i64) p0.aa)],false,false,false⟩∧H 3=some ⟨Z,40,[.int .i64 p1.ah,.sl false false p1.aa.length (ab (eI .i64) p1.aa)],false,false,false⟩) (fun s=>s=o1) ?_ ?_
 ·rintro ad t H e ⟨Y,Z,ag⟩ rfl;try dsimp only at O
  try simp only[w,seval,ag]
  apply sp aj O<;>intro _ O
  ·cases O;try simp only[w,seval,ag]
  ·try simp only[w,seval,ag]
   obtain⟨o7,ar,O⟩:=ae O;refine aC (fun s t H e=>match s with|an=>∃ai:Nat,∃ak:Nat,t 2=.ptr 2 ai 0∧t 3=.ptr 3 ak 0∧t 5=.int .i64 an∧H 2=some ⟨ai,40,[.int .i64 p0.ah,.sl false false p0.aa.length (ab (eI .i64) p0.aa)],false,false,false⟩∧H 3=some ⟨ak,40,[.int .i64 p1.ah,.sl false false p1.aa.length (ab (eI .i64) p1.aa)],false,false,false⟩) (fun o x t H e=>match o with|(.inl _)=>x=.exit 0|(.inr r)=>x=.ret∧fH .clean tab none [.tmp 4] ⟨t,EH H,e⟩=some (.clean (.bool r),none)) ar ?_ ?_ ?_
   ·refine⟨Y,Z,?_⟩;and_intros<;>first|rfl|(simp only[w,seval,ag]<;>rfl)
   ·rintro an t H e ⟨ai,ak,Zb⟩ c O;simp only[Aj]at O;try simp only[w,seval,Zb]
    apply sp aj O<;>intro _ O
    ·obtain⟨x9,au,O⟩:=ae O;have X:=bC (eI .i64) au;simp only[bX]at X;obtain⟨av,ao,O⟩:=ae O;have U:=bC (eI .i64) ao;simp only[bX]at U;try simp only[w,seval,Zb,X,U]
     refine bH (by kernel_rfl) ?_;try simp only[w,seval,Zb,X,U]
     apply sp aj O<;>intro _ O
     ·cases O;try simp only[w,seval,Zb,X,U]
      refine rv ⟨rfl,?_⟩;try simp only[w,seval,Zb,X,U]
     ·cases O;try simp only[w,seval,Zb,X,U]
      apply iP;refine⟨ai,ak,?_⟩;and_intros<;>first|rfl|(simp only[w,seval,Zb,X,U]<;>rfl)
    ·cases O;try simp only[w,seval,Zb]
     apply jW;exact rfl
   ·rintro x t H e hx;rcases o7 with _|rb
    ·dsimp only at hx O;subst hx;cases O;try simp only[w,seval]
    ·dsimp only at hx O;obtain⟨rfl,hE⟩:=hx;cases O;try simp only[bc,aX,bj,cJ,cG,cc,cd]
     exact hE
 ·clear O;have O:=aq;try simp only[w,seval]
  apply sp aO O<;>intro _ O
  ·cases O;try simp only[w,seval]
   rw[al];refine⟨_,rfl,?_⟩;refine⟨0,0,?_⟩;and_intros<;>first|rfl|(simp only[w,seval]<;>rfl)
  ·cases O;try simp only[w,seval]
   rw[al];refine⟨_,rfl,?_⟩;refine⟨0,0,?_⟩;and_intros<;>first|rfl|(simp only[w,seval]<;>rfl)
def mA (l:Option (D×Row)) (d:List D):=dP (gX (bt dB) (dL (bt dB))) (fun x:az×az=>pG x.1 x.2) (fun r:Int =>.clean (.int .i64 r)) l d
def pV:Env:=(Am.ext (Am.ext (Am.ext bk 84 false bo) 123 false qL) 124 false gM)
theorem CZ:bF prog pV:=(((bF.none.add fO false).add NV false).add tw false)
theorem bQ:type_of% (ai @w<|ai @qC<|ai @bo.eq_1<|ai @xX<|ai @qL.eq_1<|ai @As<|ai @gM.eq_1<|@pV.eq_1):=⟨@w,@qC,@bo.eq_1,@xX,@qL.eq_1,@As,@gM.eq_1,@pV.eq_1⟩
theorem DU:bT prog 86 mA:=bT.gJ (mode := .clean) tok CZ mixed func86 (by kernel_rfl) (fun _ _=>rfl) (fun _=>by kernel_rfl) fun⟨p0,p1⟩ r U=>by
 replace U:pG p0 p1=some r:=U;apply aF rfl ntmps86 results86;simp only[gK];unfold pG at U;obtain⟨r1,O,U⟩:=ae U;try simp only[bQ,seval,O]
 obtain⟨o2,an,U⟩:=ae U;refine bz 0 (fun s t H e=>match s with|Y=>∃Z:Nat,∃ad:Nat,t 2=.ptr 2 Z 0∧t 3=.ptr 3 ad 0∧t 17=.bool Y∧H 2=some ⟨Z,40,[.int .i64 p0.ah,.sl false false p0.aa.length (ab (eI .i64) p0.aa)],false,false,false⟩∧H 3=some ⟨ad,40,[.int .i64 p1.ah,.sl false false p1.aa.length (ab (eI .i64) p1.aa)],false,false,false⟩) (fun s=>s=o2) ?_ ?_
 ·rintro Y t H e ⟨Z,ad,X⟩ rfl;try dsimp only at U
  try simp only[bQ,seval,O,X]
  apply sp aj U<;>intro _ U
  ·cases U;try simp only[bQ,seval,O,X]
  ·try simp only[bQ,seval,O,X]
   apply sp aj U<;>intro _ U
   ·try simp only[bQ,seval,O,X]
    apply sp aj U<;>intro _ U
    ·cases U;try simp only[bQ,seval,O,X]
    ·cases U;try simp only[bQ,seval,O,X]
   ·obtain⟨r6,ai,U⟩:=ae U;try simp only[bQ,seval,O,X,ai]
    refine bH (by kernel_rfl) ?_;try simp only[bQ,seval,O,X,ai]
    apply sp aj U<;>intro _ U
    ·cases U;try simp only[bQ,seval,O,X,ai]
    ·cases U;try simp only[bQ,seval,O,X,ai]
 ·clear U;have U:=an;try simp only[bQ,seval,O]
  apply sp aO U<;>intro _ U
  ·cases U;try simp only[bQ,seval,O]
   rw[al];refine⟨_,rfl,?_⟩;refine⟨0,0,?_⟩;and_intros<;>first|rfl|(simp only[bQ,seval,O]<;>rfl)
  ·obtain⟨r9,ag,U⟩:=ae U;try simp only[bQ,seval,O,ag]
   apply sp aO U<;>intro _ U
   ·cases U;try simp only[bQ,seval,O,ag]
    rw[al];refine⟨_,rfl,?_⟩;refine⟨0,0,?_⟩;and_intros<;>first|rfl|(simp only[bQ,seval,O,ag]<;>rfl)
   ·obtain⟨ao,ak,U⟩:=ae U;cases U;try simp only[bQ,seval,O,ag,ak]
    rw[al];refine⟨_,rfl,?_⟩;refine⟨0,0,?_⟩;and_intros<;>first|rfl|(simp only[bQ,seval,O,ag,ak]<;>rfl)
def pg (l:Option (D×Row)) (d:List D):=dP (dL (bt aD)) (fun x:aw=>qy x) (fun r:Bool =>.clean (.bool r)) l d
theorem Bk {β:Type} {F:aw->Option β} {R:β->RK} (X:Int) (O:(List Int)) (Y:Int) (U:(List Int)):dP (dL (bt aD)) F R none [.agg [.int .i64 X,.sl false false O.length (ab (eI .i64) O),.int .i64 Y,.sl false false U.length (ab (eI .i64) U)]]=(F ((aw.mk (az.mk X O) (az.mk Y U)))).map fun r=>(R r,none):=cI _ _ _ ((aw.mk (az.mk X O) (az.mk Y U)))
def tf:Env:=(Am.ext (Am.ext (Am.ext (Am.ext bk 60 false oc) 84 false bo) 85 false lO) 86 false mA)
theorem Jp:bF prog tf:=((((bF.none.add HF false).add fO false).add DV false).add DU false)
theorem ey:type_of% (ai @w<|ai @Kc<|ai @oc.eq_1<|ai @qC<|ai @bo.eq_1<|ai @xX<|ai @lO.eq_1<|ai @mA.eq_1<|@tf.eq_1):=⟨@w,@Kc,@oc.eq_1,@qC,@bo.eq_1,@xX,@lO.eq_1,@mA.eq_1,@tf.eq_1⟩
theorem JC:bT prog 52 pg:=bT.gJ (mode := .clean) tok Jp mixed func52 (by kernel_rfl) (fun _ _=>rfl) (fun _=>by kernel_rfl) fun p0 r O=>by
 replace O:qy p0=some r:=O;apply aF rfl ntmps52 results52;simp only[gK];unfold qy at O;obtain⟨r1,U,O⟩:=ae O;try simp only[ey,seval,U]
 obtain⟨o2,an,O⟩:=ae O;refine bz 0 (fun s t H e=>match s with|X=>∃Y:Nat,t 1=.ptr 1 Y 0∧t 20=.bool X∧H 1=some ⟨Y,42,[.int .i64 p0.cD.ah,.sl false false p0.cD.aa.length (ab (eI .i64) p0.cD.aa),.int .i64 p0.cw.ah,.sl false false p0.cw.aa.length (ab (eI .i64) p0.cw.aa)],false,false,false⟩) (fun s=>s=o2) ?_ ?_
 ·rintro X t H e ⟨Y,ad⟩ rfl;try dsimp only at O
  try simp only[ey,seval,U,ad]
  apply sp aj O<;>intro _ O
  ·cases O;try simp only[ey,seval,U,ad]
  ·obtain⟨r4,ag,O⟩:=ae O;obtain⟨r5,ai,O⟩:=ae O;obtain⟨r6,ak,O⟩:=ae O;try simp only[ey,seval,U,ad,ag,ai,ak]
   refine bH (by kernel_rfl) ?_;cases O;try simp only[ey,seval,U,ad,ag,ai,ak]
 ·clear O;have O:=an;try simp only[ey,seval,U]
  apply sp aO O<;>intro _ O
  ·cases O;try simp only[ey,seval,U]
   rw[al];refine⟨_,rfl,?_⟩;refine⟨0,?_⟩;and_intros<;>first|rfl|(simp only[ey,seval,U]<;>rfl)
  ·obtain⟨r8,Z,O⟩:=ae O;try simp only[ey,seval,U,Z]
   apply sp aO O<;>intro _ O
   ·cases O;try simp only[ey,seval,U,Z]
    rw[al];refine⟨_,rfl,?_⟩;refine⟨0,?_⟩;and_intros<;>first|rfl|(simp only[ey,seval,U,Z]<;>rfl)
   ·cases O;try simp only[ey,seval,U,Z]
    rw[al];refine⟨_,rfl,?_⟩;refine⟨0,?_⟩;and_intros<;>first|rfl|(simp only[ey,seval,U,Z]<;>rfl)
def tP (l:Option (D×Row)) (d:List D):=dP (gX (bt dB) (dL (bt dB))) (fun x:az×az=>uw x.1 x.2) (fun r:az×Int =>.clean (.tup [.agg [.int .i64 r.1.ah,.sl false false r.1.aa.length (ab (eI .i64) r.1.aa)],.int .i64 r.2])) l d
def yB:Env:=(Am.ext (Am.ext (Am.ext bk 84 false bo) 97 false cP) 130 false kD)
theorem P6:bF prog yB:=(((bF.none.add fO false).add kN false).add xu false)
theorem iK:type_of% (ai @w<|ai @qC<|ai @bo.eq_1<|ai @Bj<|ai @cP.eq_1<|ai @As<|ai @kD.eq_1<|@yB.eq_1):=⟨@w,@qC,@bo.eq_1,@Bj,@cP.eq_1,@As,@kD.eq_1,@yB.eq_1⟩
theorem Qu:bT prog 98 tP:=bT.gJ (mode := .clean) tok P6 mixed func98 (by kernel_rfl) (fun _ _=>rfl) (fun _=>by kernel_rfl) fun⟨p0,p1⟩ r O=>by
 replace O:uw p0 p1=some r:=O;apply aF rfl ntmps98 results98;simp only[gK];unfold uw at O;obtain⟨r1,U,O⟩:=ae O;try simp only[iK,seval,U]
 obtain⟨o2,ao,O⟩:=ae O;refine bz 0 (fun s t H e=>match s with|X=>∃Y:Nat,∃Z:Nat,∃ad:Nat,t 2=.ptr 2 Y 0∧t 3=.ptr 3 Z 0∧t 4=.ptr 4 ad 0∧t 13=.bool X∧H 2=some ⟨Y,40,[.int .i64 p0.ah,.sl false false p0.aa.length (ab (eI .i64) p0.aa)],false,false,false⟩∧H 3=some ⟨Z,40,[.int .i64 p1.ah,.sl false false p1.aa.length (ab (eI .i64) p1.aa)],false,false,false⟩∧H 4=some ⟨ad,40,[.int .i64 0,.sl true true 0 []],false,false,false⟩) (fun s=>s=o2) ?_ ?_
 ·rintro X t H e ⟨Y,Z,ad,ag⟩ rfl;try dsimp only at O
  try simp only[iK,seval,U,ag]
  apply sp aj O<;>intro _ O
  ·cases O;try simp only[iK,seval,U,ag]
  ·obtain⟨r4,ai,O⟩:=ae O;obtain⟨r5,ak,O⟩:=ae O;try simp only[iK,seval,U,ag,ai,ak]
   refine bH (by kernel_rfl) ?_;cases O;try simp only[iK,seval,U,ag,ai,ak]
 ·clear O;have O:=ao;try simp only[iK,seval,U]
  apply sp aO O<;>intro _ O
  ·cases O;try simp only[iK,seval,U]
   rw[al];refine⟨_,rfl,?_⟩;refine⟨0,0,0,?_⟩;and_intros<;>first|rfl|(simp only[iK,seval,U]<;>rfl)
  ·obtain⟨r7,an,O⟩:=ae O;cases O;try simp only[iK,seval,U,an]
   rw[al];refine⟨_,rfl,?_⟩;refine⟨0,0,0,?_⟩;and_intros<;>first|rfl|(simp only[iK,seval,U,an]<;>rfl)
def tN (l:Option (D×Row)) (d:List D):=dP (gX (bt dB) (dL (bt dB))) (fun x:az×az=>Be x.1 x.2) (fun r:az×Int =>.clean (.tup [.agg [.int .i64 r.1.ah,.sl false false r.1.aa.length (ab (eI .i64) r.1.aa)],.int .i64 r.2])) l d
def yy:Env:=(Am.ext (Am.ext (Am.ext (Am.ext (Am.ext bk 84 false bo) 97 false cP) 124 false gM) 127 false lQ) 128 false fU)
theorem P3:bF prog yy:=(((((bF.none.add fO false).add kN false).add tw false).add Ae false).add rG false)
theorem cn:type_of% (ai @w<|ai @qC<|ai @bo.eq_1<|ai @Bj<|ai @cP.eq_1<|ai @As<|ai @gM.eq_1<|ai @lQ.eq_1<|ai @fU.eq_1<|@yy.eq_1):=⟨@w,@qC,@bo.eq_1,@Bj,@cP.eq_1,@As,@gM.eq_1,@lQ.eq_1,@fU.eq_1,@yy.eq_1⟩
theorem Qs:bT prog 119 tN:=bT.gJ (mode := .clean) tok P3 mixed func119 (by kernel_rfl) (fun _ _=>rfl) (fun _=>by kernel_rfl) fun⟨p0,p1⟩ r O=>by
 replace O:Be p0 p1=some r:=O;apply aF rfl ntmps119 results119;simp only[gK];unfold Be at O;obtain⟨r1,U,O⟩:=ae O;try simp only[cn,seval,U]
 obtain⟨o2,aB,O⟩:=ae O;refine bz 0 (fun s t H e=>match s with|ai=>∃Y:Nat,∃Z:Nat,∃ad:Nat,t 2=.ptr 2 Y 0∧t 3=.ptr 3 Z 0∧t 4=.ptr 4 ad 0∧t 13=.bool ai∧H 2=some ⟨Y,40,[.int .i64 p0.ah,.sl false false p0.aa.length (ab (eI .i64) p0.aa)],false,false,false⟩∧H 3=some ⟨Z,40,[.int .i64 p1.ah,.sl false false p1.aa.length (ab (eI .i64) p1.aa)],false,false,false⟩∧H 4=some ⟨ad,40,[.int .i64 0,.sl true true 0 []],false,false,false⟩) (fun s=>s=o2) ?_ ?_
 ·rintro ai t H e ⟨Y,Z,ad,X⟩ rfl;try dsimp only at O
  try simp only[cn,seval,U,X]
  apply sp aj O<;>intro _ O
  ·cases O;try simp only[cn,seval,U,X]
  ·try simp only[cn,seval,U,X]
   obtain⟨o4,aC,O⟩:=ae O;refine bz 0 (fun s t H e=>match s with|ak=>∃an:Nat,∃ao:Nat,∃aq:Nat,t 2=.ptr 2 an 0∧t 3=.ptr 3 ao 0∧t 4=.ptr 4 aq 0∧t 29=.bool ak∧H 2=some ⟨an,40,[.int .i64 p0.ah,.sl false false p0.aa.length (ab (eI .i64) p0.aa)],false,false,false⟩∧H 3=some ⟨ao,40,[.int .i64 p1.ah,.sl false false p1.aa.length (ab (eI .i64) p1.aa)],false,false,false⟩∧H 4=some ⟨aq,40,[.int .i64 0,.sl true true 0 []],false,false,false⟩) (fun s=>s=o4) ?_ ?_
   ·rintro ak t H e ⟨an,ao,aq,ag⟩ rfl;try dsimp only at O
    try simp only[cn,seval,U,ag]
    apply sp aj O<;>intro _ O
    ·obtain⟨r6,az,O⟩:=ae O;obtain⟨r7,aA,O⟩:=ae O;try simp only[cn,seval,U,ag,az,aA]
     refine bH (by kernel_rfl) ?_;cases O;try simp only[cn,seval,U,ag,az,aA]
    ·obtain⟨r8,ar,O⟩:=ae O;try simp only[cn,seval,U,ag,ar]
     apply sp aj O<;>intro _ O
     ·obtain⟨aD,au,O⟩:=ae O;obtain⟨aE,av,O⟩:=ae O;try simp only[cn,seval,U,ag,ar,au,av]
      refine bH (by kernel_rfl) ?_;cases O;try simp only[cn,seval,U,ag,ar,au,av]
     ·obtain⟨aG,aw,O⟩:=ae O;obtain⟨aH,ax,O⟩:=ae O;try simp only[cn,seval,U,ag,ar,aw,ax]
      refine bH (by kernel_rfl) ?_;cases O;try simp only[cn,seval,U,ag,ar,aw,ax]
   ·clear O;have O:=aC;try simp only[cn,seval,U,X]
    apply sp aO O<;>intro _ O
    ·cases O;try simp only[cn,seval,U,X]
     rw[al];refine⟨_,rfl,?_⟩;refine⟨Y,Z,ad,?_⟩;and_intros<;>first|rfl|(simp only[cn,seval,U,X]<;>rfl)
    ·try simp only[cn,seval,U,X]
     apply sp aO O<;>intro _ O
     ·cases O;try simp only[cn,seval,U,X]
      rw[al];refine⟨_,rfl,?_⟩;refine⟨Y,Z,ad,?_⟩;and_intros<;>first|rfl|(simp only[cn,seval,U,X]<;>rfl)
     ·cases O;try simp only[cn,seval,U,X]
      rw[al];refine⟨_,rfl,?_⟩;refine⟨Y,Z,ad,?_⟩;and_intros<;>first|rfl|(simp only[cn,seval,U,X]<;>rfl)
 ·clear O;have O:=aB;try simp only[cn,seval,U]
  apply sp aO O<;>intro _ O
  ·cases O;try simp only[cn,seval,U]
   rw[al];refine⟨_,rfl,?_⟩;refine⟨0,0,0,?_⟩;and_intros<;>first|rfl|(simp only[cn,seval,U]<;>rfl)
  ·obtain⟨aI,ay,O⟩:=ae O;cases O;try simp only[cn,seval,U,ay]
   rw[al];refine⟨_,rfl,?_⟩;refine⟨0,0,0,?_⟩;and_intros<;>first|rfl|(simp only[cn,seval,U,ay]<;>rfl)
def tQ (l:Option (D×Row)) (d:List D):=dP (gX (bt dB) (dL (bt dB))) (fun x:az×az=>Bf x.1 x.2) (fun r:az×Int =>.clean (.tup [.agg [.int .i64 r.1.ah,.sl false false r.1.aa.length (ab (eI .i64) r.1.aa)],.int .i64 r.2])) l d
def yD:Env:=(Am.ext (Am.ext (Am.ext bk 84 false bo) 95 false lP) 119 false tN)
theorem P8:bF prog yD:=(((bF.none.add fO false).add DW false).add Qs false)
theorem uO:type_of% (ai @w<|ai @qC<|ai @bo.eq_1<|ai @lP.eq_1<|ai @xX<|ai @tN.eq_1<|@yD.eq_1):=⟨@w,@qC,@bo.eq_1,@lP.eq_1,@xX,@tN.eq_1,@yD.eq_1⟩
theorem Qv:bT prog 99 tQ:=bT.gJ (mode := .clean) tok P8 mixed func99 (by kernel_rfl) (fun _ _=>rfl) (fun _=>by kernel_rfl) fun⟨Z,p1⟩ r O=>by
 replace O:Bf Z p1=some r:=O;apply aF rfl ntmps99 results99;simp only[gK];unfold Bf at O;obtain⟨r1,U,O⟩:=ae O;try simp only[uO,seval,U]
 apply sp aj O<;>intro _ O
 ·cases O;try simp only[uO,seval,U]
 ·obtain⟨r3,X,O⟩:=ae O;obtain⟨r4,Y,O⟩:=ae O;try simp only[uO,seval,U,X,Y]
  refine bH (by kernel_rfl) ?_;cases O;try simp only[uO,seval,U,X,Y]
def tS (l:Option (D×Row)) (d:List D):=dP (gX (bt aD) (dL (bt aD))) (fun x:aw×aw=>Bg x.1 x.2) (fun r:aw×Int =>.clean (.tup [.agg [.int .i64 r.1.cD.ah,.sl false false r.1.cD.aa.length (ab (eI .i64) r.1.cD.aa),.int .i64 r.1.cw.ah,.sl false false r.1.cw.aa.length (ab (eI .i64) r.1.cw.aa)],.int .i64 r.2])) l d
theorem uT {β:Type} {F:aw×aw->Option β} {R:β->RK} (Z:Int) (O:(List Int)) (aa:Int) (U:(List Int)) (ad:Int) (X:(List Int)) (ae:Int) (Y:(List Int)):dP (gX (bt aD) (dL (bt aD))) F R none [.agg [.int .i64 Z,.sl false false O.length (ab (eI .i64) O),.int .i64 aa,.sl false false U.length (ab (eI .i64) U)],.agg [.int .i64 ad,.sl false false X.length (ab (eI .i64) X),.int .i64 ae,.sl false false Y.length (ab (eI .i64) Y)]]=(F ((aw.mk (az.mk Z O) (az.mk aa U)),(aw.mk (az.mk ad X) (az.mk ae Y)))).map fun r=>(R r,none):=cI _ _ _ ((aw.mk (az.mk Z O) (az.mk aa U)),(aw.mk (az.mk ad X) (az.mk ae Y)))
def yG:Env:=(Am.ext (Am.ext (Am.ext (Am.ext bk 52 false pg) 59 false lS) 98 false tP) 99 false tQ)
theorem Qb:bF prog yG:=((((bF.none.add JC false).add DY false).add Qu false).add Qv false)
theorem jL:type_of% (ai @w<|ai @Bk<|ai @pg.eq_1<|ai @xX<|ai @lS.eq_1<|ai @tP.eq_1<|ai @tQ.eq_1<|@yG.eq_1):=⟨@w,@Bk,@pg.eq_1,@xX,@lS.eq_1,@tP.eq_1,@tQ.eq_1,@yG.eq_1⟩
theorem Qx:bT prog 61 tS:=bT.gJ (mode := .clean) tok Qb mixed func61 (by kernel_rfl) (fun _ _=>rfl) (fun _=>by kernel_rfl) fun⟨p0,p1⟩ r O=>by
 replace O:Bg p0 p1=some r:=O;apply aF rfl ntmps61 results61;simp only[gK];unfold Bg at O;obtain⟨r1,U,O⟩:=ae O;try simp only[jL,seval,U]
 obtain⟨o2,ak,O⟩:=ae O;refine bz 0 (fun s t H e=>match s with|X=>∃Y:Nat,∃Z:Nat,∃ad:Nat,t 2=.ptr 2 Y 0∧t 3=.ptr 3 Z 0∧t 4=.ptr 4 ad 0∧t 21=.bool X∧H 2=some ⟨Y,42,[.int .i64 p0.cD.ah,.sl false false p0.cD.aa.length (ab (eI .i64) p0.cD.aa),.int .i64 p0.cw.ah,.sl false false p0.cw.aa.length (ab (eI .i64) p0.cw.aa)],false,false,false⟩∧H 3=some ⟨Z,42,[.int .i64 p1.cD.ah,.sl false false p1.cD.aa.length (ab (eI .i64) p1.cD.aa),.int .i64 p1.cw.ah,.sl false false p1.cw.aa.length (ab (eI .i64) p1.cw.aa)],false,false,false⟩∧H 4=some ⟨ad,42,[.int .i64 0,.sl true true 0 [],.int .i64 0,.sl true true 0 []],false,false,false⟩) (fun s=>s=o2) ?_ ?_
 ·rintro X t H e ⟨Y,Z,ad,ai⟩ rfl;try dsimp only at O
  try simp only[jL,seval,U,ai]
  apply sp aj O<;>intro _ O
  ·cases O;try simp only[jL,seval,U,ai]
  ·obtain⟨r4,an,O⟩:=ae O;obtain⟨r5,ao,O⟩:=ae O;obtain⟨r6,aq,O⟩:=ae O;obtain⟨r7,ar,O⟩:=ae O;obtain⟨r8,au,O⟩:=ae O;cases O;try simp only[jL,seval,U,ai,an,ao,aq,ar,au]
 ·clear O;have O:=ak;try simp only[jL,seval,U]
  apply sp aO O<;>intro _ O
  ·cases O;try simp only[jL,seval,U]
   rw[al];refine⟨_,rfl,?_⟩;refine⟨0,0,0,?_⟩;and_intros<;>first|rfl|(simp only[jL,seval,U]<;>rfl)
  ·obtain⟨av,ag,O⟩:=ae O;cases O;try simp only[jL,seval,U,ag]
   rw[al];refine⟨_,rfl,?_⟩;refine⟨0,0,0,?_⟩;and_intros<;>first|rfl|(simp only[jL,seval,U,ag]<;>rfl)
def mv (l:Option (D×Row)) (d:List D):=dP (gX (aI .i64) (dL (bt aD))) (fun x:Int×aw=>kH x.1 x.2) (fun r:bA =>.clean (.agg [.sl false false r.ax.length (ab (eI .i64) r.ax),.sl false false r.ao.length (ab b6 r.ao)])) l d
theorem adu {β:Type} {F:Int×aw->Option β} {R:β->RK} (Z:Int) (X:Int) (O:(List Int)) (Y:Int) (U:(List Int)):dP (gX (aI .i64) (dL (bt aD))) F R none [.int .i64 Z,.agg [.int .i64 X,.sl false false O.length (ab (eI .i64) O),.int .i64 Y,.sl false false U.length (ab (eI .i64) U)]]=(F (Z,(aw.mk (az.mk X O) (az.mk Y U)))).map fun r=>(R r,none):=cI _ _ _ (Z,(aw.mk (az.mk X O) (az.mk Y U)))
def pR:Env:=(Am.ext (Am.ext bk 25 false lR) 61 false tS)
theorem CV:bF prog pR:=((bF.none.add DX false).add Qx false)
theorem Fw:type_of% (ai @w<|ai @Kc<|ai @lR.eq_1<|ai @uT<|ai @tS.eq_1<|@pR.eq_1):=⟨@w,@Kc,@lR.eq_1,@uT,@tS.eq_1,@pR.eq_1⟩
theorem DP:bT prog 31 mv:=bT.gJ (mode := .clean) tok CV mixed func31 (by kernel_rfl) (fun _ _=>rfl) (fun _=>by kernel_rfl) fun⟨Y,Z⟩ r O=>by
 replace O:kH Y Z=some r:=O;apply aF rfl ntmps31 results31;simp only[gK];unfold kH at O;obtain⟨r1,U,O⟩:=ae O;obtain⟨r2,X,O⟩:=ae O;cases O;try simp only[Fw,seval,U,X]
def ca (l:Option (D×Row)) (d:List D):=dP (gX (aI .i64) (gX (aI .i64) (dL (aI .i64)))) (fun x:Int×Int×Int=>dM x.1 x.2.1 x.2.2) (fun r:Bool =>.clean (.bool r)) l d
theorem A0 {β:Type} {F:Int×Int×Int->Option β} {R:β->RK} (O:Int) (U:Int) (X:Int):dP (gX (aI .i64) (gX (aI .i64) (dL (aI .i64)))) F R none [.int .i64 O,.int .i64 U,.int .i64 X]=(F (O,U,X)).map fun r=>(R r,none):=cI _ _ _ (O,U,X)
theorem iH:bT prog 35 ca:=bT.gJ (mode := .clean) tok bF.none mixed func35 (by kernel_rfl) (fun _ _=>rfl) (fun _=>by kernel_rfl) fun⟨U,X,Y⟩ r O=>by
 replace O:dM U X Y=some r:=O;apply aF rfl ntmps35 results35;simp only[gK];unfold dM at O;try simp only[w,seval]
 apply sp eW O<;>intro _ O
 ·cases O;try simp only[w,seval]
 ·cases O;try simp only[w,seval]
def e8 (l:Option (D×Row)) (d:List D):=dP (dL (mG (eI .i64))) (fun x:(List Int)=>er x) (fun r:(List Int) =>.clean (.sl false false r.length (ab (eI .i64) r))) l d
theorem mT:bT prog 125 e8:=bT.gJ (mode := .clean) tok bF.none mixed func125 (by kernel_rfl) (fun _ _=>rfl) (fun _=>by kernel_rfl) fun Z r O=>by
 replace O:er Z=some r:=O;apply aF rfl ntmps125 results125;simp only[gK];unfold er at O;try simp only[w,seval]
 obtain⟨o4,ag,O⟩:=ae O;refine aC (fun s t H e=>match s with|aa=>t 0=.sl false false Z.length (ab (eI .i64) Z)∧t 3=.int .i64 aa) (fun o x t H e=>match o with|X=>x=.exit 0∧t 0=.sl false false Z.length (ab (eI .i64) Z)∧t 3=.int .i64 X) ag ?_ ?_ ?_
 ·and_intros<;>first|rfl|(simp only[w,seval]<;>rfl)
 ·rintro aa t H e Y c O;simp only[mH]at O;try simp only[w,seval,Y]
  apply sp eW O<;>intro _ O
  ·obtain⟨x6,ah,O⟩:=ae O;have U:=bC (eI .i64) ah;simp only[bX]at U;try simp only[w,seval,Y,U]
   apply sp aj O<;>intro _ O
   ·cases O;try simp only[w,seval,Y,U]
    apply iP;and_intros<;>first|rfl|(simp only[w,seval,Y,U]<;>rfl)
   ·cases O;try simp only[w,seval,Y,U]
    apply jW;refine⟨rfl,?_⟩;and_intros<;>first|rfl|(simp only[w,seval,Y,U]<;>rfl)
  ·cases O;try simp only[w,seval,Y]
   apply jW;refine⟨rfl,?_⟩;and_intros<;>first|rfl|(simp only[w,seval,Y]<;>rfl)
 ·rintro x t H e hx;obtain⟨X,rfl⟩:∃z,z=o4:=⟨_,rfl⟩;dsimp only at hx O;obtain⟨rfl,ai⟩:=hx;obtain⟨x8,ak,O⟩:=ae O;obtain⟨al,an,ao,aq,ad⟩:=Es (eI .i64) ak;simp only[bX]at ad;cases O;try simp only[w,seval,ai,al,an,ao,aq,ad]
def qD:=mkE 3 (eI .i64) (as0) (fun (l:(List Int)) (x:Unit)=>er l)
theorem JK (pre post:List D) (O:(List Int)):qD (some (.buf 0 0 1 pre.length O.length,⟨0,3,pre++(ab (eI .i64) O++post),false,true,false⟩)) []=(er O).map fun r=>(.fresh 3 1 r.length (ab (eI .i64) r),none):=ab2 _ _ _ _ pre post O ()
theorem Js (pre post:List D) (p0:(List Int)) (r:(List Int)) (O:er p0=some r):jO (.fresh 3 1) tab bk FU Tryz.f125 (some (.buf 0 0 1 pre.length p0.length,⟨0,3,pre++(ab (eI .i64) p0++post),false,true,false⟩)) []=some (.fresh 3 1 r.length (ab (eI .i64) r),none):=by
 apply EO rfl ntmps125 results125;unfold er at O;try simp only[w,seval]
 obtain⟨o4,ai,O⟩:=ae O;refine aC (fun s t H e=>match s with|aa=>∃U:Nat,t 0=.buf 0 U 1 pre.length (p0).length∧t 3=.int .i64 aa∧H 0=some ⟨U,3,pre++(ab (eI .i64) p0++post),false,true,false⟩) (fun o x t H e=>match o with|Z=>x=.exit 0∧∃Y:Nat,t 0=.buf 0 Y 1 pre.length (p0).length∧t 3=.int .i64 Z∧H 0=some ⟨Y,3,pre++(ab (eI .i64) p0++post),false,true,false⟩) ai ?_ ?_ ?_
 ·refine⟨0,?_⟩;and_intros<;>first|rfl|(simp only[w,seval]<;>rfl)
 ·rintro aa t H e ⟨U,Za⟩ c O;simp only[mH]at O;try simp only[w,seval,Za]
  apply sp eW O<;>intro _ O
  ·obtain⟨x6,ak,O⟩:=ae O;have X:=Mu (pre:=pre) (post:=post) (eI .i64) ak;simp only[bX]at X;try simp only[w,seval,Za,X]
   apply sp aj O<;>intro _ O
   ·cases O;try simp only[w,seval,Za,X]
    apply iP;refine⟨U,?_⟩;and_intros<;>first|rfl|(simp only[w,seval,Za,X]<;>rfl)
   ·cases O;try simp only[w,seval,Za,X]
    apply jW;refine⟨rfl,⟨U,?_⟩⟩;and_intros<;>first|rfl|(simp only[w,seval,Za,X]<;>rfl)
  ·cases O;try simp only[w,seval,Za]
   apply jW;refine⟨rfl,⟨U,?_⟩⟩;and_intros<;>first|rfl|(simp only[w,seval,Za]<;>rfl)
 ·rintro x t H e hx;obtain⟨Z,rfl⟩:∃z,z=o4:=⟨_,rfl⟩;dsimp only at hx O;obtain⟨rfl,⟨Y,al⟩⟩:=hx;obtain⟨x8,ad,O⟩:=ae O;obtain⟨an,ao,aq,ar,au⟩:=Es (eI .i64) ad;simp only[bX]at au;obtain⟨ag,ah⟩:=aan (pre:=pre) (post:=post) (eI .i64) ad;simp only[bX]at ag ah;cases O;try simp only[w,seval,al,an,ao,aq,ag,ah,ar]
theorem Fe:bT prog 125 qD:=bT.ac1 tok bF.none mixed func125 (by kernel_rfl) ⟨by kernel_rfl,by kernel_rfl⟩ (fun _=>ahr (by kernel_rfl)) (fun pre post l x r h=>Js pre post l r h)
def b9 (l:Option (D×Row)) (d:List D):=dP (gX (aI .i64) (dL (mG (eI .i64)))) (fun x:Int×(List Int)=>dm x.1 x.2) (fun r:az =>.clean (.agg [.int .i64 r.ah,.sl false false r.aa.length (ab (eI .i64) r.aa)])) l d
def rj:Env:=(Am.ext bk 125 false e8)
theorem E7:bF prog rj:=(bF.none.add mT false)
theorem rQ:type_of% (ai @w<|ai @Tr<|ai @e8.eq_1<|@rj.eq_1):=⟨@w,@Tr,@e8.eq_1,@rj.eq_1⟩
theorem iG:bT prog 87 b9:=bT.gJ (mode := .clean) tok E7 mixed func87 (by kernel_rfl) (fun _ _=>rfl) (fun _=>by kernel_rfl) fun⟨X,Y⟩ r O=>by
 replace O:dm X Y=some r:=O;apply aF rfl ntmps87 results87;simp only[gK];unfold dm at O;obtain⟨Z,U,O⟩:=ae O;try simp only[rQ,seval,U]
 apply sp aj O<;>intro _ O
 ·cases O;try simp only[rQ,seval,U]
 ·cases O;try simp only[rQ,seval,U]
def n5 (l:Option (D×Row)) (d:List D):=dP (dL (aI .i64)) (fun x:Int=>qT x) (fun r:az =>.clean (.agg [.int .i64 r.ah,.sl false false r.aa.length (ab (eI .i64) r.aa)])) l d
def CO:Env:=(Am.ext bk 87 false b9)
theorem Ux:bF prog CO:=(bF.none.add iG false)
theorem gI:type_of% (ai @w<|ai @Bj<|ai @b9.eq_1<|@CO.eq_1):=⟨@w,@Bj,@b9.eq_1,@CO.eq_1⟩
theorem HC:bT prog 107 n5:=bT.gJ (mode := .clean) tok Ux mixed func107 (by kernel_rfl) (fun _ _=>rfl) (fun _=>by kernel_rfl) fun p0 r O=>by
 replace O:qT p0=some r:=O;apply aF rfl ntmps107 results107;simp only[gK];unfold qT at O;try simp only[gI,seval,-Int.reduceToNat]
 obtain⟨o1,ay,O⟩:=ae O;refine j9 0 (fun s t H e=>match s with|(U,ai)=>∃X:Nat,t 2=.ptr 2 X 0∧t 3=.int .i64 U∧t 4=.int .u64 ai∧H 2=some ⟨X,40,[.int .i64 0,.sl true true 0 []],false,false,false⟩) (fun s=>s=o1) ?_ ?_
 ·rintro⟨U,ai⟩ t H e ⟨X,ar⟩ rfl;try dsimp only at O
  try simp only[gI,seval,-Int.reduceToNat,ar]
  obtain⟨o7,az,O⟩:=ae O;refine aC (fun s t H e=>match s with|(au,aq)=>∃Y:Nat,∃ah:Nat,t 2=.ptr 2 Y 0∧t 3=.int .i64 U∧t 4=.int .u64 au∧t 5=.buf 5 ah 1 0 (aq).length∧H 2=some ⟨Y,40,[.int .i64 0,.sl true true 0 []],false,false,false⟩∧H 5=some ⟨ah,3,ab (eI .i64) aq,false,true,false⟩) (fun o x t H e=>match o with|Z=>x=.exit 0∧∃aa:Nat,∃ad:Nat,t 2=.ptr 2 aa 0∧t 3=.int .i64 U∧t 5=.buf 5 ad 1 0 (Z).length∧H 2=some ⟨aa,40,[.int .i64 0,.sl true true 0 []],false,false,false⟩∧H 5=some ⟨ad,3,ab (eI .i64) Z,false,true,false⟩) az ?_ ?_ ?_
  ·refine⟨X,e,?_⟩;and_intros<;>first|rfl|(simp only[gI,seval,-Int.reduceToNat,ar]<;>rfl)
  ·rintro⟨au,aq⟩ t H e ⟨Y,ah,Zb⟩ c O;simp only[ua]at O;try simp only[gI,seval,-Int.reduceToNat,Zb]
   apply sp aj O<;>intro _ O
   ·obtain⟨x9,aA,O⟩:=ae O;obtain⟨ak,ag,an,ao⟩:=ir (eI .i64) aA;simp only[bX]at ag;obtain⟨aD,av,O⟩:=ae O;have aw:=uH av;cases O;try simp only[gI,seval,-Int.reduceToNat,Zb,ak,ag,an,ao,aw]
    apply iP;refine⟨Y,e+1,?_⟩;and_intros<;>first|rfl|(simp only[gI,seval,-Int.reduceToNat,Zb,ak,ag,an,ao,aw]<;>rfl)
   ·cases O;try simp only[gI,seval,-Int.reduceToNat,Zb]
    apply jW;refine⟨rfl,⟨Y,ah,?_⟩⟩;and_intros<;>first|rfl|(simp only[gI,seval,-Int.reduceToNat,Zb]<;>rfl)
  ·rintro x t H e hx;obtain⟨Z,rfl⟩:∃z,z=o7:=⟨_,rfl⟩;dsimp only at hx O;obtain⟨rfl,⟨aa,ad,aB⟩⟩:=hx;obtain⟨aE,ax,O⟩:=ae O;cases O;try simp only[gI,seval,-Int.reduceToNat,aB,ax]
 ·clear O;have O:=ay;try simp only[gI,seval,-Int.reduceToNat]
  apply sp aj O<;>intro _ O
  ·cases O;try simp only[gI,seval,-Int.reduceToNat]
   rw[al];refine⟨_,rfl,?_⟩;refine⟨0,?_⟩;and_intros<;>first|rfl|(simp only[gI,seval,-Int.reduceToNat]<;>rfl)
  ·cases O;try simp only[gI,seval,-Int.reduceToNat]
   rw[al];refine⟨_,rfl,?_⟩;refine⟨0,?_⟩;and_intros<;>first|rfl|(simp only[gI,seval,-Int.reduceToNat]<;>rfl)
def ko (l:Option (D×Row)) (d:List D):=dP (dL (aI .i64)) (fun x:Int=>iZ x) (fun r:aw =>.clean (.agg [.int .i64 r.cD.ah,.sl false false r.cD.aa.length (ab (eI .i64) r.cD.aa),.int .i64 r.cw.ah,.sl false false r.cw.aa.length (ab (eI .i64) r.cw.aa)])) l d
def vG:Env:=(Am.ext bk 107 false n5)
theorem L1:bF prog vG:=(bF.none.add HC false)
theorem Rn:type_of% (ai @w<|ai @Kc<|ai @n5.eq_1<|@vG.eq_1):=⟨@w,@Kc,@n5.eq_1,@vG.eq_1⟩
theorem Ac:bT prog 83 ko:=bT.gJ (mode := .clean) tok L1 mixed func83 (by kernel_rfl) (fun _ _=>rfl) (fun _=>by kernel_rfl) fun Y r O=>by
 replace O:iZ Y=some r:=O;apply aF rfl ntmps83 results83;simp only[gK];unfold iZ at O;obtain⟨Z,U,O⟩:=ae O;obtain⟨r2,X,O⟩:=ae O;cases O;try simp only[Rn,seval,U,X]
def bn (l:Option (D×Row)) (d:List D):=dP (dL (bt dB)) (fun x:az=>cO x) (fun r:Bool =>.clean (.bool r)) l d
theorem fN:bT prog 79 bn:=bT.gJ (mode := .clean) tok bF.none mixed func79 (by kernel_rfl) (fun _ _=>rfl) (fun _=>by kernel_rfl) fun Y r O=>by
 replace O:cO Y=some r:=O;apply aF rfl ntmps79 results79;simp only[gK];unfold cO at O;try simp only[w,seval]
 obtain⟨o5,ao,O⟩:=ae O;refine aC (fun s t H e=>match s with|ag=>∃Z:Nat,t 1=.ptr 1 Z 0∧t 3=.int .i64 (Y.aa.length:Int)∧t 10=.sl false false Y.aa.length (ab (eI .i64) Y.aa)∧t 11=.int .i64 (Y.aa.length:Int)∧t 12=.int .i64 ag∧H 1=some ⟨Z,40,[.int .i64 Y.ah,.sl false false Y.aa.length (ab (eI .i64) Y.aa)],false,false,false⟩) (fun o x t H e=>match o with|(.inl _)=>x=.exit 0∧∃ad:Nat,t 1=.ptr 1 ad 0∧t 3=.int .i64 (Y.aa.length:Int)∧H 1=some ⟨ad,40,[.int .i64 Y.ah,.sl false false Y.aa.length (ab (eI .i64) Y.aa)],false,false,false⟩|(.inr r)=>x=.ret∧fH .clean tab none [.tmp 2] ⟨t,EH H,e⟩=some (.clean (.bool r),none)) ao ?_ ?_ ?_
 ·refine⟨0,?_⟩;and_intros<;>first|rfl|(simp only[w,seval]<;>rfl)
 ·rintro ag t H e ⟨Z,Za⟩ c O;simp only[nF]at O;try simp only[w,seval,Za]
  apply sp aj O<;>intro _ O
  ·obtain⟨x7,aq,O⟩:=ae O;have U:=bC (eI .i64) aq;simp only[bX]at U;try simp only[w,seval,Za,U]
   apply sp aO O<;>intro _ O
   ·cases O;try simp only[w,seval,Za,U]
    refine rv ⟨rfl,?_⟩;try simp only[w,seval,Za,U]
   ·try simp only[w,seval,Za,U]
    apply sp aj O<;>intro _ O
    ·cases O;try simp only[w,seval,Za,U]
     refine rv ⟨rfl,?_⟩;try simp only[w,seval,Za,U]
    ·cases O;try simp only[w,seval,Za,U]
     apply iP;refine⟨Z,?_⟩;and_intros<;>first|rfl|(simp only[w,seval,Za,U]<;>rfl)
  ·cases O;try simp only[w,seval,Za]
   apply jW;refine⟨rfl,⟨Z,?_⟩⟩;and_intros<;>first|rfl|(simp only[w,seval,Za]<;>rfl)
 ·rintro x t H e hx;rcases o5 with _|ra
  ·dsimp only at hx O;obtain⟨rfl,⟨ad,X⟩⟩:=hx;try simp only[w,seval,X]
   apply sp aj O<;>intro _ O
   ·cases O;try simp only[w,seval,X]
   ·try simp only[w,seval,X]
    apply sp aO O<;>intro _ O
    ·obtain⟨ar,al,O⟩:=ae O;have ai:=bC (eI .i64) al;simp only[bX]at ai;cases O;try simp only[w,seval,X,ai]
    ·try simp only[w,seval,X]
     apply sp eW O<;>intro _ O
     ·obtain⟨au,an,O⟩:=ae O;have ak:=bC (eI .i64) an;simp only[bX]at ak;cases O;try simp only[w,seval,X,ak]
     ·cases O;try simp only[w,seval,X]
  ·dsimp only at hx O;obtain⟨rfl,hE⟩:=hx;cases O;try simp only[bc,aX,bj,cJ,cG,cc,cd]
   exact hE
def jX (l:Option (D×Row)) (d:List D):=dP (gX aaJ (dL (bt dB))) (fun x:Bool×az=>ep x.1 x.2) (fun r:az×Int =>.clean (.tup [.agg [.int .i64 r.1.ah,.sl false false r.1.aa.length (ab (eI .i64) r.1.aa)],.int .i64 r.2])) l d
theorem oQ:bT prog 89 jX:=bT.gJ (mode := .clean) tok bF.none mixed func89 (by kernel_rfl) (fun _ _=>rfl) (fun _=>by kernel_rfl) fun⟨U,X⟩ r O=>by
 replace O:ep U X=some r:=O;apply aF rfl ntmps89 results89;simp only[gK];unfold ep at O;try simp only[w,seval]
 apply sp aj O<;>intro _ O
 ·cases O;try simp only[w,seval]
 ·cases O;try simp only[w,seval]
theorem yM (r:(List Int)) (O:cT []=some r):jO (.fresh 3 1) tab bk FU Tryz.f88 none [.sl true true 0 []]=some (.fresh 3 1 r.length (ab (eI .i64) r),none):=by
 unfold cT at O;obtain⟨U,X,Y⟩:=wF O;subst U;apply aF rfl ntmps88 results88;simp only[w,seval,Nat.lt_irrefl]
theorem yN (r:(List Int)) (O:cT []=some r):jO (.fresh 3 1) tab bk FU Tryz.f88 none [.sl true false 0 []]=some (.fresh 3 1 r.length (ab (eI .i64) r),none):=by
 unfold cT at O;obtain⟨U,X,Y⟩:=wF O;subst U;apply aF rfl ntmps88 results88;simp only[w,seval,Nat.lt_irrefl]
theorem yO (O r:(List Int)) (X:0<O.length) (U:cT O=some r):jO (.fresh 3 1) tab bk FU Tryz.f88 none [.sl false false O.length (ab (eI .i64) O)]=some (.fresh 3 1 r.length (ab (eI .i64) r),none):=by
 unfold cT at U;have Y:¬O.length=0:=by omega
 obtain⟨Z,qb,qc⟩:=wF U;subst Z;apply aF rfl ntmps88 results88;simp only[w,seval,X,Y,qb,qc]
def hZ:=dP (dL (mG (eI .i64))) (fun x:(List Int)=>cT x) (fun r:(List Int) =>.fresh 3 1 r.length (ab (eI .i64) r))
theorem fw (O:(List Int)):hZ none [.sl false false O.length (ab (eI .i64) O)]=(cT O).map fun r:(List Int)=>(.fresh 3 1 r.length (ab (eI .i64) r),none):=cI _ _ _ O
theorem kj:bT prog 88 hZ:=bT.ac4 (mode:=(.fresh 3 1)) tok bF.none mixed func88 (by kernel_rfl) ⟨by kernel_rfl,by kernel_rfl⟩ (ahr (by kernel_rfl)) yM yN yO
def pe (l:Option (D×Row)) (d:List D):=dP (dL (aI .i64)) (fun x:Int=>nT x) (fun r:Bool =>.clean (.bool r)) l d
theorem JA:bT prog 118 pe:=bT.gJ (mode := .clean) tok bF.none mixed func118 (by kernel_rfl) (fun _ _=>rfl) (fun _=>by kernel_rfl) fun U r O=>by
 replace O:nT U=some r:=O;apply aF rfl ntmps118 results118;simp only[gK];unfold nT at O;cases O;try simp only[w,seval]
def eK (l:Option (D×Row)) (d:List D):=dP (gX (aI .i64) (dL (aI .i64))) (fun x:Int×Int=>fW x.1 x.2) (fun r:Int =>.clean (.int .i64 r)) l d
def pQ:Env:=(Am.ext bk 118 false pe)
theorem CU:bF prog pQ:=(bF.none.add JA false)
theorem dY:type_of% (ai @w<|ai @Kc<|ai @pe.eq_1<|@pQ.eq_1):=⟨@w,@Kc,@pe.eq_1,@pQ.eq_1⟩
theorem oS:bT prog 76 eK:=bT.gJ (mode := .clean) tok CU mixed func76 (by kernel_rfl) (fun _ _=>rfl) (fun _=>by kernel_rfl) fun⟨Y,Z⟩ r O=>by
 replace O:fW Y Z=some r:=O;apply aF rfl ntmps76 results76;simp only[gK];unfold fW at O;obtain⟨r1,U,O⟩:=ae O;obtain⟨r2,X,O⟩:=ae O;try simp only[dY,seval,U,X]
 apply sp aj O<;>intro _ O
 ·try simp only[dY,seval,U,X]
  apply sp aj O<;>intro _ O
  ·cases O;try simp only[dY,seval,U,X]
  ·cases O;try simp only[dY,seval,U,X]
 ·try simp only[dY,seval,U,X]
  apply sp aj O<;>intro _ O
  ·cases O;try simp only[dY,seval,U,X]
  ·try simp only[dY,seval,U,X]
   apply sp aj O<;>intro _ O
   ·cases O;try simp only[dY,seval,U,X]
   ·try simp only[dY,seval,U,X]
    apply sp aj O<;>intro _ O
    ·cases O;try simp only[dY,seval,U,X]
    ·cases O;try simp only[dY,seval,U,X]
def eJ (l:Option (D×Row)) (d:List D):=dP (gX (mG (eI .i64)) (dL (mG (eI .i64)))) (fun x:(List Int)×(List Int)=>fV x.1 x.2) (fun r:Int =>.clean (.int .i64 r)) l d
def pP:Env:=(Am.ext bk 76 false eK)
theorem CT:bF prog pP:=(bF.none.add oS false)
theorem cM:type_of% (ai @w<|ai @Vz<|ai @eK.eq_1<|@pP.eq_1):=⟨@w,@Vz,@eK.eq_1,@pP.eq_1⟩
theorem oR:bT prog 91 eJ:=bT.gJ (mode := .clean) tok CT mixed func91 (by kernel_rfl) (fun _ _=>rfl) (fun _=>by kernel_rfl) fun⟨p0,p1⟩ r X=>by
 replace X:fV p0 p1=some r:=X;apply aF rfl ntmps91 results91;simp only[gK];unfold fV at X;try simp only[cM,seval]
 apply sp aj X<;>intro _ X
 ·obtain⟨r2,ah,X⟩:=ae X;cases X;try simp only[cM,seval,ah]
 ·try simp only[cM,seval]
  obtain⟨o8,ai,X⟩:=ae X;refine aC (fun s t H e=>match s with|ag=>t 0=.sl false false p0.length (ab (eI .i64) p0)∧t 1=.sl false false p1.length (ab (eI .i64) p1)∧t 5=.int .i64 ag) (fun o x t H e=>match o with|(.inl _)=>x=.exit 0|(.inr r)=>x=.ret∧fH .clean tab none [.tmp 4] ⟨t,EH H,e⟩=some (.clean (.int .i64 r),none)) ai ?_ ?_ ?_
  ·and_intros<;>first|rfl|(simp only[cM,seval]<;>rfl)
  ·rintro ag t H e Z c X;simp only[kW]at X;try simp only[cM,seval,Z]
   apply sp aj X<;>intro _ X
   ·obtain⟨ak,aa,X⟩:=ae X;have O:=bC (eI .i64) aa;simp only[bX]at O;obtain⟨al,ad,X⟩:=ae X;have U:=bC (eI .i64) ad;simp only[bX]at U;try simp only[cM,seval,Z,O,U]
    refine bH (by kernel_rfl) ?_;try simp only[cM,seval,Z,O,U]
    apply sp aj X<;>intro _ X
    ·have O:=bC (eI .i64) aa;simp only[bX]at O;have U:=bC (eI .i64) ad;simp only[bX]at U;obtain⟨an,Y,X⟩:=ae X;try simp only[cM,seval,Z,O,U,O,U,Y]
     refine bH (by kernel_rfl) ?_;cases X;try simp only[cM,seval,Z,O,U,O,U,Y]
     refine rv ⟨rfl,?_⟩;try simp only[cM,seval,Z,O,U,O,U,Y]
    ·cases X;try simp only[cM,seval,Z,O,U]
     apply iP;and_intros<;>first|rfl|(simp only[cM,seval,Z,O,U]<;>rfl)
   ·cases X;try simp only[cM,seval,Z]
    apply jW;exact rfl
  ·rintro x t H e hx;rcases o8 with _|ra
   ·dsimp only at hx X;subst hx;cases X;try simp only[cM,seval]
   ·dsimp only at hx X;obtain⟨rfl,hE⟩:=hx;cases X;try simp only[bc,aX,bj,cJ,cG,cc,cd]
    exact hE
def pc (l:Option (D×Row)) (d:List D):=dP (gX (mG (eI .i64)) (dL (aI .i64))) (fun x:(List Int)×Int=>lX x.1 x.2) (fun r:(List Int)×Int =>.clean (.tup [.sl false false r.1.length (ab (eI .i64) r.1),.int .i64 r.2])) l d
def sZ:Env:=(Am.ext bk 125 false e8)
theorem Jg:bF prog sZ:=(bF.none.add mT false)
theorem im:type_of% (ai @w<|ai @Tr<|ai @e8.eq_1<|@sZ.eq_1):=⟨@w,@Tr,@e8.eq_1,@sZ.eq_1⟩
theorem Jz:bT prog 141 pc:=bT.gJ (mode := .clean) tok Jg mixed func141 (by kernel_rfl) (fun _ _=>rfl) (fun _=>by kernel_rfl) fun⟨p0,p1⟩ r O=>by
 replace O:lX p0 p1=some r:=O;apply aF rfl ntmps141 results141;simp only[gK];unfold lX at O;obtain⟨x1,aI,O⟩:=ae O;obtain⟨X,Y,Z,U,aa⟩:=mk_one (eI .i64) aI;simp only[bX]at U;try simp only[im,seval,-Int.reduceToNat,X,Y,Z,U,aa]
 obtain⟨aJ,au,O⟩:=ae O;refine aC (fun s t H e=>match s with|(av,aw,ar)=>∃ad:Nat,t 0=.sl false false p0.length (ab (eI .i64) p0)∧t 1=.int .i64 p1∧t 6=.buf 6 ad 1 0 (ar).length∧t 7=.int .i64 av∧t 8=.int .i64 aw∧H 6=some ⟨ad,3,ab (eI .i64) ar,false,true,false⟩) (fun o x t H e=>match o with|(ao,ag)=>x=.exit 0∧∃ah:Nat,t 6=.buf 6 ah 1 0 (ag).length∧t 7=.int .i64 ao∧H 6=some ⟨ah,3,ab (eI .i64) ag,false,true,false⟩) au ?_ ?_ ?_
 ·refine⟨1,?_⟩;and_intros<;>first|rfl|(simp only[im,seval,-Int.reduceToNat,X,Y,Z,U,aa]<;>rfl)
 ·rintro⟨av,aw,ar⟩ t H e ⟨ad,Za⟩ c O;simp only[nH]at O;try simp only[im,seval,-Int.reduceToNat,X,Y,Z,U,aa,Za]
  apply sp aj O<;>intro _ O
  ·obtain⟨aL,ax,O⟩:=ae O;have ay:=Bl ax;obtain⟨aM,az,O⟩:=ae O;have ai:=bC (eI .i64) az;simp only[bX]at ai;obtain⟨aA,aB,O⟩:=ae O;have aD:=rf aB;obtain⟨aN,aq,O⟩:=ae O;have ak:=bC (eI .i64) aq;simp only[bX]at ak;have an:=fP (eI .i64) (x':=aA) (fo:=0) (cs:=[.int .i64 aA]) aq rfl (ahr rfl);simp only[bX,Nat.add_zero]at an;have al:=an;simp only[putCells,List.length_cons,List.length_nil,agt,Nat.reduceAdd]at al;obtain⟨aO,aE,O⟩:=ae O;have aG:=uq aE;cases O;try simp only[im,seval,-Int.reduceToNat,X,Y,Z,U,aa,Za,ay,ai,aD,ak,an,al,aG]
   apply iP;refine⟨ad,?_⟩;and_intros<;>first|rfl|(simp only[im,seval,-Int.reduceToNat,X,Y,Z,U,aa,Za,ay,ai,aD,ak,an,al,aG]<;>rfl)
  ·cases O;try simp only[im,seval,-Int.reduceToNat,X,Y,Z,U,aa,Za]
   apply jW;refine⟨rfl,⟨ad,?_⟩⟩;and_intros<;>first|rfl|(simp only[im,seval,-Int.reduceToNat,X,Y,Z,U,aa,Za]<;>rfl)
 ·rintro x t H e hx;rcases aJ with⟨ao,ag⟩;dsimp only at hx O;obtain⟨rfl,⟨ah,aK⟩⟩:=hx;obtain⟨aP,aH,O⟩:=ae O;cases O;try simp only[im,seval,-Int.reduceToNat,X,Y,Z,U,aa,aK,aH]
section
variable {P:Program} {T:Nat->Option Ty} {N F:Nat} {M:Nat->Prop} {L:iN} {w0:World} {blk:Nat->Option (Nat×Nat)} {t:Nat->D} {h:Nat->Option Row} {a:Act} {w:World} {e:Nat} {Γ:Env} {done:List Nat}
theorem C7 (X:qM N M L w0 blk e done t h a w):Holds N M L w0 ⟨t,h,e+1⟩ a w:=by
 refine⟨blk,X.inv.weaken fun x v U =>?_,fun x r ty s nv cs Y Z k3 k4 =>?_⟩
 ·rcases U with⟨O,U|⟨U,_⟩⟩|⟨O,h2,h3,h4⟩
  ·exact .inl ⟨O,.inl (by simp only;omega)⟩
  ·exact .inl ⟨O,.inl (by simp only;omega)⟩
  ·exact .inr ⟨O,by simp only;omega,fun _=>by simp only;omega,h4⟩
 ·have:=X.nv x r ty s nv cs Y Z k3 k4;exact⟨by simp only;omega,fun _=>by simp only;omega⟩
theorem Ef (hT:gW P T) (hΓ:bF P Γ) {ops l:List Oper} {K:(Nat->D)->(Nat->Option Row)->Prop} {Q:Exit->Act->World->Prop} (hI:qM N M L w0 blk e done t h a w) (X:(l.filterMap (·.dst)).Nodup) (hd:∀o∈l,∀d,o.dst=some d->d∉done)
  (hk:jV T Γ N F ops l [] (fun _ t h _=>K t h) t h e) (hQ:∀O h' U w',K O h'->Holds N M L w0 ⟨O,h',e+1⟩ U w'->Q .normal U w'):wpList P ops.toArray Q l a w:=by
 obtain⟨O,h',fs,h1,h2⟩:=xH (T:=T) (Γ:=Γ) (N:=N) (e:=e) (ops:=ops.toArray) l t h hk;exact wv hT hΓ h1 X hd hI fun U w' blk' Y Z=>hQ O h' U w' h2 (C7 Z)
theorem Xq (Y:gW P T) (Z:bF P Γ) {ops l:List Oper} {o:Oper} {K:(Nat->D)->(Nat->Option Row)->Prop} {Q:Exit->Act->World->Prop} (hI:qM N M L w0 blk e done t h a w) (hd:∀d,o.dst=some d->d∉done)
  (hk:jV T Γ N F ops [o] [] (fun _ t h _=>K t h) t h e) (hQ:∀O h' U w' blk',K O h'->qM N M L w0 blk' e (o.dst.toList++done) O h' U w'->wpList P ops.toArray Q l U w'):wpList P ops.toArray Q (o::l) a w:=by
 obtain⟨O,h',fs,h1,h2⟩:=xH (T:=T) (Γ:=Γ) (N:=N) (e:=e) (ops:=ops.toArray) [o] t h hk;simp only[y4]at h1;split at h1
 ·rename_i t1 aa f hs;simp only[afM,Prod.mk.injEq]at h1;obtain⟨rfl,rfl,_⟩:=h1;unfold wpList;exact JS Y Z hI hs hd fun U w' blk' X=>hQ _ _ _ _ blk' h2 X
 ·cases h1
theorem wL (hT:gW P T) (hΓ:bF P Γ) (hm:P.follows .mixedOrders=true) {c:Code} {K:Kt} {Q:Exit->Act->World->Prop} (hH:Holds N M L w0 ⟨t,h,e⟩ a w) (X:codeOk c=true) (hk:cW T Γ N F [.code c] K .normal t h e)
  (hQ:∀x Z h' e' O w',K x Z h' e'->Holds N M L w0 ⟨Z,h',e'⟩ O w'->Q (CI x) O w'):c.wp P Q a w:=by
 obtain⟨x,U,h1,h2⟩:=J9 c t h e K hk;exact il hT hΓ hm c ⟨t,h,e⟩ x U Q a w h1 X hH fun O w' Y=>hQ x U.t U.h U.e O w' h2 Y
theorem gA.maps {h':Nat->Option Row} (Z:∀x,h' x=h x∨∃v ty ks vs fz lst,h' x=some ⟨v,ty,[.mpc ks vs],fz,lst,true⟩):gA e h h':=by
 intro x r' ty' s' U cs' O k2 Y k4;rcases Z x with X|⟨v,ty,ks,vs,fz,lst,X⟩
 ·rw[X]at O;exact⟨r',ty',s',U,cs',O,k2,Y,.inl rfl⟩
 ·rw[X]at O;cases O;cases Y
theorem Xh {d:Nat} (U:d<N) (Y:N<=PK) (X:d∉done):iA N (VE N e done h) d e where
 no:=by
  rintro (⟨_,O|⟨_,O⟩⟩|⟨O,_⟩)
  ·exact absurd O (Nat.lt_irrefl _)
  ·exact X O
  ·have:=cm;omega
 lt:=U
end
theorem map_eraseIdx {α β:Type} (f:α->β):∀(l:List α) (j:Nat),(l.map f).eraseIdx j=(l.eraseIdx j).map f
 | [],_=>rfl
 | a::l,0=>rfl
 | a::l,j+1=>by simp[map_eraseIdx f l j]
theorem xl {α:Type} : ∀m:List ((Int×Int)×α),dC m=m.map fun q=>uX.k q.1
 | []=>rfl
 | (k,v)::m=>by simp[dC,xl m]
theorem Dq {α:Type} (A:Arg α):∀m:List ((Int×Int)×α),fu A m=m.map fun q=>A.d q.2
 | []=>rfl
 | (k,v)::m=>by simp[fu,Dq A m]
theorem D2 {α:Type} : ∀ {l:List α} {j:Nat} {q:α},l[j]? = some q->l.Perm (q::l.eraseIdx j)
 | [],_,_,h=>by simp at h
 | a::l,0,q,h=>by simp only[List.getElem?_cons_zero,afM]at h;subst h;exact ahK _
 | a::l,j+1,q,h=>by
  simp only[List.getElem?_cons_succ]at h;exact ((D2 h).cons a).trans (List.Perm.swap q a _)
def jI (q:(Int×Int)×aw):bG:=bG.mk q.1.1 q.1.2 q.2
def acJ (r:eM×Int) (t:Nat->D) (h:Nat->Option Row) (e:Nat):Prop:=∃(m:List ((Int×Int)×aw)) (ports:Int) (v21 v9 v2 nv:Nat),t 6=.mp 21 v21∧h 21=some ⟨v21,74,[.mpc (dC m) (fu (bt aD) m)],false,true,true⟩ ∧
 t 9=.ptr 9 v9 0∧h 9=some ⟨v9,28,[.nr 65 6 nv [.int .i64 ports,.nx 0 []]],false,false,true⟩∧t 2=.ptr 2 v2 0∧h 2=some ⟨v2,28,[.int .i64 0,.sl true true 0 []],false,false,false⟩∧nv<=4*e∧Bc ports m=some r
def Bt:=Z4 65 bD (dL (aFn 43)) (fun (l:List bG) (_:Unit)=>Au (iT bG.ct bG.iO) l) (fun _:Unit =>.clean (.tup []))
theorem X8 (pre post:List D) (O:List bG):Bt (some (.buf 0 0 6 pre.length O.length,⟨0,65,pre++(ab bD O++post),false,true,false⟩)) [.fn 43]=(Au (iT bG.ct bG.iO) O).map fun r=>(.clean (.tup []),some ⟨0,65,pre++(ab bD r.1++post),false,true,false⟩):=XK _ _ _ _ _ pre post O ()
theorem UX:bT prog 42 Bt:=JD sR (fun x=>by rw[nI];rfl) (fun x=>by rw[nI];rfl) 65
def PN:Env:=(Am.uS 9 (65,6,1) (Am.ext bk 42 true Bt))
theorem py:bF prog PN:=bF.uS (bF.none.add UX true) 9 (65,6,1)
theorem tG:type_of% (ai @w<|@PN.eq_1):=⟨@w,@PN.eq_1⟩
def Rs (m:List ((Int×Int)×aw)) (ports:Int) (O:List ((Int×Int)×aw)) (t:Nat->D) (h:Nat->Option Row) (e:Nat):Prop:=∃(ks:List ch) (vs:List D) (acc:List bG) (U ty v9 v2 nv:Nat),
 t 44=.ptr 44 U 0∧h 44=some ⟨U,ty,[.mpc ks vs],false,true,true⟩∧900000<=ty∧ks.drop (ty-900000)=dC O∧vs.drop (ty-900000)=fu (bt aD) O ∧
 t 9=.ptr 9 v9 0∧h 9=some ⟨v9,28,[.nr 65 6 nv [.int .i64 ports,.nx acc.length (ab bD acc)]],false,false,true⟩∧t 2=.ptr 2 v2 0∧h 2=some ⟨v2,28,[.int .i64 0,.sl true true 0 []],false,false,false⟩∧nv<=4*e∧(acc++O.map jI).Perm (m.map jI)
theorem Z8 {m:List ((Int×Int)×aw)} {ports:Int} (hc:m.length<=8000∧(m.map (·.1)).Nodup) {t:Nat->D} {h:Nat->Option Row} {e:Nat} {w0:World} {M:Nat->Prop} {a:Act} {w:World} (hJ:Rs m ports [] t h e) (hH:Holds 65 M none w0 ⟨t,h,e⟩ a w) :
  (zb 0 (zb 5 (Wh Tryz.f12))).wp prog (bodyPost prog Tryz.f12 fun e w'=>∃v,e=.returned v∧Below w0.heap.size w0 w'∧so w0 w' M (fun _=>False) v (.clean (.tup [.agg [.int .i64 ports,.sl false false (np (iT bG.ct bG.iO) (m.map jI)).length (ab bD (np (iT bG.ct bG.iO) (m.map jI)))],.int .i64 0]))) a w:=by
 obtain⟨ks,vs,acc,vI,ty,v9,v2,nv,i1,i2,i3,i4,i5,i6,i7,i8,i9,i10,i11⟩:=hJ;rw[agu,ahz]at i11;have hkey:∀x∈acc,∀y∈acc,iT bG.ct bG.iO x y=0->x=y:=by
  intro x Z y hy h0;obtain⟨p,hp,rfl⟩:=afC.1 (i11.mem_iff.1 Z);obtain⟨q,hq,rfl⟩:=afC.1 (i11.mem_iff.1 hy);obtain⟨k1,k2⟩:=QU.1 h0;have hk:p.1=q.1:=Prod.ext k1 k2;have:p=q:=by
   obtain⟨i,hi,rfl⟩:=List.getElem_of_mem hp;obtain⟨j,hj,rfl⟩:=List.getElem_of_mem hq;have:=(List.getElem_inj (h₀:=by simpa using hi) (h₁:=by simpa using hj) hc.2).1 (by simpa using hk);subst this;rfl
  rw[this]
 have O:np (iT bG.ct bG.iO) acc=np (iT bG.ct bG.iO) (m.map jI):=by
  refine mF (((gP _ acc).trans i11).trans (gP _ _).symm) (fun x Z y hy h1 h2=>hkey x ((gP _ acc).mem_iff.1 Z) y ((gP _ acc).mem_iff.1 hy) ?_) (k9 (qz _ _) _) (k9 (qz _ _) _);have:=(qz bG.ct bG.iO).neg x y;have:=(qz bG.ct bG.iO).neg y x;omega
 have hlen:acc.length=m.length:=by rw[i11.length_eq,af7]
 have hs:Au (iT bG.ct bG.iO) acc=some (np (iT bG.ct bG.iO) (m.map jI),()):=by
  unfold Au;rw[if_pos ⟨by omega,hkey⟩,O]
 have U:(np (iT bG.ct bG.iO) (m.map jI)).length=acc.length:=by rw[l9,af7,hlen]
 generalize np (iT bG.ct bG.iO) (m.map jI)=X at hs U ⊢;have iq:=X8 [] [] acc;simp only[List.nil_append,ahz,List.length_nil,bX]at iq;refine (show (Code.seq (Code.region _ _ _) (Code.seq (Code.region _ _ _) Code.ret)).wp _ _ _ _ from ?_);refine wL (F:=FU) tok py mixed hH (by kernel_rfl) (K:=fun x t h e=>x=.ret∧fH .clean tab none [.cell 2 28,.tmp 3] ⟨t,EH h,e⟩=some (.clean (.tup [.agg [.int .i64 ports,.sl false false X.length (ab bD X)],.int .i64 0]),none)) ?_ ?_
 ·simp only[tG,seval,i6,i7,i8,i9,iq,hs,U]
 ·rintro x t' h' e' a' w' ⟨rfl,hr⟩ aa;have Y:Holds Tryz.f12.ntmps M none w0 ⟨t',h',e'⟩ a' w':=by rw[ntmps12];exact aa
  exact GI tok Y (by rw[results12];exact hr)
theorem XO (r:eM×Int):Kk prog Tryz.f12 (zb 5 (Wh Tryz.f12)) (.clean (.tup [.agg [.int .i64 r.1.aA,.sl false false r.1.aN.length (ab bD r.1.aN)],.int .i64 r.2])) (acJ r):=by
 intro w0 M s a w hJ hH;obtain⟨t0,h0,e0⟩:=s;obtain⟨m,ports,v21,v9,v2,nv,j1,j2,j3,j4,j5,j6,j7,hr⟩:=hJ;dsimp only at j1 j2 j3 j4 j5 j6 j7;unfold Bc at hr
 by_cases hc:m.length<=8000∧(m.map (·.1)).Nodup
 rotate_left
 ·rw[if_neg hc]at hr;cases hr
 rw[if_pos hc]at hr;cases hr;rw[ntmps12]at hH;apply wp_seq;apply wp_seq;obtain⟨blk,hI⟩:=hH;apply wp_region_lit;refine Xq (F:=FU) tok py hI (fun d _=>by simp) (K:=fun t h=>t=bI t0 43 (.mp 21 v21)∧h=h0) (by simp only[tG,seval,j1,j2]) ?_;rintro t1 h1 a1 w1 az ⟨rfl,rfl⟩ ad;refine yc rfl ad (by decide) (K:=fun t h=>t=bI (bI t0 43 (.mp 21 v21)) 44 (.ptr 44 e0 0)∧h=bI (bI h1 21 (some ⟨v21,74,[.mpc (dC m) (fu (bt aD) m)],true,true,true⟩)) 44 (some ⟨e0,900000,[.mpc (dC m) (fu (bt aD) m)],false,true,true⟩)) ?_ ?_
 ·refine dR.mono (Pz tok ad.inv (e:=e0) (ty:=74) (d:=44) (k:=77) (el:=42) (x:=21) (v:=v21) (v':=v21) (m := .tmp 43) rfl rfl (Xh (by decide) (by rw[cm];decide) (by simp)) underlying74 (by simp[ev,an]) j2 (by decide) (by rw[cm];decide) (by decide)) fun v w' hA=>⟨_,⟨rfl,rfl⟩,tW ad (fun d hd =>?_) (gA.maps fun x =>?_) hA⟩
  ·cases hd;exact⟨by simp,by decide⟩
  ·show bI (bI h1 21 _) 44 _ x=_∨_
   by_cases X:x=44
   ·subst X;rw[an];exact .inr ⟨_,_,_,_,_,_,rfl⟩
   ·rw[aq _ _ X]
    by_cases ag:x=21
    ·subst ag;rw[an];exact .inr ⟨_,_,_,_,_,_,rfl⟩
    ·rw[aq _ _ ag];exact .inl rfl
 ·rintro t2 h2 a2 w2 aB ⟨rfl,rfl⟩ ai;have aj:=C7 ai;have ak:Rs m ports m (bI (bI t0 43 (.mp 21 v21)) 44 (.ptr 44 e0 0)) (bI (bI h1 21 (some ⟨v21,74,[.mpc (dC m) (fu (bt aD) m)],true,true,true⟩)) 44 (some ⟨e0,900000,[.mpc (dC m) (fu (bt aD) m)],false,true,true⟩)) (e0+1) :=
   ⟨_,_,[],e0,900000,v9,v2,nv,an _ _ _,an _ _ _,afD _,by rw[agR,ag7],by rw[agR,ag7],by rw[aq _ _ (by decide),aq _ _ (by decide)];exact j3,by rw[aq _ _ (by decide),aq _ _ (by decide)];exact j4,by rw[aq _ _ (by decide),aq _ _ (by decide)];exact j5,by rw[aq _ _ (by decide),aq _ _ (by decide)];exact j6,by omega,ahK _⟩
  apply wp_block;refine wp_loop_ghost (fun n a w=>∃(Y:List ((Int×Int)×aw)) (t:Nat->D) (h:Nat->Option Row) (e:Nat),Y.length=n∧Rs m ports Y t h e∧Holds 65 M none w0 ⟨t,h,e⟩ a w) m.length ⟨m,_,_,_,rfl,ak,aj⟩ ?_;clear ak aj ai ad hI j1 j2 j3 j4 j5 j6 j7;rintro n a w ⟨Y,t,h,e,hn,⟨ks,vs,acc,vI,ty,v9,v2,nv,i1,i2,i3,i4,i5,i6,i7,i8,i9,i10,i11⟩,blk,hI⟩;replace hI:qM 65 M none w0 blk e [] t h a w:=hI;apply wp_seq;apply wp_region_lit;refine yc rfl hI (by decide) (K:=fun t' h'=>(Y=[]∧t'=bI t 45 (.tup [.bool false])∧h'=h)∨∃(k:Int×Int) (x:aw) (O:List ((Int×Int)×aw)),(Y.map jI).Perm (jI (k,x)::O.map jI)∧Y.length=O.length+1 ∧
   t'=bI t 45 (.tup [.bool true,.agg [.int .i64 k.1,.int .i64 k.2],.agg [.int .i64 x.cD.ah,.sl false false x.cD.aa.length (ab (eI .i64) x.cD.aa),.int .i64 x.cw.ah,.sl false false x.cw.aa.length (ab (eI .i64) x.cw.aa)]]) ∧
   h'=bI h 44 (some ⟨vI,900001,[.mpc (dC ((k,x)::O)) (fu (bt aD) ((k,x)::O))],false,true,true⟩)) ?_ ?_
  ·refine dR.mono (Un hI.inv (e:=e) (y:=44) (p := .tmp 44) rfl (by simp[ev,i1]) i2 i3 (by rw[cm];decide)) ?_;rintro v w' (⟨q1,q2⟩|⟨j,k,x,q1,q2,q3⟩)
   ·rw[i4,xl]at q1;have ar:Y=[]:=List.map_eq_nil_iff.1 q1;exact⟨_,.inl ⟨ar,rfl,rfl⟩,tW hI (fun d hd=>by cases hd;exact⟨by simp,by decide⟩) (gA.maps fun x =>.inl rfl) q2⟩
   ·rw[i4,i5]at q3;rw[i4]at q1;rw[i5]at q2;rw[xl]at q1 q3;rw[Dq]at q2 q3;rw[afA]at q1 q2;obtain⟨q,hq,rfl⟩:=afB.1 q1;rw[hq]at q2;cases q2;rw[map_eraseIdx,map_eraseIdx,<- xl,<- Dq]at q3;have hp:=D2 hq;refine⟨_,.inr ⟨q.1,q.2,Y.eraseIdx j,hp.map jI,hp.length_eq,rfl,rfl⟩,tW hI (fun d hd=>by cases hd;exact⟨by simp,by decide⟩) (gA.maps fun x =>?_) q3⟩;show bI h 44 _ x=_∨_
    by_cases X:x=44
    ·subst X;rw[an];exact .inr ⟨_,_,_,_,_,_,rfl⟩
    ·rw[aq _ _ X];exact .inl rfl
  ·rintro t' h' a' w' blk' (⟨rfl,rfl,rfl⟩|⟨k,x,O,p1,p2,rfl,rfl⟩) ae
   ·refine Ef (F:=FU) tok py ae (by decide) (by simp) (K:=fun t' U=>t'=bI (bI t 45 (.tup [.bool false])) 46 (.bool false)∧U=h') (by simp only[tG,seval]) ?_;rintro t2 h2 a2 w2 ⟨rfl,rfl⟩ hH;refine (show Code.wp _ (Code.seq (Code.cond _ Code.skip (Code.exit 2)) _) _ a2 w2 from ?_);refine wL (F:=FU) tok py mixed hH (by kernel_rfl) (K:=fun x t' U e'=>x=.exit 2∧t'=bI (bI t 45 (.tup [.bool false])) 46 (.bool false)∧U=h2∧e'=e+1) (by simp only[tG,seval]) ?_;rintro x t3 h3 e3 a3 w3 ⟨rfl,rfl,rfl,rfl⟩ au;refine Z8 hc ⟨ks,vs,acc,vI,ty,v9,v2,nv,?_,i2,i3,i4,i5,?_,i7,?_,i9,by omega,i11⟩ au
    ·rw[aq _ _ (by decide),aq _ _ (by decide)];exact i1
    ·rw[aq _ _ (by decide),aq _ _ (by decide)];exact i6
    ·rw[aq _ _ (by decide),aq _ _ (by decide)];exact i8
   ·refine Ef (F:=FU) tok py ae (by decide) (by simp) (K:=fun t' U=>t'=bI (bI t 45 (.tup [.bool true,.agg [.int .i64 k.1,.int .i64 k.2],.agg [.int .i64 x.cD.ah,.sl false false x.cD.aa.length (ab (eI .i64) x.cD.aa),.int .i64 x.cw.ah,.sl false false x.cw.aa.length (ab (eI .i64) x.cw.aa)]])) 46 (.bool true)∧U=bI h 44 (some ⟨vI,900001,[.mpc (dC ((k,x)::O)) (fu (bt aD) ((k,x)::O))],false,true,true⟩)) (by simp only[tG,seval]) ?_;rintro t2 h2 a2 w2 ⟨rfl,rfl⟩ hH;refine (show Code.wp _ (Code.seq (Code.cond _ Code.skip (Code.exit 2)) (Code.block 3 (Code.seq (Code.region _ (List.toArray _) false) _))) _ a2 w2 from ?_);apply wp_seq;have hF:∃t h,(t 44=.ptr 44 vI 0∧t 9=.ptr 9 v9 0∧t 2=.ptr 2 v2 0∧h 44=some ⟨vI,900001,[.mpc (dC ((k,x)::O)) (fu (bt aD) ((k,x)::O))],false,true,true⟩∧h 9=some ⟨v9,28,[.nr 65 6 nv [.int .i64 ports,.nx acc.length (ab bD acc)]],false,false,true⟩∧h 2=some ⟨v2,28,[.int .i64 0,.sl true true 0 []],false,false,false⟩∧t 46=.bool true)∧Holds 65 M none w0 ⟨t,h,e+1⟩ a2 w2:=by
     refine⟨_,_,⟨?_,?_,?_,an _ _ _,?_,?_,an _ _ _⟩,hH⟩
     ·rw[aq _ _ (by decide),aq _ _ (by decide)];exact i1
     ·rw[aq _ _ (by decide),aq _ _ (by decide)];exact i6
     ·rw[aq _ _ (by decide),aq _ _ (by decide)];exact i8
     ·rw[aq _ _ (by decide)];exact i7
     ·rw[aq _ _ (by decide)];exact i9
    clear hH ae hI i1 i2 i3 i4 i5 i6 i7 i8 i9;clear h t;obtain⟨t,h,⟨f1,f2,f3,f4,f5,f6,f7⟩,hH⟩:=hF;refine wL (F:=FU) tok py mixed hH (by kernel_rfl) (K:=fun x t' U e'=>x=.normal∧t'=t∧U=h∧e'=e+1) (by simp only[tG,seval,f7]) ?_;rintro x' t3 h3 e3 a3 w3 ⟨rfl,rfl,rfl,rfl⟩ ⟨al,Z⟩;replace Z:qM 65 M none w0 al (e+1) [] t3 h3 a3 w3:=Z;refine (show Code.wp _ (Code.block 3 (Code.seq (Code.region _ (List.toArray _) false) _)) _ a3 w3 from ?_);apply wp_block;apply wp_seq;apply wp_region_lit;refine yc rfl Z (by decide) (K:=fun t' h'=>t'=bI t3 47 (.tup [.agg [.int .i64 k.1,.int .i64 k.2],.agg [.int .i64 x.cD.ah,.sl false false x.cD.aa.length (ab (eI .i64) x.cD.aa),.int .i64 x.cw.ah,.sl false false x.cw.aa.length (ab (eI .i64) x.cw.aa)]])∧h'=h3) ?_ ?_
    ·refine dR.mono (Pw Z.inv (e:=e+1) (y:=44) (p := .tmp 44) (k:=uX.k k) (x:=(bt aD).d x) (ks:=dC O) (vs:=fu (bt aD) O) rfl (by simp[ev,f1]) f4 (by rw[cm];decide)) fun v w' hA=>⟨_,⟨rfl,rfl⟩,tW Z (fun d hd=>by cases hd;exact⟨by simp,by decide⟩) (gA.refl _ _) hA⟩
    ·rintro t4 h4 a4 w4 aC ⟨rfl,rfl⟩ av;refine Ef (F:=FU) tok py av (by decide) (by simp) (K:=fun t' h'=>t' 44=.ptr 44 vI 0∧t' 9=.ptr 9 v9 0∧t' 2=.ptr 2 v2 0∧t' 10=.ptr 10 (e+1) 0∧t' 11=.ptr 11 (e+1) 0 ∧
      h' 44=some ⟨vI,900001,[.mpc (dC ((k,x)::O)) (fu (bt aD) ((k,x)::O))],false,true,true⟩∧h' 9=some ⟨v9,28,[.nr 65 6 nv [.int .i64 ports,.nx acc.length (ab bD acc)]],false,false,true⟩∧h' 2=some ⟨v2,28,[.int .i64 0,.sl true true 0 []],false,false,false⟩ ∧
      h' 10=some ⟨e+1,77,[.int .i64 k.1,.int .i64 k.2],false,false,false⟩∧h' 11=some ⟨e+1,42,[.int .i64 x.cD.ah,.sl false false x.cD.aa.length (ab (eI .i64) x.cD.aa),.int .i64 x.cw.ah,.sl false false x.cw.aa.length (ab (eI .i64) x.cw.aa)],false,false,false⟩) (by simp only[tG,seval,f1,f2,f3,f4,f5,f6]) ?_
     rintro t5 h5 a5 w5 ⟨g1,g2,g3,g4,g5,g6,g7,g8,g9,g10⟩ ax;have aE:acc.length+1+O.length=m.length:=by
      have:=i11.length_eq;simp only[agP,af7]at this;omega
     have ao:kr 80 acc [jI (k,x)]=some (acc++[jI (k,x)]):=by
      unfold kr;have:(17592186044416:Nat)<=maxLen:=by decide
      rw[if_pos ⟨by simp;omega,by simp;omega⟩]
     obtain⟨qa,qb,qc,qd⟩:=ir bD ao;simp only[bX,jI]at qb;have bp:bump nv (e+1+1)=some (4*(e+1+1)+1):=A8 (by omega);refine (show Code.wp _ (Code.region _ (List.toArray _) false) _ a5 w5 from ?_);refine wL (F:=FU) tok py mixed ax (by kernel_rfl) (K:=fun x' t' h' e'=>x'=.normal∧e'=e+1+1+1∧t' 44=.ptr 44 vI 0∧t' 9=.ptr 9 v9 0∧t' 2=.ptr 2 v2 0 ∧
      h' 44=some ⟨vI,900001,[.mpc (dC ((k,x)::O)) (fu (bt aD) ((k,x)::O))],false,true,true⟩∧h' 9=some ⟨v9,28,[.nr 65 6 (4*(e+1+1)+1) [.int .i64 ports,.nx (acc++[jI (k,x)]).length (ab bD (acc++[jI (k,x)]))]],false,false,true⟩∧h' 2=some ⟨v2,28,[.int .i64 0,.sl true true 0 []],false,false,false⟩)
      (by simp only[tG,seval,g1,g2,g3,g4,g5,g6,g7,g8,g9,g10,qa,qb,qc,qd,bp,jI];exact⟨qc,qd⟩) ?_
     rintro x' t6 h6 e6 a6 w6 ⟨rfl,rfl,l1,l2,l3,l4,l5,l6⟩ ay;refine (show ∃n',n'<n∧∃(Y:List ((Int×Int)×aw)) (t:Nat->D) (h:Nat->Option Row) (e:Nat),Y.length=n'∧Rs m ports Y t h e∧Holds 65 M none w0 ⟨t,h,e⟩ a6 w6 from ?_);refine⟨O.length,by omega,O,t6,h6,_,rfl,⟨_,_,_,vI,900001,v9,v2,_,l1,l4,by decide,?_,?_,l2,l5,l3,l6,by omega,?_⟩,ay⟩
     ·rw[show 900001-900000=1 from ag3 (n:=900000) (m:=1)];rfl
     ·rw[show 900001-900000=1 from ag3 (n:=900000) (m:=1)];rfl
     ·rw[ag1];exact (List.Perm.append_left acc p1.symm).trans i11
def nS (l:Option (D×Row)) (d:List D):=dP (gX (mG (eI .i64)) (dL (mG (eI .i64)))) (fun x:(List Int)×(List Int)=>nG x.1 x.2) (fun r:(List Int) =>.fresh 3 1 r.length (ab (eI .i64) r)) l d
def yu:Env:=(Am.ext bk 125 true qD)
theorem PX:bF prog yu:=(bF.none.add Fe true)
theorem fc:type_of% (ai @w<|@yu.eq_1):=⟨@w,@yu.eq_1⟩
theorem DN:bT prog 126 nS:=bT.gJ (mode:=(.fresh 3 1)) tok PX mixed func126 (by kernel_rfl) (fun _ _=>rfl) (fun _=>by kernel_rfl) fun⟨p0,p1⟩ r O=>by
 replace O:nG p0 p1=some r:=O;apply aF rfl ntmps126 results126;simp only[gK];unfold nG at O;obtain⟨x1,aU,O⟩:=ae O;obtain⟨Y,Z,aa,U,ad⟩:=mk_one (eI .i64) aU;simp only[bX]at U;try simp only[fc,seval,-Int.reduceToNat,Y,Z,aa,U,ad]
 obtain⟨aV,aJ,O⟩:=ae O;refine aC (fun s t H e=>match s with|(ai,aG)=>∃ao:Nat,t 1=.sl false false p1.length (ab (eI .i64) p1)∧t 5=.buf 5 ao 1 0 (aG).length∧t 18=.sl false false p0.length (ab (eI .i64) p0)∧t 19=.int .i64 (p0.length:Int)∧t 20=.int .i64 ai∧H 5=some ⟨ao,3,ab (eI .i64) aG,false,true,false⟩) (fun o x t H e=>match o with|ak=>x=.exit 0∧∃aq:Nat,t 5=.buf 5 aq 1 0 (ak).length∧H 5=some ⟨aq,3,ab (eI .i64) ak,false,true,false⟩) aJ ?_ ?_ ?_
 ·refine⟨1,?_⟩;and_intros<;>first|rfl|(simp only[fc,seval,-Int.reduceToNat,Y,Z,aa,U,ad]<;>rfl)
 ·rintro⟨ai,aG⟩ t H e ⟨ao,Za⟩ c O;simp only[qY]at O;try simp only[fc,seval,-Int.reduceToNat,Y,Z,aa,U,ad,Za]
  apply sp aj O<;>intro _ O
  ·obtain⟨aH,aK,O⟩:=ae O;have X:=bC (eI .i64) aK;simp only[bX]at X;try simp only[fc,seval,-Int.reduceToNat,Y,Z,aa,U,ad,Za,X]
   obtain⟨aW,aL,O⟩:=ae O;refine aC (fun s t H e=>match s with|(aA,aE,aI)=>∃ar:Nat,t 1=.sl false false p1.length (ab (eI .i64) p1)∧t 5=.buf 5 ar 1 0 (aI).length∧t 6=.int .i64 ai∧t 7=.int .i64 aH∧t 8=.int .i64 aA∧t 18=.sl false false p0.length (ab (eI .i64) p0)∧t 19=.int .i64 (p0.length:Int)∧t 20=.int .i64 ai∧t 25=.sl false false p1.length (ab (eI .i64) p1)∧t 26=.int .i64 (p1.length:Int)∧t 27=.int .i64 aE∧H 5=some ⟨ar,3,ab (eI .i64) aI,false,true,false⟩) (fun o x t H e=>match o with|(al,au)=>x=.exit 2∧∃an:Nat,t 1=.sl false false p1.length (ab (eI .i64) p1)∧t 5=.buf 5 an 1 0 (au).length∧t 6=.int .i64 ai∧t 8=.int .i64 al∧t 18=.sl false false p0.length (ab (eI .i64) p0)∧t 19=.int .i64 (p0.length:Int)∧t 20=.int .i64 ai∧H 5=some ⟨an,3,ab (eI .i64) au,false,true,false⟩) aL ?_ ?_ ?_
   ·refine⟨ao,?_⟩;and_intros<;>first|rfl|(simp only[fc,seval,-Int.reduceToNat,Y,Z,aa,U,ad,Za,X]<;>rfl)
   ·rintro⟨aA,aE,aI⟩ t H e ⟨ar,Zc⟩ c O;simp only[qZ]at O;try simp only[fc,seval,-Int.reduceToNat,Y,Z,aa,U,ad,X,Zc]
    apply sp aj O<;>intro _ O
    ·obtain⟨aM,aN,O⟩:=ae O;have av:=bC (eI .i64) aN;simp only[bX]at av;obtain⟨aO,aw,O⟩:=ae O;have ag:=bC (eI .i64) aw;simp only[bX]at ag;obtain⟨aY,aP,O⟩:=ae O;have aQ:=uH aP;have ag:=bC (eI .i64) aw;simp only[bX]at ag;have aB:=fP (eI .i64) (x':=jQ .and .i64 (IntKind.i64.wrap ((IntKind.i64.wrap (aO+(IntKind.i64.wrap (aH*aM))))+aA)) 1048575) (fo:=0) (cs:=[.int .i64 (jQ .and .i64 (IntKind.i64.wrap ((IntKind.i64.wrap (aO+(IntKind.i64.wrap (aH*aM))))+aA)) 1048575)]) aw rfl (ahr rfl);simp only[bX,Nat.add_zero]at aB;have ax:=aB;simp only[putCells,List.length_cons,List.length_nil,agt,Nat.reduceAdd]at ax;cases O;try simp only[fc,seval,-Int.reduceToNat,Y,Z,aa,U,ad,X,Zc,av,ag,aQ,ag,aB,ax]
     apply iP;refine⟨ar,?_⟩;and_intros<;>first|rfl|(simp only[fc,seval,-Int.reduceToNat,Y,Z,aa,U,ad,X,Zc,av,ag,aQ,ag,aB,ax]<;>rfl)
    ·cases O;try simp only[fc,seval,-Int.reduceToNat,Y,Z,aa,U,ad,X,Zc]
     apply jW;refine⟨rfl,⟨ar,?_⟩⟩;and_intros<;>first|rfl|(simp only[fc,seval,-Int.reduceToNat,Y,Z,aa,U,ad,X,Zc]<;>rfl)
   ·rintro x t H e hx;rcases aW with⟨al,au⟩;dsimp only at hx O;obtain⟨rfl,⟨an,aR⟩⟩:=hx;obtain⟨aS,ay,O⟩:=ae O;have ah:=bC (eI .i64) ay;simp only[bX]at ah;have ah:=bC (eI .i64) ay;simp only[bX]at ah;have aD:=fP (eI .i64) (x':=IntKind.i64.wrap (aS+al)) (fo:=0) (cs:=[.int .i64 (IntKind.i64.wrap (aS+al))]) ay rfl (ahr rfl);simp only[bX,Nat.add_zero]at aD;have az:=aD;simp only[putCells,List.length_cons,List.length_nil,agt,Nat.reduceAdd]at az;cases O;try simp only[fc,seval,-Int.reduceToNat,Y,Z,aa,U,ad,X,aR,ah,ah,aD,az]
    apply iP;refine⟨an,?_⟩;and_intros<;>first|rfl|(simp only[fc,seval,-Int.reduceToNat,Y,Z,aa,U,ad,X,aR,ah,ah,aD,az]<;>rfl)
  ·cases O;try simp only[fc,seval,-Int.reduceToNat,Y,Z,aa,U,ad,Za]
   apply jW;refine⟨rfl,⟨ao,?_⟩⟩;and_intros<;>first|rfl|(simp only[fc,seval,-Int.reduceToNat,Y,Z,aa,U,ad,Za]<;>rfl)
 ·rintro x t H e hx;obtain⟨ak,rfl⟩:∃z,z=aV:=⟨_,rfl⟩;dsimp only at hx O;obtain⟨rfl,⟨aq,aX⟩⟩:=hx;have i38:=JK [] [] ak;try simp only[List.nil_append,ahz,List.length_nil,bh,ahI,bX]at i38
  obtain⟨aZ,aT,O⟩:=ae O;cases O;try simp only[fc,seval,-Int.reduceToNat,Y,Z,aa,U,ad,aX,i38,aT]
def n9:=Z4 3 (eI .i64) (gX (mG (eI .i64)) (dL (aI .i64))) (fun (l:(List Int)) (x:(List Int)×Int)=>fL l x.1 x.2) (fun r:Int =>.clean (.int .i64 r))
theorem D8 (pre post:List D) (O:(List Int)) (U:(List Int)) (X:Int):n9 (some (.buf 0 0 1 pre.length O.length,⟨0,3,pre++(ab (eI .i64) O++post),false,true,false⟩)) [.sl false false U.length (ab (eI .i64) U),.int .i64 X]=(fL O U X).map fun r=>(.clean (.int .i64 r.2),some ⟨0,3,pre++(ab (eI .i64) r.1++post),false,true,false⟩):=XK _ _ _ _ _ pre post O (U,X)
theorem Dl (pre post:List D) (p0:(List Int)) (p1:(List Int)) (p2:Int) (r:(List Int)×(Int)) (O:fL p0 p1 p2=some r):jO .clean tab bk FU Tryz.f142 (some (.buf 0 0 1 pre.length p0.length,⟨0,3,pre++(ab (eI .i64) p0++post),false,true,false⟩)) [.sl false false p1.length (ab (eI .i64) p1),.int .i64 p2]=some (.clean (.int .i64 r.2),some ⟨0,3,pre++(ab (eI .i64) r.1++post),false,true,false⟩):=by
 apply EO rfl ntmps142 results142;unfold fL at O;obtain⟨rw,aO,O⟩:=ae O;split at O;rotate_left
 ·cases O
 cases O;rename_i hlen;replace O:=aO;unfold ot at O;try simp only[w,seval,-Int.reduceToNat]
 obtain⟨o9,aP,O⟩:=ae O;refine aC (fun s t H e=>match s with|(aB,aa,ag)=>t 0=.buf 0 0 1 pre.length (ag).length∧t 1=.sl false false p1.length (ab (eI .i64) p1)∧t 2=.int .i64 p2∧t 7=.int .i64 aB∧t 13=.int .i64 ((p0).length:Int)∧t 14=.int .i64 aa∧H 0=some ⟨0,3,pre++(ab (eI .i64) ag++post),false,true,false⟩) (fun o x t H e=>match o with|(az,Y)=>x=.exit 0∧t 0=.buf 0 0 1 pre.length (Y).length∧t 1=.sl false false p1.length (ab (eI .i64) p1)∧t 2=.int .i64 p2∧t 7=.int .i64 az∧H 0=some ⟨0,3,pre++(ab (eI .i64) Y++post),false,true,false⟩) aP ?_ ?_ ?_
 ·and_intros<;>first|rfl|(simp only[w,seval,-Int.reduceToNat]<;>rfl)
 ·rintro⟨aB,aa,ag⟩ t H e Za c O;simp only[kd]at O;try simp only[w,seval,-Int.reduceToNat,Za]
  apply sp aj O<;>intro _ O
  ·obtain⟨aU,ah,O⟩:=ae O;have U:=Mu (pre:=pre) (post:=post) (eI .i64) ah;simp only[bX]at U;try simp only[w,seval,-Int.reduceToNat,Za,U]
   obtain⟨aQ,aD,O⟩:=ae O;refine j9 0 (fun s t H e=>match s with|ai=>t 0=.buf 0 0 1 pre.length (ag).length∧t 1=.sl false false p1.length (ab (eI .i64) p1)∧t 2=.int .i64 p2∧t 8=.int .i64 aa∧t 9=.int .i64 ai∧t 13=.int .i64 ((p0).length:Int)∧t 14=.int .i64 aa∧H 0=some ⟨0,3,pre++(ab (eI .i64) ag++post),false,true,false⟩) (fun s=>s=aQ) ?_ ?_
   ·rintro ai t H e aE rfl;try dsimp only at O
    have U:=Mu (pre:=pre) (post:=post) (eI .i64) ah;simp only[bX]at U;have aw:=N5 (pre:=pre) (post:=post) (eI .i64) (y':=jQ .and .i64 ai 1048575) ah;simp only[bX]at aw;have ak:=aw;simp only[putCells,List.length_cons,List.length_nil,agt,Nat.reduceAdd]at ak;obtain⟨aV,aF,O⟩:=ae O;have aG:=uH aF;cases O;try simp only[w,seval,-Int.reduceToNat,U,aE,U,aw,ak,aG]
    apply iP;and_intros<;>first|rfl|(simp only[w,seval,-Int.reduceToNat,U,aE,U,aw,ak,aG]<;>rfl)
   ·clear O;have O:=aD;try simp only[w,seval,-Int.reduceToNat,Za,U]
    apply sp aj O<;>intro _ O
    ·obtain⟨aW,aH,O⟩:=ae O;have an:=bC (eI .i64) aH;simp only[bX]at an;cases O;try simp only[w,seval,-Int.reduceToNat,Za,U,an]
     rw[al];refine⟨_,rfl,?_⟩;and_intros<;>first|rfl|(simp only[w,seval,-Int.reduceToNat,Za,U,an]<;>rfl)
    ·cases O;try simp only[w,seval,-Int.reduceToNat,Za,U]
     rw[al];refine⟨_,rfl,?_⟩;and_intros<;>first|rfl|(simp only[w,seval,-Int.reduceToNat,Za,U]<;>rfl)
  ·cases O;try simp only[w,seval,-Int.reduceToNat,Za]
   apply jW;refine⟨rfl,?_⟩;and_intros<;>first|rfl|(simp only[w,seval,-Int.reduceToNat,Za]<;>rfl)
 ·rintro x t H e hx;rcases o9 with⟨az,Y⟩;dsimp only at hx O;obtain⟨rfl,ax⟩:=hx;try simp only[w,seval,-Int.reduceToNat,ax]
  apply sp aj O<;>intro _ O
  ·cases O;try simp only[w,seval,-Int.reduceToNat,ax]
  ·try simp only[w,seval,-Int.reduceToNat,ax]
   obtain⟨aR,aI,O⟩:=ae O;refine aC (fun s t H e=>match s with|(aA,ad,ao)=>t 0=.buf 0 0 1 pre.length (ao).length∧t 1=.sl false false p1.length (ab (eI .i64) p1)∧t 2=.int .i64 p2∧t 10=.int .i64 aA∧t 48=.int .i64 ((Y).length:Int)∧t 49=.int .i64 ad∧H 0=some ⟨0,3,pre++(ab (eI .i64) ao++post),false,true,false⟩) (fun o x t H e=>match o with|aq=>x=.exit 2∧t 0=.buf 0 0 1 pre.length (aq).length∧t 2=.int .i64 p2∧H 0=some ⟨0,3,pre++(ab (eI .i64) aq++post),false,true,false⟩) aI ?_ ?_ ?_
   ·and_intros<;>first|rfl|(simp only[w,seval,-Int.reduceToNat,ax]<;>rfl)
   ·rintro⟨aA,ad,ao⟩ t H e Zd c O;simp only[ke]at O;try simp only[w,seval,-Int.reduceToNat,Zd]
    apply sp aj O<;>intro _ O
    ·obtain⟨aX,ar,O⟩:=ae O;have X:=Mu (pre:=pre) (post:=post) (eI .i64) ar;simp only[bX]at X;try simp only[w,seval,-Int.reduceToNat,Zd,X]
     obtain⟨aS,aJ,O⟩:=ae O;refine j9 0 (fun s t H e=>match s with|Z=>t 0=.buf 0 0 1 pre.length (ao).length∧t 1=.sl false false p1.length (ab (eI .i64) p1)∧t 2=.int .i64 p2∧t 10=.int .i64 Z∧t 11=.int .i64 ad∧t 48=.int .i64 ((Y).length:Int)∧t 49=.int .i64 ad∧H 0=some ⟨0,3,pre++(ab (eI .i64) ao++post),false,true,false⟩) (fun s=>s=aS) ?_ ?_
     ·rintro Z t H e aK rfl;try dsimp only at O
      have X:=Mu (pre:=pre) (post:=post) (eI .i64) ar;simp only[bX]at X;have ay:=N5 (pre:=pre) (post:=post) (eI .i64) (y':=jQ .and .i64 Z 1048575) ar;simp only[bX]at ay;have au:=ay;simp only[putCells,List.length_cons,List.length_nil,agt,Nat.reduceAdd]at au;obtain⟨aY,aL,O⟩:=ae O;have aM:=uH aL;cases O;try simp only[w,seval,-Int.reduceToNat,X,aK,X,ay,au,aM]
      apply iP;and_intros<;>first|rfl|(simp only[w,seval,-Int.reduceToNat,X,aK,X,ay,au,aM]<;>rfl)
     ·clear O;have O:=aJ;try simp only[w,seval,-Int.reduceToNat,Zd,X]
      apply sp aj O<;>intro _ O
      ·obtain⟨aZ,aN,O⟩:=ae O;have av:=bC (eI .i64) aN;simp only[bX]at av;cases O;try simp only[w,seval,-Int.reduceToNat,Zd,X,av]
       rw[al];refine⟨_,rfl,?_⟩;and_intros<;>first|rfl|(simp only[w,seval,-Int.reduceToNat,Zd,X,av]<;>rfl)
      ·cases O;try simp only[w,seval,-Int.reduceToNat,Zd,X]
       rw[al];refine⟨_,rfl,?_⟩;and_intros<;>first|rfl|(simp only[w,seval,-Int.reduceToNat,Zd,X]<;>rfl)
    ·cases O;try simp only[w,seval,-Int.reduceToNat,Zd]
     apply jW;refine⟨rfl,?_⟩;and_intros<;>first|rfl|(simp only[w,seval,-Int.reduceToNat,Zd]<;>rfl)
   ·rintro x t H e hx;obtain⟨aq,rfl⟩:∃z,z=aR:=⟨_,rfl⟩;dsimp only at hx O;obtain⟨rfl,aT⟩:=hx;cases O;try simp only[w,seval,-Int.reduceToNat,aT]
theorem AT:bT prog 142 n9:=bT.ac2 (mode := .clean) tok bF.none mixed func142 (by kernel_rfl) ⟨by kernel_rfl,by kernel_rfl⟩ (fun _=>ahr (by kernel_rfl)) (fun pre post l x l' r h=>Dl pre post l x.1 x.2 (l',r) h)
def lL (l:Option (D×Row)) (d:List D):=dP (gX (mG (eI .i64)) (dL (mG (eI .i64)))) (fun x:(List Int)×(List Int)=>qU x.1 x.2) (fun r:(List Int)×(List Int) =>.clean (.tup [.sl false false r.1.length (ab (eI .i64) r.1),.sl false false r.2.length (ab (eI .i64) r.2)])) l d
theorem uv (O:(List Int)) (U:(List Int)):nS none [.sl false false O.length (ab (eI .i64) O),.sl false false U.length (ab (eI .i64) U)]=(nG O U).map fun r:(List Int)=>(.fresh 3 1 r.length (ab (eI .i64) r),none):=cI _ _ _ (O,U)
theorem mh (O:(List Int)):e8 none [.sl false false O.length (ab (eI .i64) O)]=(er O).map fun r:(List Int)=>(.clean (.sl false false r.length (ab (eI .i64) r)),none):=cI _ _ _ (O)
def yt:Env:=(Am.ext (Am.ext (Am.ext (Am.ext (Am.ext (Am.ext bk 88 false hZ) 91 false eJ) 125 false e8) 126 false nS) 141 false pc) 142 true n9)
theorem PW:bF prog yt:=((((((bF.none.add kj false).add oR false).add mT false).add DN false).add Jz false).add AT true)
theorem aY:type_of% (ai @w<|ai @fw<|ai @As<|ai @eJ.eq_1<|ai @mh<|ai @uv<|ai @Vy<|ai @pc.eq_1<|@yt.eq_1):=⟨@w,@fw,@As,@eJ.eq_1,@mh,@uv,@Vy,@pc.eq_1,@yt.eq_1⟩
end Go.Proofs.YtoioidmblipblaaGreat.Am
