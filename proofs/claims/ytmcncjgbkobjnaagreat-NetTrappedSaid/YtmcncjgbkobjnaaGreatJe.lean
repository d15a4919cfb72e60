import Derived.Test.YtmcncjgbkobjnaaGreatJd
set_option linter.unusedSimpArgs false
set_option linter.unusedVariables false
noncomputable section
open Go.Proofs.Tryz
namespace Go.Proofs.YtmcncjgbkobjnaaGreat.Am
open Go.RowKit Go.Proofs.YtmcncjgbkobjnaaGreat.P
def Fe {α:Type} (e:ij α):ij (List α):=⟨fun l=>[.nx l.length (ab e l)],1,fun _=>rfl,by decide,fun x y h=>by
 simp only[agf,D.nx.injEq,and_true]at h
 exact th e _ _ h.2⟩
theorem uz {α:Type} (e:ij α) (l:List α):(Fe e).cells l=[.nx l.length (ab e l)]:=aiu
theorem xt {α:Type} (e:ij α):(Fe e).size=1:=aiu
section
variable {α:Type} (E:ij α) {l:List α} {i:Int} {x x':α}
theorem Km (cs:List D) (o:Nat) (d:D) (h:o<cs.length):(putCells cs o [d]).length=cs.length:=by
 simp[putCells];omega
theorem Kn (cs:List D) (o:Nat) (d d':D) (h:o<cs.length):putCells (putCells cs o [d]) o [d']=putCells cs o [d']:=by
 unfold putCells
 have h1:(cs.take o).length=o:=by simp;omega
 have h2:(cs.take o++[d]++cs.drop (o+[d].length)).take o=cs.take o:=by
  rw[ahd,ahh (by omega),ahi (by omega)]
 have h3:(cs.take o++[d]++cs.drop (o+[d].length)).drop (o+[d'].length)=cs.drop (o+[d'].length):=by
  rw[ahe (by simp;omega),ahD (by simp;omega),ahA]
  rfl
 rw[h2,h3]
theorem Ka (fo:Nat) (h:P.idx l i=some x) (hfo:fo+1<=E.size):i.toNat*E.size+fo<(ab E l).length:=by
 have:=rv E h
 rw[bx]
 omega
theorem YM (fo:Nat) (d d':D) (h:P.idx l i=some x) (hc:E.cells x'=putCells (E.cells x) fo [d']) (hfo:fo+1<=E.size):putCells (putCells (ab E l) (i.toNat*E.size+fo) [d]) (i.toNat*E.size+fo) [d']=ab E (l.set i.toNat x'):=by
 rw[Kn _ _ _ _ (Ka E fo h hfo)]
 exact eZ E fo [d'] h hc hfo
theorem aaR (fo:Nat) (d:D) (h:P.idx l i=some x) (hfo:fo+1<=E.size):i.toNat*E.size+fo+1<=(putCells (ab E l) (i.toNat*E.size+fo) [d]).length:=by
 rw[Km _ _ _ (Ka E fo h hfo)]
 exact Ka E fo h hfo
end
theorem IG {t s nv n o:Nat} {fz:Bool} {cs xs cs':List D} : zt t s nv fz cs o (some ⟨nv,t,cs',fz,true,false⟩) (some (.nx n xs))=[.nr t s nv (putCells cs o [.nx n cs'])]:=by
 simp[zt,Ib]
theorem IF {t s nv n o:Nat} {fz:Bool} {cs xs:List D} : zt t s nv fz cs o none (some (.nx n xs))=[.nr t s nv (putCells cs o [.und])]:=aiu
theorem aaI {α:Type} {E:ij α} {T:Nat->Option Ty} {el B ty' s f:Nat} {φ:Ty} {k:IntKind} {n:Int} {z:α} {m:List α} (hφ:T el=some φ) (hz:k9 φ f=E.cells z) (hs:φ.size=E.size) (hd:(φ.zero.map lh).all eu=true) (hl:φ.zero.length=φ.size) (hn:Yu ((φ.zero.map lh).drop f).head? = true) (hB:φ.bytes=B) (h:FJ B n n z=some m)
  : ∀(b c:Nat) (z0:List Value) (q:Bool) (e d:Nat),d<1000000->mO T ⟨.slice el,b,c,z0,q⟩ e d ty' s f (.int k n) (.int k n)=some ⟨.buf d e φ.size 0 m.length,[(d,some ⟨e,el,[.nr ty' s (4*e+2) (ab E m)],false,true,true⟩)]⟩:=by
 intro b c z0 q e d hdp
 obtain⟨h1,h2,h3,h4,h5⟩:=mk_one E h
 have hnat:mq (.int k n)=some n.toNat:=by simp[mq,h1]
 have hpos:=E.pos
 unfold mO
 simp only[hφ,hnat]
 rw[if_pos ⟨afR _,by rw[h2];exact h3,by rw[h2,hB];exact h5,by omega,hd,hl,by rw[bZ];exact hdp,hn⟩,hz,h2,h4]
theorem GH {k:IntKind} {n:Int} : eu (.int k n)=true:=aiu
theorem Cs {b:Bool} : eu (.bool b)=true:=aiu
theorem GI {b:ByteArray} : eu (.str b)=true:=aiu
theorem LS {a b:Bool} {n:Nat} {xs:List D} : eu (.sl a b n xs)=true:=aiu
def mN {α β:Type} (A:jt α) (F:α->Option β) (R:β->Nat×Nat×Nat×Nat×Nat×List D):List D->Option (Nat×Nat×Nat×Nat×Nat×List D):=fun ds=>open Classical in if h:∃a,A.ds a=ds then (F (Classical.choose h)).map R else none
theorem Yl {α β:Type} {A:jt α} {F:α->Option β} {R:β->Nat×Nat×Nat×Nat×Nat×List D} {ds:List D} {q:Nat×Nat×Nat×Nat×Nat×List D} (h:mN A F R ds=some q):∃a r,ds=A.ds a∧F a=some r∧q=R r:=by
 unfold mN at h
 split at h
 ·rename_i he
  rw[afP]at h
  obtain⟨r,h1,h2⟩:=h
  exact⟨_,r,(Classical.choose_spec he).symm,h1,h2.symm⟩
 ·cases h
structure FOk (P:Program) (f:FuncId) (p:List D->Option (Nat×Nat×Nat×Nat×Nat×List D)):Prop where
 callable:dz P f
 calls:∀args ty t s S n cs,p args=some (ty,t,s,S,n,cs)->Jf P f args ty t s S n cs
theorem FOk.of {P:Program} {T:Nat->Option Ty} {Γ:Env} (hT:gz P T) (hΓ:bA P Γ) (hm:P.follows .mixedOrders=true) {α β:Type} {A:jt α} {F:α->Option β} {R:β->Nat×Nat×Nat×Nat×Nat×List D} {f:FuncId} {fn:Func} (hf:P.funcs[f]? = some fn) (hok:(match fn.body with|some c=>codeOk c|none=>true)=true)
  (hc:(fn.name == "runtime.NumGoroutine")=false∧fn.body.isNone=false) (hn:∀a,(A.ds a).length<=fn.ntmps) (h:∀a r,F a=some r->KJ T Γ FU fn (A.ds a)=some (R r)):FOk P f (mN A F R) where
 callable:=⟨fn,hf,hc⟩
 calls args ty t s S n cs hg:=by
  obtain⟨a,r,rfl,hr,he⟩:=Yl hg
  exact KK hT hΓ hm hf hok (hn a) ((h a r hr).trans (by rw[he]))
def acy {α β γ:Type} (ty t s:Nat) (EN:ij γ) (A:jt α) (F:γ->α->Option (γ×β)) (R:β->D):Nat->Nat->Nat->Nat->List D->List D->Option (D×List D):=fun ty' t' s' o cs args =>
 open Classical in if h:∃p:List D×List D×γ×α,ty'=ty∧t'=t∧s'=s∧cs=p.1++(EN.cells p.2.2.1++p.2.1)∧o=p.1.length∧args=A.ds p.2.2.2 then
  (F (Classical.choose h).2.2.1 (Classical.choose h).2.2.2).map fun r=>(R r.2,(Classical.choose h).1++(EN.cells r.1++(Classical.choose h).2.1)) else none
theorem VP {α β γ:Type} {ty t s:Nat} {EN:ij γ} {A:jt α} {F:γ->α->Option (γ×β)} {R:β->D} {ty' t' s' o:Nat} {cs args:List D} {d:D} {cs':List D} (h:acy ty t s EN A F R ty' t' s' o cs args=some (d,cs')) :
  ty'=ty∧t'=t∧s'=s∧∃pre post x a r,cs=pre++(EN.cells x++post)∧o=pre.length∧args=A.ds a∧F x a=some r∧d=R r.2∧cs'=pre++(EN.cells r.1++post):=by
 unfold acy at h
 split at h
 ·rename_i he
  obtain⟨h1,h2,h3,h4,h5,h6⟩:=Classical.choose_spec he
  rw[afP]at h
  obtain⟨r,k1,k2⟩:=h
  simp only[Prod.mk.injEq]at k2
  exact⟨h1,h2,h3,_,_,_,_,r,h4,h5,h6,k1,k2.1.symm,k2.2.symm⟩
 ·cases h
structure NOk (P:Program) (f:FuncId) (p:Nat->Nat->Nat->Nat->List D->List D->Option (D×List D)):Prop where
 callable:dz P f
 calls:∀ty t s o cs args d cs',p ty t s o cs args=some (d,cs')->Jg P f ty t s o cs args d cs'
theorem NOk.of {P:Program} {T:Nat->Option Ty} {Γ:Env} (hT:gz P T) (hΓ:bA P Γ) (hm:P.follows .mixedOrders=true) {α β γ:Type} {ty t s:Nat} {EN:ij γ} {A:jt α} {F:γ->α->Option (γ×β)} {R:β->D} {f:FuncId} {fn:Func} (hf:P.funcs[f]? = some fn) (hok:(match fn.body with|some c=>codeOk c|none=>true)=true)
  (hc:(fn.name == "runtime.NumGoroutine")=false∧fn.body.isNone=false) (hn:∀a,(A.ds a).length+1<=fn.ntmps) (h:∀pre post x a x' r,F x a=some (x',r)->RV T Γ FU fn ty t s pre.length (pre++(EN.cells x++post)) (A.ds a)=some (R r,pre++(EN.cells x'++post))):NOk P f (acy ty t s EN A F R) where
 callable:=⟨fn,hf,hc⟩
 calls ty' t' s' o cs args d cs' hg:=by
  obtain⟨rfl,rfl,rfl,pre,post,x,a,r,rfl,rfl,rfl,hr,rfl,rfl⟩:=VP hg
  exact KL hT hΓ hm hf hok (hn a) (h pre post x a r.1 r.2 hr)
theorem Hq {α:Type} {l:List α} : (ady l).length=l.length:=agm ..
section
variable {pre l:List D} {k m:Nat}
end
theorem Nr {τ:Ty} {h:Nat->Option Row} {x v o:Nat} : mH τ h x v o none=none:=aiu
theorem Td {d:D} {l:List D} : (d::l).head? = some d:=aiu
theorem TQ {r:Row} {f:Row->Option Row} : (some r).bind f=f r:=aiu
theorem TP {f:Row->Option Row} : (none:Option Row).bind f=none:=aiu
theorem LG {x o:Nat} : clP x o none=none:=aiu
theorem K7 {q:Option (List D×List Nat)} : caC none q=none:=aiu
theorem Gk {Γ:Env} {h:Nat->Option Row} {e g:Nat} {dst:Option Nat} : aar Γ h e dst g none=none:=aiu
theorem Z6 {o:Nat} {cs:List D} : lI 0 o cs=cs:=Jb o cs
theorem abb {x o n:Nat} (h:n<1000000):(NK x o=n)=False:=by
 have:=dX x o
 have:=bZ
 exact propext ⟨fun e=>by omega,fun e=>e.elim⟩
theorem Wv {x o n:Nat} (h:n<1000000):(n=NK x o)=False:=by
 have:=dX x o
 have:=bZ
 exact propext ⟨fun e=>by omega,fun e=>e.elim⟩
theorem vn:type_of% (ai @IF<|ai @Hq<|ai @IG<|ai @abb<|ai @Wv<|ai @Vm.eq_1<|ai @LG<|ai @K7<|ai @Gk<|ai @Z6<|ai @TQ<|ai @TP<|ai @Nr<|ai @Td<|ai @uz<|ai @GH<|ai @Cs<|ai @GI<|ai @LS<|@xt):=⟨@IF,@Hq,@IG,@abb,@Wv,@Vm.eq_1,@LG,@K7,@Gk,@Z6,@TQ,@TP,@Nr,@Td,@uz,@GH,@Cs,@GI,@LS,@xt⟩
end Go.Proofs.YtmcncjgbkobjnaaGreat.Am
namespace Go.Proofs.YtmcncjgbkobjnaaGreat.Am
open Go.RowKit Go.Proofs.YtmcncjgbkobjnaaGreat.P Go.Shelf Go.Lib
section
variable {P:Program}
end
end Go.Proofs.YtmcncjgbkobjnaaGreat.Am
namespace Go.Proofs.YtmcncjgbkobjnaaGreat.P
def Ve {α:Type} (c:α->α->Int) (x:α):List α->List α
 | []=>[x]
 | y::l=>if c x y<=0 then x::y::l else y::Ve c x l
def od {α:Type} (c:α->α->Int):List α->List α
 | []=>[]
 | x::l=>Ve c x (od c l)
theorem zd {α:Type} (c:α->α->Int) (x:α):∀l:List α,(Ve c x l).Perm (x::l)
 | []=>ahT _
 | y::l=>by
  unfold Ve
  split
  ·exact ahT _
  ·exact ((zd c x l).cons y).trans (List.Perm.swap x y l)
theorem kc {α:Type} (c:α->α->Int):∀l:List α,(od c l).Perm l
 | []=>ahT _
 | x::l=>(zd c x _).trans ((kc c l).cons x)
theorem nB {α:Type} (c:α->α->Int) (l:List α):(od c l).length=l.length:=(kc c l).length_eq
structure WO {α:Type} (c:α->α->Int):Prop where
 total:∀x y,c x y<=0∨c y x<=0
 neg:∀x y,c x y<0↔0<c y x
 trans:∀x y z,c x y<=0->c y z<=0->c x z<=0
theorem Av {α:Type} {c:α->α->Int} (h:WO c) (x:α):∀l:List α,l.Pairwise (fun x y=>c x y<=0)->(Ve c x l).Pairwise (fun x y=>c x y<=0)
 | [],_=>List.pairwise_singleton _ _
 | y::l,hs=>by
  unfold Ve
  obtain⟨h1,h2⟩:=ahv.1 hs
  split
  ·rename_i hc
   refine ahv.2 ⟨fun z hz =>?_,hs⟩
   rcases afY.1 hz with rfl|hz
   ·exact hc
   ·exact h.trans _ _ _ hc (h1 z hz)
  ·rename_i hc
   have hyx:c y x<=0:=(h.total x y).resolve_left hc
   refine ahv.2 ⟨fun z hz =>?_,Av h x l h2⟩
   rcases afY.1 ((zd c x l).mem_iff.1 hz) with rfl|hz
   ·exact hyx
   ·exact h1 z hz
theorem np {α:Type} {c:α->α->Int} (h:WO c):∀l:List α,(od c l).Pairwise (fun x y=>c x y<=0)
 | []=>List.Pairwise.nil
 | x::l=>Av h x _ (np h l)
theorem pL {α:Type} {c:α->α->Int} : ∀ {l m:List α},l.Perm m->(∀x∈l,∀y∈l,c x y<=0->c y x<=0->x=y)->l.Pairwise (fun x y=>c x y<=0)->m.Pairwise (fun x y=>c x y<=0)->l=m
 | [],m,hp,_,_,_=>(List.Perm.nil_eq hp)
 | x::l,[],hp,_,_,_=>absurd hp.symm (by intro h;have:=h.length_eq;simp at this)
 | x::l,y::m,hp,ha,hl,hm=>by
  obtain⟨l1,l2⟩:=ahv.1 hl
  obtain⟨m1,m2⟩:=ahv.1 hm
  have hxy:x=y:=by
   by_cases he:x=y
   ·exact he
   ·have hy:y∈l:=by
     have:y∈x::l:=hp.mem_iff.2 aho
     rcases afY.1 this with h|h
     ·exact absurd h.symm he
     ·exact h
    have hx:x∈m:=by
     have:x∈y::m:=hp.mem_iff.1 aho
     rcases afY.1 this with h|h
     ·exact absurd h he
     ·exact h
    exact ha x aho y (ahp _ hy) (l1 y hy) (m1 x hx)
  subst hxy
  rw[pL ((List.perm_cons x).1 hp) (fun a h1 b h2=>ha a (ahp _ h1) b (ahp _ h2)) l2 m2]
open Classical in
def AZ {α:Type} (c:α->α->Int) (l:List α):Option (List α×Unit):=if l.length<4611686018427387904∧∀x∈l,∀y∈l,c x y=0->x=y then some (od c l,()) else none
end Go.Proofs.YtmcncjgbkobjnaaGreat.P
namespace Go.Proofs.YtmcncjgbkobjnaaGreat.Am
open Go.RowKit Go.Proofs.YtmcncjgbkobjnaaGreat.P
def WK (ag:Bool) (us:List Value):Value:=if ag then .agg us.toArray else us.getD 0 undef
def IsV {α:Type} (E:ij α) (w:World) (M:Nat->Prop) (x:α) (us:List Value):Prop:=us.length=E.size∧∀j d,(E.cells x)[j]? = some d->aS d=true∧RP w M d (us.getD j undef)
def adi {α:Type} (P:Program) (g:FuncId) (ag:Bool) (E:ij α) (c:α->α->Int):Prop:=∀(w:World) (M:Nat->Prop) (x y:α) (ux uy:List Value),(∀b,M b->b<w.heap.size)->IsV E w M x ux->IsV E w M y uy ->
 Calls P g #[WK ag ux,WK ag uy] w fun e w'=>e=.returned (.int .i64 (c x y))∧∃q os,w'=Go.Sort.grow (w.drewN q) os
def abh (P:Program) (f g:FuncId) (ag:Bool) (k:Nat):Prop:=∀(β:Type) (_:Inhabited β) (enc:β->List Value) (cf:β->β->Int),(∀x,(enc x).length=k)->(∀x,∀v∈enc x,v.oneCell'=true)->Go.Sort.SWO (ltOf cf)->∀(blk off cap:Nat) (d:Array β) (w:World),
 (∀(m:Nat) (os:Array Obj) (dk:Array β),dk.size=d.size->∀x y:β,Calls P g #[WK ag (enc x),WK ag (enc y)] (sortWorldK enc k w blk off m dk os) fun e w'=>e=.returned (.int .i64 (cf x y))∧∃q os',w'=Go.Sort.grow ((sortWorldK enc k w blk off m dk os).drewN q) os') ->
 Go.Sort.HoldsK enc k w blk off d->blk<w.heap.size->d.size<4611686018427387904 ->
 Calls P f #[.slice (some ⟨blk,off,none⟩) d.size cap,.func (.func g) #[] #[]] w fun e w'=>e=.returned (.tuple #[])∧∃d' n os,Go.Sort.PermIn 0 d.size d d'∧Go.Sort.SortedIn (ltOf cf) 0 d.size d'∧w'=sortWorldK enc k w blk off n d' os
theorem SY {α:Type} (E:ij α) {l:List α} {i j:Nat} {x:α} (hi:l[i]? = some x) (hj:j<E.size):(ab E l)[i*E.size+j]? = (E.cells x)[j]?:=by
 have h1:((ab E l).drop (i*E.size))[j]? = (ab E l)[i*E.size+j]?:=af8
 have h2:l.drop i=x::l.drop (i+1):=by
  obtain⟨hlt,rfl⟩:=agl.1 hi
  exact ahM hlt
 rw[<- h1,uA,h2,bo,agw (by rw[E.len];exact hj)]
section
variable {β:Type} [Inhabited β] {enc:β->List Value} {k:Nat}
theorem Kp {w:World} {b off:Nat} {d:Array β} {cs:Array Value} {ty:Nat} {fr:Nat×Nat} (h:w.heap[b]? = some (.cells cs ty fr)):(Go.Sort.putRowK enc k w b off d).heap[b]? = some (.cells (Go.Sort.putCells id off (Go.Sort.flatK enc k d) cs) ty fr):=by
 simp[Go.Sort.putRowK,Go.Sort.putRow,Go.Sort.mapBlock,af1,h,Go.Sort.onCells]
theorem Bp {w:World} {b c off:Nat} {d:Array β} (h:c≠b):(Go.Sort.putRowK enc k w b off d).heap[c]? = w.heap[c]?:=by
 simp[Go.Sort.putRowK,Go.Sort.putRow,Go.Sort.mapBlock,af1,Ne.symm h]
theorem wb {w:World} {b c off m:Nat} {d:Array β} {os:Array Obj} (hc:c<w.heap.size) (h:c≠b):(sortWorldK enc k w b off m d os).heap[c]? = w.heap[c]?:=by
 unfold sortWorldK
 rw[Go.Sort.heap_grow_old _ _ (by simpa [Go.Sort.putRowK,Go.Sort.ahead] using hc),Bp h]
 rfl
theorem mK {w:World} {b off m:Nat} {d:Array β} {os:Array Obj} : w.heap.size<=(sortWorldK enc k w b off m d os).heap.size:=by
 simp[sortWorldK,Go.Sort.putRowK,Go.Sort.ahead]
theorem FV {w:World} {b off m:Nat} {d:Array β} {os:Array Obj} {cs:Array Value} {ty:Nat} {fr:Nat×Nat} (h:w.heap[b]? = some (.cells cs ty fr)):(sortWorldK enc k w b off m d os).heap[b]? = some (.cells (Go.Sort.putCells id off (Go.Sort.flatK enc k d) cs) ty fr):=by
 have hb:=(afV.1 h).1
 unfold sortWorldK
 rw[Go.Sort.heap_grow_old _ _ (by simpa [Go.Sort.putRowK,Go.Sort.ahead] using hb)]
 exact Kp h
theorem FQ {off:Nat} {d:Array β} {cs:Array Value} {j:Nat} (hj:j<cs.size):(Go.Sort.putCells id off (Go.Sort.flatK enc k d) cs).getD j undef=if off<=j∧j<off+d.size*k then (enc d[(j-off) / k]!)[(j-off) % k]! else cs.getD j undef:=by
 have h1:(Go.Sort.putCells id off (Go.Sort.flatK enc k d) cs)[j]? = some (if off<=j∧j<off+d.size*k then (enc d[(j-off) / k]!)[(j-off) % k]! else cs[j]):=by
  simp only[Go.Sort.putCells,Array.getElem?_mapIdx,ag2 hj,Option.map_some,Go.Sort.size_flatK]
  congr 1
  split
  ·rename_i hc
   rw[Go.Sort.get_flatK _ _ _ _ (by omega)]
   rfl
  ·rfl
 rw[afW,h1]
 simp[afW,hj]
end
theorem acP {α β:Type} {c:α->α->Int} (h:WO c) (f:β->α):Go.Sort.SWO (ltOf fun x y=>c (f x) (f y)) where
 irrefl x:=by
  simp only[ltOf,decide_eq_false_iff_not]
  intro hx
  have:=(h.neg _ _).1 hx
  omega
 trans x y z h1 h2:=by
  simp only[ltOf,decide_eq_true_eq]at h1 h2 ⊢
  by_cases h3:c (f x) (f z)<0
  ·exact h3
  ·have q1:c (f z) (f x)<=0:=by
    have:=(h.neg (f z) (f x));rcases ahU (c (f z) (f x)) 0 with q|q|q
    ·omega
    ·omega
    ·exact absurd ((h.neg (f x) (f z)).2 q) h3
   have q2:=h.trans _ _ _ q1 (Int.le_of_lt h1)
   have q3:=(h.neg _ _).1 h2
   omega
 ntrans x y z h1 h2:=by
  simp only[ltOf,decide_eq_false_iff_not]at h1 h2 ⊢
  intro h3
  have q1:c (f y) (f x)<=0:=by
   by_cases q:0<c (f y) (f x)
   ·exact absurd ((h.neg _ _).2 q) h1
   ·omega
  have q2:c (f z) (f y)<=0:=by
   by_cases q:0<c (f z) (f y)
   ·exact absurd ((h.neg _ _).2 q) h2
   ·omega
  have q3:=h.trans _ _ _ q2 q1
  have q4:=(h.neg _ _).1 h3
  omega
theorem Ek {β:Type} [Inhabited β] {d d':Array β} (h:Go.Sort.PermIn 0 d.size d d'):d'.toList.Perm d.toList:=by
 obtain⟨h1,-,h2⟩:=h
 have e1:(d.extract 0 d.size)=d:=by simp
 have e2:(d'.extract 0 d.size)=d':=by rw[<- h1];simp
 rwa [e1,e2]at h2
theorem Y2 {α:Type} {E:ij α} {c:α->α->Int} {P:Program} {f g:FuncId} {fn:Func} {ag:Bool} {ty:Nat} {F:List α->Option (List α×Unit)} (hf:P.funcs[f]? = some fn) (hc:(fn.name == "runtime.NumGoroutine")=false∧fn.body.isNone=false)
  (hF:∀l,F l=AZ c l) (h0:∀p cap w,Calls P f #[.slice p 0 cap,.func (.func g) #[] #[]] w fun e w'=>e=.returned (.tuple #[])∧w'=w) (hO:WO c) (hcmp:adi P g ag E c) (hS:abh P f g ag E.size) :
  bP P f (mkW ty E (eU (aFn g)) (fun l (_:Unit)=>F l) (fun _:Unit =>.clean (.tup []))) where
 callable:=⟨fn,hf,hc⟩
 calls lent la rk out hg:=by
  obtain⟨pre,l,post,a,l',r,rfl,rfl,hr,rfl,rfl⟩:=N4 hg
  rw[hF]at hr
  unfold AZ at hr
  by_cases hcond:l.length<4611686018427387904∧∀x∈l,∀y∈l,c x y=0->x=y
  ·rw[if_pos hcond]at hr
   obtain⟨hlen,hanti⟩:=hcond
   obtain rfl:od c l=l':=congrArg Prod.fst (Option.some.inj hr)
   intro w M go u0 vs hM hgoM hz hmp hrow hlv hargs
   have hvs:vs = #[.func (.func g) #[] #[]]:=by
    have h1:=hargs.1
    have h2:=hargs.2 0 (.fn g) rfl
    have h3:vs.size=1:=h1
    cases hv:vs.getD 0 undef<;>rw[hv]at h2<;>cases h2
    apply Array.ext
    ·simp[h3]
    ·intro i i1 i2
     have:i=0:=by omega
     subst this
     simpa [Array.getD,h3] using hv
   subst hvs
   by_cases hl:l=[]
   ·subst hl
    have hu:∃p cp,u0=.slice p 0 cp:=by
     rcases hlv.2 ⟨0,0,[],false,false,false⟩ rfl rfl with⟨g',o',cp,N,t,k0,k1,k2,k3,k4,k5⟩|k0
     ·exact⟨_,_,k1⟩
     ·obtain⟨_,_,A,k1⟩:=k0
      exact⟨_,_,k1⟩
    obtain⟨p,cp,rfl⟩:=hu
    refine (h0 p cp w).mono fun e w' ⟨he,hw⟩ =>?_
    subst hw
    exact⟨.tuple #[],he,⟨rfl,rfl,rfl,afR _,fun _ _ _=>rfl⟩,⟨rfl,rfl,⟨rfl,rfl⟩,fun g' hg'=>rfl,hrow⟩,.tup [] [] rfl (fun j x hj=>by simp at hj)⟩
   ·have hk:=E.pos
    have hpos:0<l.length:=ahH.2 hl
    cases go with
    | none =>
     have hce:pre++(ab E l++post)=[]:=hrow
     have:=congrArg List.length hce
     rw[ag1,ag1,bx,agj]at this
     have:=Nat.mul_pos hpos hk
     omega
    | some go =>
     obtain⟨cs,h1,h2,h3⟩:=hrow
     simp only[ag1,bx]at h2
     generalize hM':(fun b=>M b∨ss (some go) b)=M' at h3 hargs ⊢
     have hMgo:M' go.1:=by rw[<- hM'];exact .inr ⟨go,rfl,rfl⟩
     have hlt:go.1<w.heap.size:=(afV.1 h1).1
     have hM'lt:∀b,M' b->b<w.heap.size:=by
      intro b hb
      rw[<- hM']at hb
      rcases hb with hb|⟨g',hg',rfl⟩
      ·exact hM b hb
      ·cases hg';exact hlt
     rcases hlv.2 ⟨0,0,[],false,false,false⟩ rfl rfl with⟨g',o',cp,N,t,k0,k1,k2,k3,k4,k5⟩|⟨k0,_⟩
     rotate_left
     ·cases k0
     cases k0
     obtain⟨rfl,k6⟩:=k2 (.inl (by omega))
     subst k1
     have hfit:∀i,i<l.length->i*E.size+E.size<=l.length*E.size:=by
      intro i hi
      have:=agE E.size (show i+1<=l.length from hi)
      rwa [agO]at this
     have hcell:∀i (hi:i<l.length),IsV E w M' l[i] ((List.range E.size).map fun j=>cs.getD (go.2+pre.length+(i*E.size+j)) undef):=by
      intro i hi
      refine⟨by simp,fun j d hj =>?_⟩
      have hjs:j<E.size:=by
       have:=(agl.1 hj).1
       rwa [E.len]at this
      have hd:(pre++(ab E l++post))[pre.length+(i*E.size+j)]? = some d:=by
       have:=hfit i hi
       rw[agx (by omega),ahf,agw (by rw[bx];omega),SY E (af4 hi) hjs,hj]
      have:=h3 _ _ hd
      rw[<- agc]at this
      simpa [List.getD,hjs] using this
     let β:={ p:α×List Value // IsV E w M' p.1 p.2 }
     let enc:β->List Value:=fun p=>p.1.2
     let dl:List β:=List.ofFn fun i:Fin l.length=>(⟨(l[i.1],_),hcell i.1 i.2⟩:β)
     have hdl:dl.length=l.length:=by simp[dl]
     have hdi:∀i (hi:i<l.length),dl[i]? = some ⟨(l[i],_),hcell i hi⟩:=by
      intro i hi
      simp[dl,hi]
     have hinh:Inhabited β:=⟨⟨(l[0],_),hcell 0 hpos⟩⟩
     have hmap:dl.map (fun p=>p.1.1)=l:=by
      apply ahV
      intro i
      by_cases hi:i<l.length
      ·rw[afO,hdi i hi,af4 hi];rfl
      ·rw[aht (by simp[hdl];omega),aht (by omega)]
     have henc:∀x:β,(enc x).length=E.size:=fun x=>x.2.1
     have hone:∀x:β,∀v∈enc x,v.oneCell'=true:=by
      intro x v hv
      obtain⟨j,hj⟩:=agd hv
      have hjl:=(agl.1 hj).1
      rw[henc]at hjl
      obtain⟨p1,p2⟩:=x.2.2 j _ (af4 (by rw[E.len];exact hjl))
      have:x.1.2.getD j undef=v:=by simp only[agv];rw[show x.1.2[j]? = some v from hj];rfl
      rw[this]at p2
      exact p2.pg p1
     have hkeep:∀ {m:Nat} {dk:Array β} {os:Array Obj} {d:D} {u:Value},RP w M' d u->RP (sortWorldK enc E.size w go.1 (go.2+pre.length) m dk os) M' d u:=by
      intro m dk os d u hu
      refine hu.keep fun b q1 q2=>⟨afU q1 mK,q2,?_⟩
      exact wb q1 (fun e=>q2 (e ▸ hMgo))
     have hH:Go.Sort.HoldsK enc E.size w go.1 (go.2+pre.length) dl.toArray:=by
      intro j hj
      simp only[Go.Sort.size_flatK,ahb,hdl]at hj
      refine⟨?_,by simp[World.frozen?,h1]⟩
      have hq:j / E.size<l.length:=Nat.div_lt_of_lt_mul (by rwa [agP])
      have hmod:j % E.size<E.size:=Nat.mod_lt _ hk
      have hjj:j / E.size*E.size+j % E.size=j:=by rw[agP];exact Nat.div_add_mod j E.size
      rw[Go.Sort.get_flatK _ _ _ _ (by simpa [hdl] using hj),aK h1 (j:=go.2+pre.length+j) (by omega)]
      have e1:(dl.toArray)[j / E.size]! = ⟨(l[j / E.size],_),hcell _ hq⟩:=by
       have h5:=hdi _ hq
       rw[getElem!_pos dl.toArray (j / E.size) (by simpa [hdl] using hq)]
       have:=(agl.1 h5).2
       simpa using this
      rw[e1]
      show some _=some (((List.range E.size).map fun j'=>cs.getD (go.2+pre.length+(j / E.size*E.size+j')) undef)[j % E.size]!)
      rw[getElem!_pos _ _ (by simpa using hmod)]
      simp[hjj]
     have hwo:=acP hO (fun p:β=>p.1.1)
     have hcall:=hS β hinh enc (fun x y=>c x.1.1 y.1.1) henc hone hwo go.1 (go.2+pre.length) cp dl.toArray w (fun m os dk hdk x y=>hcmp _ M' x.1.1 y.1.1 x.1.2 y.1.2 (fun b hb=>afU (hM'lt b hb) mK) ⟨x.2.1,fun j d hj=>⟨(x.2.2 j d hj).1,hkeep (x.2.2 j d hj).2⟩⟩ ⟨y.2.1,fun j d hj=>⟨(y.2.2 j d hj).1,hkeep (y.2.2 j d hj).2⟩⟩) hH hlt (by simpa [hdl] using hlen)
     have hsz:dl.toArray.size=l.length:=by simp[hdl]
     rw[hsz]at hcall
     refine hcall.mono fun e w' ⟨he,d',n,os,hperm,hsort,hw⟩ =>?_
     subst hw
     have hperm':=Ek (by rw[hsz];exact hperm)
     have hd's:d'.size=l.length:=by have:=hperm.1;rw[this,hsz]
     have hl':d'.toList.map (fun p=>p.1.1)=od c l:=by
      have hp1:(d'.toList.map (fun p=>p.1.1)).Perm l:=by
       have:=hperm'.map (fun p:β=>p.1.1)
       rwa [show dl.toArray.toList.map (fun p:β=>p.1.1)=l from hmap]at this
      refine pL (hp1.trans (kc c l).symm) (fun x hx y hy h4 h5=>hanti x (hp1.mem_iff.1 hx) y (hp1.mem_iff.1 hy) ?_) ?_ (np hO l)
      ·have:=hO.neg x y
       have:=hO.neg y x
       omega
      ·rw[List.pairwise_map]
       rw[ahW]
       intro i j hi hj hij
       simp only[Array.length_toList]at hi hj
       have:=hsort i j (afS _) hij (by omega)
       simp only[ltOf,decide_eq_false_iff_not]at this
       rw[getElem!_pos d' j (by omega),getElem!_pos d' i (by omega)]at this
       simp only[Array.getElem_toList]
       have h6:=hO.neg d'[j].1.1 d'[i].1.1
       omega
     have hnew:(sortWorldK enc E.size w go.1 (go.2+pre.length) n d' os).heap[go.1]? = some (.cells (Go.Sort.putCells id (go.2+pre.length) (Go.Sort.flatK enc E.size d') cs) ty (0,0)):=FV h1
     have hcsz:(Go.Sort.putCells id (go.2+pre.length) (Go.Sort.flatK enc E.size d') cs).size=cs.size:=by simp[Go.Sort.putCells]
     refine⟨.tuple #[],he,⟨rfl,rfl,rfl,mK,fun k hk hn=>wb hk (fun e=>hn ⟨go,rfl,e⟩)⟩,⟨rfl,rfl,⟨rfl,rfl⟩,fun g' hg' =>?_,?_⟩,.tup [] [] rfl (fun j x hj=>by simp at hj)⟩
     ·cases hg'
      simp[World.shape?,hnew,h1,hcsz]
     ·refine⟨_,hnew,?_,fun j d hj =>?_⟩
      ·simp only[ag1,bx,nB,hcsz];exact h2
      ·have hjl:j<pre.length+(l.length*E.size+post.length):=by
        have:=(agl.1 hj).1
        simpa [bx,nB] using this
       show _∧RP _ (fun b=>M b∨ss (some go) b) d _
       rw[hM',FQ (by omega),hd's]
       by_cases hin:pre.length<=j∧j<pre.length+l.length*E.size
       ·rw[if_pos (by omega)]
        have e1:go.2+j-(go.2+pre.length)=j-pre.length:=by omega
        rw[e1]
        have hq:(j-pre.length) / E.size<l.length:=Nat.div_lt_of_lt_mul (by rw[agP];omega)
        have hmod:(j-pre.length) % E.size<E.size:=Nat.mod_lt _ hk
        have hjj:(j-pre.length) / E.size*E.size+(j-pre.length) % E.size=j-pre.length:=by rw[agP];exact Nat.div_add_mod _ _
        rw[agx hin.1,agw (by rw[bx,nB];omega),<- hjj,<- hl',SY E (x:=(d'[(j-pre.length) / E.size]!).1.1) (by
         rw[afO,af4 (by simpa [hd's] using hq),getElem!_pos d' _ (by omega)];simp) hmod]at hj
        obtain⟨p1,p2⟩:=(d'[(j-pre.length) / E.size]!).2.2 _ _ hj
        refine⟨p1,hkeep ?_⟩
        have e2:(enc d'[(j-pre.length) / E.size]!)[(j-pre.length) % E.size]! = (d'[(j-pre.length) / E.size]!).1.2.getD ((j-pre.length) % E.size) undef:=by
         rw[getElem!_pos _ _ (by rw[henc];exact hmod)]
         simp only[agv]
         rw[af4 (by have:=(d'[(j-pre.length) / E.size]!).2.1;omega)]
         rfl
        rw[e2]
        exact p2
       ·rw[if_neg (by omega)]
        have hj':(pre++(ab E l++post))[j]? = some d:=by
         by_cases hlo:j<pre.length
         ·rw[agw hlo]at hj ⊢
          exact hj
         ·rw[agx (by omega),agx (by rw[bx,nB];omega),bx,nB]at hj
          rw[agx (by omega),agx (by rw[bx];omega),bx]
          exact hj
        exact⟨(h3 j d hj').1,hkeep (h3 j d hj').2⟩
  ·rw[if_neg hcond]at hr;cases hr
end Go.Proofs.YtmcncjgbkobjnaaGreat.Am
namespace Go.Proofs.YtmcncjgbkobjnaaGreat.P
def js {α:Type} (f g:α->Int) (x y:α):Int:=if Go.Lib.compareInt (f x) (f y)≠0 then Go.Lib.compareInt (f x) (f y) else Go.Lib.compareInt (g x) (g y)
theorem zB {α:Type} {f g:α->Int} {x y:α} : js f g x y<0↔f x<f y∨(f x=f y∧g x<g y):=by
 unfold js Go.Lib.compareInt
 repeat' split
 all_goals omega
theorem zC {α:Type} {f g:α->Int} {x y:α} : 0<js f g x y↔f y<f x∨(f x=f y∧g y<g x):=by
 unfold js Go.Lib.compareInt
 repeat' split
 all_goals omega
theorem EU {α:Type} {f g:α->Int} {x y:α} : js f g x y<=0↔f x<f y∨(f x=f y∧g x<=g y):=by
 have h1:=@zB α f g x y
 have h2:=@zC α f g x y
 omega
theorem Rv {α:Type} {f g:α->Int} {x y:α} : js f g x y=0↔f x=f y∧g x=g y:=by
 have h1:=@zB α f g x y
 have h2:=@zC α f g x y
 omega
theorem tT {α:Type} (f g:α->Int):WO (js f g) where
 total x y:=by rw[EU,EU];omega
 neg x y:=by rw[zB,zC];omega
 trans x y z h1 h2:=by rw[EU]at *;omega
end Go.Proofs.YtmcncjgbkobjnaaGreat.P
namespace Go.Proofs.YtmcncjgbkobjnaaGreat.Am
open Go.RowKit Go.Lib Go.Sort Go.Shelf Go.Proofs.YtmcncjgbkobjnaaGreat.P
theorem aaM (x:Int) (w:World):Calls prog 190 #[.int .i64 x] w fun e w'=>e=.returned (.bool false)∧w'=w:=by
 go_enter func190,ntmps190
 go_wp2
 go_ret
 exact⟨by simp,rfl⟩
theorem LP (x y:Int) (w:World):Calls prog 139 #[.int .i64 x,.int .i64 y] w fun e w'=>e=.returned (.int .i64 (Lib.compareInt x y))∧w'=w:=by
 go_enter func139,ntmps139
 go_wp2_with (go_at_call 190;refine (aaM _ _).mono ?_;rintro e w' ⟨rfl,hw⟩;rw[hw])
 all_goals (go_ret;refine⟨?_,rfl⟩;unfold Lib.compareInt;(repeat' split)<;>first|rfl|(exfalso;omega))
theorem acB (b off cap:Nat) (x y r:Int) (hr:r=if x≠0 then x else y) (w:World) (h0:w.cell? ⟨b,off,none⟩=some (.int .i64 x)) (h1:w.cell? ⟨b,off+1,none⟩=some (.int .i64 y)):Calls prog 138 #[.slice (some ⟨b,off,none⟩) 2 cap] w fun e w'=>e=.returned (.int .i64 r)∧w'=w:=by
 go_enter func138,ntmps138
 go_wp2
 refine wp_loop_rounds 3 ?_
 repeat any_goals (rw[rounds_succ];go_wp2)
 all_goals (go_ret;refine⟨?_,rfl⟩;subst hr;simp_all)
theorem E6 (W:World) (A B:Obj) (q:Nat):({ ((W.alloc A).alloc B) with drawn:=q } : World).heap[W.heap.size]? = some A∧({ ((W.alloc A).alloc B) with drawn:=q } : World).heap[W.heap.size+1]? = some B:=by
 constructor
 ·show ((W.heap.push A).push B)[W.heap.size]? = some A
  simp[Array.getElem?_push]
 ·show ((W.heap.push A).push B)[W.heap.size+1]? = some B
  rw[Array.getElem?_push,if_pos (by simp)]
theorem WJ (w:World) (x y:Value) (t:TypeId):(w.alloc (.cells #[x,y] t)).cell? ⟨w.heap.size,0,none⟩=some x∧(w.alloc (.cells #[x,y] t)).cell? ⟨w.heap.size,0+1,none⟩=some y:=by
 have h:(w.alloc (.cells #[x,y] t)).heap[w.heap.size]? = some (.cells #[x,y] t):=by
  show (w.heap.push _)[w.heap.size]? = _
  simp
 exact⟨aK h (j:=0) (by simp),aK h (j:=0+1) (by simp)⟩
theorem Z0 (W:World) (A B:Obj):({ ((W.alloc A).alloc B) with drawn:=((W.alloc A).alloc B).drawn+1 } : World)=grow (W.drewN 1) #[A,B]:=by
 rw[alloc_eq_grow,alloc_eq_grow,grow_grow];rfl
theorem OO {P:Program} {id:Nat} {Q:Exit->Act->World->Prop} {a:Act} {w w1:World} {l:List Oper} (n:Nat) (hw:w1 = { w with drawn:=w.drawn+1 }) (hm:P.follows .mixedOrders=true) (hB:Region.lexTailB .any l.toArray n=true)
  (h:wpStill P l.toArray w1 (fun a'=>wpList P l.toArray Q (l.drop n) a' w1) (l.take n) a):(Code.region id l.toArray true).wp P Q a w:=by
 subst hw
 exact wp_region_still_tail n hm hB h
set_option maxRecDepth 100000 in
theorem K4 (f1 t1 f2 t2:Int) (a b c d a' b' c' d':Value) (W:World) (h1:∀v∈[a,b,c,d],v.oneCell'=true) (h2:∀v∈[a',b',c',d'],v.oneCell'=true) :
  Calls prog 79 #[.agg #[.int .i64 f1,.int .i64 t1,a,b,c,d],.agg #[.int .i64 f2,.int .i64 t2,a',b',c',d']] W fun e w'=>e=.returned (.int .i64 (if Lib.compareInt f1 f2≠0 then Lib.compareInt f1 f2 else Lib.compareInt t1 t2))∧∃q os',w'=grow (W.drewN q) os':=by
 have hcon:=fun x y W'=>LP x y W'
 have hor:=fun b off cap x y r hr W' h0 h1=>acB b off cap x y r hr W' h0 h1
 generalize hr:(if Lib.compareInt f1 f2≠0 then Lib.compareInt f1 f2 else Lib.compareInt t1 t2)=r
 obtain⟨w1,hw1⟩:∃w1:World,w1 = { ((W.alloc (Obj.cells #[.int .i64 f1,.int .i64 t1,a,b,c,d] 63)).alloc (Obj.cells #[.int .i64 f2,.int .i64 t2,a',b',c',d'] 63)) with drawn:=((W.alloc (Obj.cells #[.int .i64 f1,.int .i64 t1,a,b,c,d] 63)).alloc (Obj.cells #[.int .i64 f2,.int .i64 t2,a',b',c',d'] 63)).drawn+1 }:=⟨_,rfl⟩
 have hg:∃q os,w1=grow (W.drewN q) os:=⟨_,_,hw1.trans (Z0 _ _ _)⟩
 have hA:w1.heap[W.heap.size]? = some (Obj.cells #[.int .i64 f1,.int .i64 t1,a,b,c,d] 63):=by rw[hw1];exact (E6 _ _ _ _).1
 have hB:w1.heap[W.heap.size+1]? = some (Obj.cells #[.int .i64 f2,.int .i64 t2,a',b',c',d'] 63):=by rw[hw1];exact (E6 _ _ _ _).2
 have c1:w1.cell? ⟨W.heap.size,0,none⟩=some (.int .i64 f1):=aK hA (j:=0) (by simp)
 have c2:w1.cell? ⟨W.heap.size,1,none⟩=some (.int .i64 t1):=aK hA (j:=1) (by simp)
 have c3:w1.cell? ⟨W.heap.size+1,0,none⟩=some (.int .i64 f2):=aK hB (j:=0) (by simp)
 have c4:w1.cell? ⟨W.heap.size+1,1,none⟩=some (.int .i64 t2):=aK hB (j:=1) (by simp)
 clear hA hB
 go_enter func79,ntmps79
 go_wp2
 refine OO 10 hw1 (by kernel_rfl) (by kernel_rfl) ?_
 clear hw1
 simp only[List.take_succ_cons,List.take_zero,ahK,ahj]
 iterate 4 still_step
 still_call (hcon _ _ _)
 iterate 4 still_step
 still_call (hcon _ _ _)
 apply wpStill_nil
 generalize Lib.compareInt f1 f2=r1 at *
 generalize Lib.compareInt t1 t2=r2 at *
 go_wp2_with (go_at_call 138;refine (hor _ _ _ _ _ _ hr.symm _ (WJ _ _ _ _).1 (WJ _ _ _ _).2).mono ?_;rintro e w' ⟨rfl,rfl⟩)
 go_ret
 obtain⟨q,os,hq⟩:=hg
 exact⟨rfl,q,_,by rw[hq,alloc_eq_grow,grow_grow]⟩
theorem YX {α:Type} {E:ij α} (h6:E.size=6) {f g:α->Int} (h0:∀x,(E.cells x)[0]? = some (.int .i64 (f x))) (h1:∀x,(E.cells x)[1]? = some (.int .i64 (g x))) {w:World} {M:Nat->Prop} {x:α} {us:List Value} (h:IsV E w M x us) :
  ∃a b c d,us=[.int .i64 (f x),.int .i64 (g x),a,b,c,d]∧∀v∈[a,b,c,d],v.oneCell'=true:=by
 obtain⟨hl,hc⟩:=h
 rw[h6]at hl
 match us,hl with
 | [a0,a1,a2,a3,a4,a5],_ =>
  have e0:a0=.int .i64 (f x):=by
   have:=(hc 0 _ (h0 x)).2
   simp at this
   cases this;rfl
  have e1:a1=.int .i64 (g x):=by
   have:=(hc 1 _ (h1 x)).2
   simp at this
   cases this;rfl
  have hlen:=E.len x
  rw[h6]at hlen
  have hone:∀j,j<6->([a0,a1,a2,a3,a4,a5].getD j undef).oneCell'=true:=fun j hj=>by
   obtain⟨p1,p2⟩:=hc j _ (af4 (by omega))
   exact p2.pg p1
  subst e0 e1
  refine⟨a2,a3,a4,a5,rfl,fun v hv =>?_⟩
  simp only[afY,agY,or_false]at hv
  rcases hv with rfl|rfl|rfl|rfl
  ·exact hone 2 (by decide)
  ·exact hone 3 (by decide)
  ·exact hone 4 (by decide)
  ·exact hone 5 (by decide)
theorem UT {α:Type} {E:ij α} (h6:E.size=6) {f g:α->Int} (h0:∀x,(E.cells x)[0]? = some (.int .i64 (f x))) (h1:∀x,(E.cells x)[1]? = some (.int .i64 (g x))):adi prog 79 true E (js f g):=by
 intro w M x y ux uy hM hx hy
 obtain⟨a,b,c,d,rfl,p⟩:=YX h6 h0 h1 hx
 obtain⟨a',b',c',d',rfl,q⟩:=YX h6 h0 h1 hy
 exact K4 _ _ _ _ a b c d a' b' c' d' w p q
theorem V1 {P:Program} {ρ:Go.Shelf.Ren} (L:SlLaysF0.n6 P ρ) {k g:Nat} (aE:∀w,(isAgg (ρ.t 24)).run P w=.ok true w) (zE:∀w,(Go.sizeOf (ρ.t 24)).run P w=.ok k w) (eg:∀args w,(callFunc g args).run P w=.ok (.enter g args) w):abh P (ρ.f 6) g true k :=
 fun β inh enc cf hk h1 hO blk off cap d w hcmp hH hblk hsz=>AnyQ.slices_SortFunc L k aE zE enc hk h1 cf hO g #[] blk off cap d w eg (fun m os dk hdk x y=>by simpa [WK] using hcmp m os dk hdk x y) hH hblk hsz
theorem Kj {α:Type} {E:ij α} (h6:E.size=6) {f g:α->Int} (h0:∀x,(E.cells x)[0]? = some (.int .i64 (f x))) (h1:∀x,(E.cells x)[1]? = some (.int .i64 (g x))) (ty:Nat) :
  bP prog 78 (mkW ty E (eU (aFn 79)) (fun l (_:Unit)=>AZ (js f g) l) (fun _:Unit =>.clean (.tup []))) :=
 Y2 (F:=AZ (js f g)) func78 ⟨rfl,rfl⟩ (fun _=>rfl) (fun p cap w=>AnyF.slices_SortFunc_none Tryz.Y3 p cap _ w) (tT f g) (UT h6 h0 h1)
  (by rw[h6];exact V1 Tryz.Y3 isAgg63 sizeOf63 (enters_of func79 (by kernel_rfl) rfl))
end Go.Proofs.YtmcncjgbkobjnaaGreat.Am
namespace Go.Proofs.YtmcncjgbkobjnaaGreat.Am
open Go.RowKit Go.Proofs.YtmcncjgbkobjnaaGreat.P
def jS:Nat->Code->Code
 | 0,.seq a _=>a
 | k+1,.seq a b =>.seq a (jS k b)
 | _,c=>c
def zA:Nat->Code->Code
 | 0,.seq _ b=>b
 | k+1,.seq _ b=>zA k b
 | _,_ =>.skip
def spine:Nat->Code->Bool
 | 0,.seq _ _=>true
 | k+1,.seq _ b=>spine k b
 | _,_=>false
def WW (fn:Func):Code:=match fn.body with|some c=>c|none =>.skip
theorem JM (a b:Code):jS 0 (.seq a b)=a:=rfl
theorem JL (k:Nat) (a b:Code):jS (k+1) (.seq a b)=.seq a (jS k b):=rfl
section
variable {P:Program} {T:Nat->Option Ty} {N:Nat} {M:Nat->Prop} {L:iB} {w0:World} {Γ:Env}
theorem Au (hT:gz P T) (hΓ:bA P Γ) (hm:P.follows .mixedOrders=true) {F:Nat} {Q:Exit->Act->World->Prop} : ∀(k:Nat) (c:Code) (s:St) (x:Ex) (s':St) (a:Act) (w:World),spine k c=true->fj T Γ N F (jS k c) s=some (x,s')->codeOk (jS k c)=true->Holds N M L w0 s a w ->
  (x=.normal->∀a' w',Holds N M L w0 s' a' w'->(zA k c).wp P Q a' w')->(x ≠ .normal->∀a' w',Holds N M L w0 s' a' w'->Q (C5 x) a' w')->c.wp P Q a w
 | 0,.seq b c,s,x,s',a,w,_,hv,hok,hH,h1,h2=>by
  refine wp_seq (gT hT hΓ hm b s x s' _ a w hv hok hH fun a' w' hH' =>?_)
  cases x with
  | normal=>exact h1 rfl a' w' hH'
  | exit n=>exact h2 (by intro h;cases h) a' w' hH'
  | ret=>exact h2 (by intro h;cases h) a' w' hH'
 | k+1,.seq b c,s,x,s',a,w,hs,hv,hok,hH,h1,h2=>by
  simp only[jS,codeOk,agt]at hok
  simp only[jS,fj,ac7]at hv
  apply wp_seq
  split at hv
  ·rename_i s1 hv1
   exact gT hT hΓ hm b s .normal s1 _ a w hv1 hok.1 hH fun a' w' hH'=>Au hT hΓ hm k c s1 x s' a' w' hs hv hok.2 hH' h1 h2
  ·rename_i r hne
   refine gT hT hΓ hm b s x s' _ a w hv hok.1 hH fun a' w' hH' =>?_
   cases x with
   | normal=>exact absurd hv (fun h=>hne s' h)
   | exit n=>exact h2 (by intro h;cases h) a' w' hH'
   | ret=>exact h2 (by intro h;cases h) a' w' hH'
end
def wH (T:Nat->Option Ty) (rs:List ResultVar) (r:RK×Option Row) (J:(Nat->D)->(Nat->Option Row)->Nat->Prop):Kt:=fun x t h e =>
 match x with
 | .normal=>J t h e
 | .ret=>eR .clean T none rs ⟨t,EH h,e⟩=some r
 | .exit _=>False
section
variable {T:Nat->Option Ty} {Γ:Env} {n F k:Nat} {rs:List ResultVar} {r:RK×Option Row} {J:(Nat->D)->(Nat->Option Row)->Nat->Prop} {t:Nat->D} {h:Nat->Option Row} {e:Nat}
theorem Fq:wH T rs r J .normal t h e=J t h e:=aiu
theorem C7:wH T rs r J .ret t h e=(eR .clean T none rs ⟨t,EH h,e⟩=some r):=aiu
def RU (T:Nat->Option Ty) (Γ:Env) (F k:Nat) (fn:Func) (args:List D) (K:Kt):Prop:=∃c,fn.body=some c∧∃x s,fj T Γ fn.ntmps F (jS k c) (bQ none args)=some (x,s)∧K x s.t s.h s.e
theorem Wh {fn:Func} {c:Code} {args:List D} (hb:fn.body=some c) (hn:fn.ntmps=n) (hr:fn.results=rs.toArray) (hw:cA T Γ n F [.code (jS k c)] (wH T rs r J) .normal (Fi args) TE 0):RU T Γ F k fn args (wH T fn.results.toList r J):=by
 obtain⟨x,s,h1,h2⟩:=KM _ _ _ _ _ (show PE T Γ n F (jS k c) (Fi args) TE 0 (wH T rs r J) from hw)
 refine⟨c,hb,x,s,?_,?_⟩
 ·rw[hn];exact h1
 ·rw[hr];exact h2
end
section
variable {P:Program} {T:Nat->Option Ty} {Γ:Env}
theorem Pq {n:Nat} {args:List D} {w:World} {M:Nat->Prop} {vs:Array Value} (hM:∀b,M b->b<w.heap.size) (hargs:wY w M args vs) (hn:args.length<=n) (hbig:n<=PK):Holds n M none w (bQ none args) { tmps:=vs++Array.replicate (n-vs.size) undef,defers:=[] } w:=by
 have hI:Inv n M none w (fun _=>none) (fun x v=>x<n∧v<0) (bQ none args).t (bQ none args).h { tmps:=vs++Array.replicate (n-vs.size) undef,defers:=[] } w:={
  tab:=fun b hb=>(hargs.tab b hb).less fun b hb=>by
   rcases hb with hb|⟨x,r,g,hx,_⟩
   ·exact hb
   ·cases hx
  below:=dK.refl _ _
  mlt:=hM
  lent:=fun b hb=>absurd hb oL
  pin:=fun go hg=>by cases hg
  defers:=rfl
  tsz:=by have:=hargs.1;simp;omega
  slots:=fun i=>by
   simp only[bQ]
   rcases tS (n:=n) (i:=i) hargs.1 with he|he
   ·rw[he]
    by_cases hi:i<args.length
    ·have h1:=hargs.2 i _ (af4 hi)
     have e1:args.getD i .und=args[i]:=by simp[List.getD,hi]
     rw[e1]
     exact bq (h1.less fun b hb=>by
      rcases hb with hb|⟨x,r,g,hx,_⟩
      ·exact hb
      ·cases hx)
    ·have e1:args.getD i .und=.und:=by simp[List.getD,aht (ahy hi)]
     rw[e1]
     trivial
   ·rw[he];trivial
  rows:=fun x r hx=>by cases hx
  inj:=fun x y r s g g' hx=>by cases hx
  big:=hbig
  pha:=fun y r g hy=>by cases hy
  ali:=fun y r g hy=>by cases hy }
 exact⟨_,⟨(by rw[BN (fun k r hk=>by cases hk)];exact hI.weaken fun x v hx=>absurd hx.2 (Nat.not_lt_zero _)),fun x r ty s nv cs hx=>by cases hx⟩⟩
theorem He (hT:gz P T) {fn:Func} {M:Nat->Prop} {w w':World} {s:St} {a':Act} {rk:RK} (hH:Holds fn.ntmps M none w s a' w') (hr:eR .clean T none fn.results.toList ⟨s.t,EH s.h,s.e⟩=some (rk,none)) :
  a'.defers=[]∧∃v,(results fn a'.tmps).run P w'=.ok v w'∧(∃v',Ending.returned v=.returned v'∧Below w.heap.size w w'∧sK w w' M (fun _=>False) v' rk):=by
 obtain⟨blk',hIE⟩:=hH
 obtain⟨sE,hsE⟩:∃sE:St,sE=⟨s.t,EH s.h,s.e⟩:=⟨_,rfl⟩
 have hI':Inv fn.ntmps M none w blk' (VE fn.ntmps s.e [] s.h) sE.t sE.h a' w':=by rw[hsE];exact hIE.inv
 rw[<- hsE]at hr
 have hbel:Below w.heap.size w w':=hI'.below.below (fun b hb=>absurd hb oL)
 refine⟨hI'.defers,?_⟩
 simp only[eR,n5,ja]at hr
 split at hr<;>try (cases hr;done)
 rename_i ds fr o hres ho
 split at hr<;>try (cases hr;done)
 simp only[af0,Prod.mk.injEq]at hr
 obtain⟨rfl,_⟩:=hr
 obtain⟨v,hv1,hv2⟩:=pn (P:=P) hT hI' hres (hI'.abG fr)
 exact⟨v,hv1,v,rfl,hbel,hv2⟩
def KU (P:Program) (fn:Func) (c:Code) (rk:RK) (J:(Nat->D)->(Nat->Option Row)->Nat->Prop):Prop:=∀(w0:World) (M:Nat->Prop) (s:St) (a:Act) (w:World),J s.t s.h s.e->Holds fn.ntmps M none w0 s a w ->
 c.wp P (bodyPost P fn fun e w'=>∃v,e=.returned v∧Below w0.heap.size w0 w'∧sK w0 w' M (fun _=>False) v rk) a w
theorem bP.front (hT:gz P T) (hΓ:bA P Γ) (hm:P.follows .mixedOrders=true) {α β:Type} {A:jt α} {F:α->Option β} {R:β->RK} {f:FuncId} {fn:Func} {c:Code} {k:Nat} {J:β->(Nat->D)->(Nat->Option Row)->Nat->Prop} (hf:P.funcs[f]? = some fn) (hb:fn.body=some c) (hok:(codeOk (jS k c)&&spine k c)=true)
  (hc:(fn.name == "runtime.NumGoroutine")=false∧fn.body.isNone=false) (hn:∀a,(A.ds a).length<=fn.ntmps) (hpk:fn.ntmps<=1000000) (h:∀a r,F a=some r->RU T Γ FU k fn (A.ds a) (wH T fn.results.toList (R r,none) (J r))) (ht:∀r,KU P fn (zA k c) (R r) (J r)):bP P f (fb A F R) where
 calls lent la rk out hg:=by
  obtain⟨rfl,rfl,a,r,rfl,hr,rfl⟩:=pZ hg
  rw[agt]at hok
  intro w M vs hM hargs
  obtain⟨c',hb',x,s,h1,h2⟩:=h a r hr
  rw[hb]at hb'
  cases hb'
  apply calls_of_wp hf hb
  refine Au hT hΓ hm k c (bQ none (A.ds a)) x s _ _ hok.2 h1 hok.1 (Pq hM hargs (hn a) (by rw[bZ];exact hpk)) ?_ ?_
  ·rintro rfl a' w' hH
   exact ht r w M s a' w' h2 hH
  ·intro hx a' w' hH
   cases x with
   | normal=>exact absurd rfl hx
   | exit n=>exact h2.elim
   | ret=>exact He hT hH h2
 callable:=⟨fn,hf,hc⟩
end
end Go.Proofs.YtmcncjgbkobjnaaGreat.Am
namespace Go.Proofs.YtmcncjgbkobjnaaGreat.P
open Go.RowKit
structure ak where
 ae:Int
 aa:(List Int)
structure ao where
 aZ:ak
 aY:ak
structure mQ where
 j0:Int
 b6:Int
structure bJ where
 bT:Int
 gA:Int
 bF:ao
structure cu where
 az:Int
 av:(List bJ)
structure BY where
 jv:Int
 gC:Int
 b6:Int
 JJ:ByteArray
structure kK where
 jv:Int
 gC:Int
 b6:Int
structure kJ where
 aA:(List kK)
 bh:(List BY)
 ba:(List (List ao))
structure hZ where
 aF:kJ
 cK:(List mQ)
 az:(List Int)
structure fA where
 bg:(List Int)
 aT:(List hZ)
structure Se where
 Qe:Int
 acj:Int
structure KV where
 Qf:Int
 tl:ao
structure um where
 mh:ao
 BD:(List KV)
structure Jn where
 b6:Int
 mg:ao
def AV (p0:(List Int)):(Int)->Option ((Int)⊕((Int)))
 | s3a =>
  if decide (s3a>0) then
   (P.idx p0 (IntKind.i64.wrap (s3a-1))).bind fun x6 =>
   if (x6==0) then
    some (.inl (IntKind.i64.wrap (s3a-1)))
   else
    some (.inr s3a)
  else
   some (.inr s3a)
def iP (p0:(List Int)):Option ((List Int)) :=
 (bc (AV p0) (p0.length:Int)).bind fun s3ax =>
 (Bv p0 0 s3ax).bind fun x8 =>
 (lu 8 [] x8).bind fun _ =>
 some x8
def fF (p0:Int) (p1:(List Int)):Option (ak) :=
 (iP p1).bind fun r1 =>
 if ((r1.length:Int)==0) then
  some (ak.mk 0 ([]))
 else
  some (ak.mk p0 r1)
def It:(Int×(List Int))->Option ((Int×(List Int))⊕(((List Int))))
 | (s0b,l4b) =>
  if (s0b != 0) then
   (J9 .i64 s0b 1048576).bind fun x17 =>
   if decide (x17<0) then
    (lu 8 l4b [IntKind.i64.wrap (0-x17)]).bind fun x20 =>
    (Ct .i64 s0b 1048576).bind fun x22 =>
    some (.inl (x22,x20))
   else
    (lu 8 l4b [x17]).bind fun x24 =>
    (Ct .i64 s0b 1048576).bind fun x26 =>
    some (.inl (x26,x24))
  else
   some (.inr l4b)
def wQ (p0:Int):Option (ak) :=
 if (p0==0) then
  some (ak.mk 0 ([]))
 else
  (if decide (p0<0) then
   some (-1)
  else
   some 1).bind fun s3j1 =>
  (bc (It) (p0,[])).bind fun l4bx =>
  (fF s3j1 l4bx).bind fun r28 =>
  some r28
def yp (p0:ak):(Int)->Option ((Int)⊕((Unit)⊕(Bool)))
 | s3a =>
  if decide (s3a<(p0.aa.length:Int)) then
   (P.idx p0.aa s3a).bind fun x7 =>
   if decide (x7<0) then
    some (.inr (.inr false))
   else
    if decide (x7>=1048576) then
     some (.inr (.inr false))
    else
     some (.inl (IntKind.i64.wrap (s3a+1)))
  else
   some (.inr (.inl ()))
def cU (p0:ak):Option (Bool) :=
 (bc (yp p0) 0).bind fun q=>match q with
 | (.inl _) =>
  (if decide (p0.ae<(-1)) then
   some true
  else
   if decide (p0.ae>1) then
    some true
   else
    some (!(((p0.aa.length:Int)==0)==(p0.ae==0)))).bind fun s44j2 =>
  if s44j2 then
   some false
  else
   if ((p0.aa.length:Int)==0) then
    some true
   else
    (P.idx p0.aa (IntKind.i64.wrap ((p0.aa.length:Int)-1))).bind fun x13 =>
    some (x13 != 0)
 | (.inr ra) =>
  some ra
def rN (p0:ak):Option (ak) :=
 (cU p0).bind fun r1 =>
 if (!r1) then
  some (ak.mk 0 ([]))
 else
  (fF (IntKind.i64.wrap (0-p0.ae)) p0.aa).bind fun r3 =>
  some r3
def iy (p0:(List Int)) (p1:Int):Option (Int) :=
 if decide (p1<(p0.length:Int)) then
  (P.idx p0 p1).bind fun x2 =>
  some x2
 else
  some 0
def yv (p0:(List Int)) (p1:(List Int)) (s6a:Int):(Int×Int×(List Int))->Option ((Int×Int×(List Int))⊕(((List Int))))
 | (s7e,s8e,l5e) =>
  (if decide (s8e<(p1.length:Int)) then
   some true
  else
   some (decide (s7e>0))).bind fun s29j7 =>
  if s29j7 then
   (P.idx l5e (IntKind.i64.wrap (s6a+s8e))).bind fun x43 =>
   (P.idx p0 s6a).bind fun x44 =>
   (iy p1 s8e).bind fun r45 =>
   (J9 .i64 (IntKind.i64.wrap ((IntKind.i64.wrap (x43+(IntKind.i64.wrap (x44*r45))))+s7e)) 1048576).bind fun x46 =>
   (Ct .i64 (IntKind.i64.wrap ((IntKind.i64.wrap (x43+(IntKind.i64.wrap (x44*r45))))+s7e)) 1048576).bind fun x49 =>
   some (.inl (x49,IntKind.i64.wrap (s8e+1),(l5e.set (IntKind.i64.wrap (s6a+s8e)).toNat x46)))
  else
   some (.inr l5e)
def yu (p0:(List Int)) (p1:(List Int)):(Int×(List Int))->Option ((Int×(List Int))⊕(((List Int))))
 | (s6a,l5a) =>
  if decide (s6a<(p0.length:Int)) then
   (bc (yv p0 p1 s6a) (0,0,l5a)).bind fun l5ex =>
   some (.inl (IntKind.i64.wrap (s6a+1),l5ex))
  else
   some (.inr l5a)
def lF (p0:(List Int)) (p1:(List Int)):Option ((List Int)) :=
 (FJ 8 (IntKind.i64.wrap ((p0.length:Int)+(p1.length:Int))) (IntKind.i64.wrap ((p0.length:Int)+(p1.length:Int))) 0).bind fun x1 =>
 (bc (yu p0 p1) (0,x1)).bind fun l5ax =>
 (iP l5ax).bind fun r52 =>
 some r52
def AR (p0:(List Int)) (p1:(List Int)):(Int)->Option ((Int)⊕((Unit)⊕(Bool)))
 | s5a =>
  if decide (s5a>=0) then
   (iy p0 s5a).bind fun r7 =>
   (iy p1 s5a).bind fun r8 =>
   if (r7 != r8) then
    some (.inr (.inr (decide (r7<r8))))
   else
    some (.inl (IntKind.i64.wrap (s5a-1)))
  else
   some (.inr (.inl ()))
def oB (p0:(List Int)) (p1:(List Int)):Option (Bool) :=
 (bc (AR p0 p1) (IntKind.i64.wrap ((if (p1.length:Int)>(p0.length:Int) then (p1.length:Int) else (p0.length:Int))-1))).bind fun q=>match q with
 | (.inl _) =>
  some false
 | (.inr ra) =>
  some ra
def yt (p0:(List Int)) (p1:(List Int)):(Int×Int×(List Int))->Option ((Int×Int×(List Int))⊕(((List Int))))
 | (s6a,s7a,l5a) =>
  if decide (s7a<(p0.length:Int)) then
   (P.idx p0 s7a).bind fun x11 =>
   (iy p1 s7a).bind fun r12 =>
   if decide ((IntKind.i64.wrap ((IntKind.i64.wrap (x11-r12))-s6a))<0) then
    (lu 8 l5a [IntKind.i64.wrap ((IntKind.i64.wrap ((IntKind.i64.wrap (x11-r12))-s6a))+1048576)]).bind fun x14 =>
    some (.inl (1,IntKind.i64.wrap (s7a+1),x14))
   else
    (lu 8 l5a [IntKind.i64.wrap ((IntKind.i64.wrap (x11-r12))-s6a)]).bind fun x16 =>
    some (.inl (0,IntKind.i64.wrap (s7a+1),x16))
  else
   some (.inr l5a)
def kA (p0:(List Int)) (p1:(List Int)):Option ((List Int)) :=
 (bc (yt p0 p1) (0,0,[])).bind fun l5ax =>
 (iP l5ax).bind fun r18 =>
 some r18
def AT (p1:(List Int)) (r34:(List Int)):(Int×Int)->Option ((Int×Int)⊕((Int)))
 | (s9c,s10c) =>
  if decide ((IntKind.i64.wrap (s10c-s9c))>1) then
   (Ct .i64 (IntKind.i64.wrap (s9c+s10c)) 2).bind fun x44 =>
   (lF p1 ([x44])).bind fun r47 =>
   (oB r34 r47).bind fun r48 =>
   if r48 then
    some (.inl (s9c,x44))
   else
    some (.inl (x44,s10c))
  else
   some (.inr s9c)
def AS (p0:(List Int)) (p1:(List Int)):((List Int)×Int×(List Int))->Option (((List Int)×Int×(List Int))⊕(((List Int)×(List Int))))
 | (s7a,s8a,l6a) =>
  if decide (s8a>=0) then
   (P.idx p0 s8a).bind fun x31 =>
   (lu 8 [x31] s7a).bind fun x32 =>
   (iP x32).bind fun r34 =>
   (bc (AT p1 r34) (0,1048576)).bind fun s9cx =>
   (P.idx l6a s8a).bind fun x50 =>
   (iP ([s9cx])).bind fun r53 =>
   (lF p1 r53).bind fun r54 =>
   (kA r34 r54).bind fun r55 =>
   some (.inl (r55,IntKind.i64.wrap (s8a-1),(l6a.set (s8a).toNat s9cx)))
  else
   some (.inr (s7a,l6a))
def qh (p0:(List Int)) (p1:(List Int)):Option ((List Int)×(List Int)) :=
 (FJ 8 (p0.length:Int) (p0.length:Int) 0).bind fun x1 =>
 (bc (AS p0 p1) ([],IntKind.i64.wrap ((p0.length:Int)-1),x1)).bind fun q=>match q with
 | (s7ax,l6ax) =>
  (iP l6ax).bind fun r56 =>
  some (r56,s7ax)
def Ez:((List Int)×(List Int))->Option (((List Int)×(List Int))⊕(((List Int))))
 | (s6b,s7b) =>
  if decide ((s7b.length:Int)>0) then
   (qh s6b s7b).bind fun r8 =>
   some (.inl (s7b,r8.2))
  else
   some (.inr s6b)
def vf (p0:ak) (p1:ak):Option (ak×Int) :=
 (cU p0).bind fun r1 =>
 (if (!r1) then
  some true
 else
  (cU p1).bind fun r11 =>
  some (!r11)).bind fun s17j1 =>
 if s17j1 then
  some ((ak.mk 0 ([])),1)
 else
  (bc (Ez) (p0.aa,p1.aa)).bind fun s6bx =>
  (fF 1 s6bx).bind fun r9 =>
  some (r9,0)
def AU (p0:(List Int)) (p1:(List Int)):(Int×Int×(List Int))->Option ((Int×Int×(List Int))⊕(((List Int))))
 | (s6a,s7a,l5a) =>
  (if decide (s7a<(p0.length:Int)) then
   some true
  else
   if decide (s7a<(p1.length:Int)) then
    some true
   else
    some (decide (s6a>0))).bind fun s22j3 =>
  if s22j3 then
   (iy p0 s7a).bind fun r16 =>
   (iy p1 s7a).bind fun r17 =>
   (J9 .i64 (IntKind.i64.wrap ((IntKind.i64.wrap (r16+r17))+s6a)) 1048576).bind fun x18 =>
   (lu 8 l5a [x18]).bind fun x20 =>
   (Ct .i64 (IntKind.i64.wrap ((IntKind.i64.wrap (r16+r17))+s6a)) 1048576).bind fun x22 =>
   some (.inl (x22,IntKind.i64.wrap (s7a+1),x20))
  else
   some (.inr l5a)
def qk (p0:(List Int)) (p1:(List Int)):Option ((List Int)) :=
 (bc (AU p0 p1) (0,0,[])).bind fun l5ax =>
 (iP l5ax).bind fun r26 =>
 some r26
def ve (p0:ak) (p1:ak):Option (ak×ak×Int) :=
 (cU p0).bind fun r1 =>
 (if (!r1) then
  some true
 else
  (cU p1).bind fun r17 =>
  some (!r17)).bind fun s16j1 =>
 if s16j1 then
  some ((ak.mk 0 ([])),(ak.mk 0 ([])),1)
 else
  if (p1.ae==0) then
   some ((ak.mk 0 ([])),(ak.mk 0 ([])),15)
  else
   (qh p0.aa p1.aa).bind fun r5 =>
   (if decide ((IntKind.i64.wrap (p0.ae*p1.ae))>=0) then
    some true
   else
    some ((r5.2.length:Int)==0)).bind fun s42j2 =>
   if s42j2 then
    (fF (IntKind.i64.wrap (p0.ae*p1.ae)) r5.1).bind fun r8 =>
    (fF p0.ae r5.2).bind fun r9 =>
    some (r8,r9,0)
   else
    (qk r5.1 ([1])).bind fun r11 =>
    (fF (-1) r11).bind fun r12 =>
    (kA p1.aa r5.2).bind fun r13 =>
    (fF p1.ae r13).bind fun r14 =>
    some (r12,r14,0)
def vk (p0:ak) (p1:ak):Option (ao×Int) :=
 (cU p0).bind fun r1 =>
 (if (!r1) then
  some true
 else
  (cU p1).bind fun r13 =>
  some (!r13)).bind fun s21j1 =>
 if s21j1 then
  some ((ao.mk (ak.mk 0 ([])) (ak.mk 0 ([]))),1)
 else
  if (p1.ae==0) then
   some ((ao.mk (ak.mk 0 ([])) (ak.mk 0 ([]))),15)
  else
   (if decide (p1.ae<0) then
    (rN p0).bind fun r10 =>
    (rN p1).bind fun r11 =>
    some (r10.ae,r10.aa,r11.ae,r11.aa)
   else
    some (p0.ae,p0.aa,p1.ae,p1.aa)).bind fun q=>match q with
   | (r2_0j2,r2_1j2,r3_0j2,r3_1j2) =>
    (vf (ak.mk r2_0j2 r2_1j2) (ak.mk r3_0j2 r3_1j2)).bind fun r6 =>
    (ve (ak.mk r2_0j2 r2_1j2) r6.1).bind fun r7 =>
    (ve (ak.mk r3_0j2 r3_1j2) r6.1).bind fun r8 =>
    some ((ao.mk r7.1 r8.1),0)
def zn (p0:Int) (p1:Int):Option (ao×Int) :=
 (wQ p0).bind fun r1 =>
 (wQ p1).bind fun r2 =>
 (vk r1 r2).bind fun r3 =>
 some (r3.1,r3.2)
def tw:Option (ao) :=
 (zn 1 2).bind fun r1 =>
 some r1.1
def vg (p0:Int):Option (ao) :=
 (zn p0 1).bind fun r1 =>
 some r1.1
def AQ (p0:ak) (p1:ak):(Int)->Option ((Int)⊕((Unit)⊕(Bool)))
 | s5b =>
  if decide (s5b<(p0.aa.length:Int)) then
   (P.idx p0.aa s5b).bind fun x9 =>
   (P.idx p1.aa s5b).bind fun x10 =>
   if (x9 != x10) then
    some (.inr (.inr false))
   else
    some (.inl (IntKind.i64.wrap (s5b+1)))
  else
   some (.inr (.inl ()))
def tM (p0:ak) (p1:ak):Option (Bool) :=
 (if (p0.ae != p1.ae) then
  some true
 else
  some ((p0.aa.length:Int) != (p1.aa.length:Int))).bind fun s19j1 =>
 if s19j1 then
  some false
 else
  (bc (AQ p0 p1) 0).bind fun q=>match q with
  | (.inl _) =>
   some true
  | (.inr rb) =>
   some rb
def my (p0:ak) (p1:ak):Option (Int) :=
 (cU p0).bind fun r1 =>
 (if (!r1) then
  some true
 else
  (cU p1).bind fun r9 =>
  if (!r9) then
   some true
  else
   (tM p0 p1).bind fun r11 =>
   some r11).bind fun s17j1 =>
 if s17j1 then
  some 0
 else
  if (p0.ae != p1.ae) then
   if decide (p0.ae<p1.ae) then
    some (-1)
   else
    some 1
  else
   (oB p0.aa p1.aa).bind fun r6 =>
   if (r6==(decide (p0.ae>0))) then
    some (-1)
   else
    some 1
def nE (p0:ao):Option (Bool) :=
 (cU p0.aZ).bind fun r1 =>
 (if (!r1) then
  some true
 else
  (cU p0.aY).bind fun r8 =>
  if (!r8) then
   some true
  else
   some (decide (p0.aY.ae<1))).bind fun s20j1 =>
 if s20j1 then
  some false
 else
  (vf p0.aZ p0.aY).bind fun r4 =>
  (wQ 1).bind fun r5 =>
  (my r4.1 r5).bind fun r6 =>
  some (r6==0)
def rM (p0:ak) (p1:ak):Option (ak×Int) :=
 (cU p0).bind fun r1 =>
 (if (!r1) then
  some true
 else
  (cU p1).bind fun r7 =>
  some (!r7)).bind fun s13j1 =>
 if s13j1 then
  some ((ak.mk 0 ([])),1)
 else
  (lF p0.aa p1.aa).bind fun r4 =>
  (fF (IntKind.i64.wrap (p0.ae*p1.ae)) r4).bind fun r5 =>
  some (r5,0)
def yo (p0:ak) (p1:ak):Option (ak×Int) :=
 (cU p0).bind fun r1 =>
 (if (!r1) then
  some true
 else
  (cU p1).bind fun r17 =>
  some (!r17)).bind fun s13j1 =>
 if s13j1 then
  some ((ak.mk 0 ([])),1)
 else
  (if (p0.ae==0) then
   some true
  else
   if (p1.ae==0) then
    some true
   else
    some (p0.ae==p1.ae)).bind fun s29j2 =>
  if s29j2 then
   (qk p0.aa p1.aa).bind fun r6 =>
   (fF (gn .or .i64 p0.ae p1.ae) r6).bind fun r7 =>
   some (r7,0)
  else
   (oB p0.aa p1.aa).bind fun r8 =>
   if r8 then
    (kA p1.aa p0.aa).bind fun r10 =>
    (fF p1.ae r10).bind fun r11 =>
    some (r11,0)
   else
    (kA p0.aa p1.aa).bind fun r12 =>
    (fF p0.ae r12).bind fun r13 =>
    some (r13,0)
def yr (p0:ak) (p1:ak):Option (ak×Int) :=
 (cU p1).bind fun r1 =>
 if (!r1) then
  some ((ak.mk 0 ([])),1)
 else
  (rN p1).bind fun r3 =>
  (yo p0 r3).bind fun r4 =>
  some (r4.1,r4.2)
def yw (p0:ao) (p1:ao):Option (ao×Int) :=
 (nE p0).bind fun r1 =>
 (if (!r1) then
  some true
 else
  (nE p1).bind fun r10 =>
  some (!r10)).bind fun s21j1 =>
 if s21j1 then
  some ((ao.mk (ak.mk 0 ([])) (ak.mk 0 ([]))),1)
 else
  (rM p0.aZ p1.aY).bind fun r4 =>
  (rM p1.aZ p0.aY).bind fun r5 =>
  (rM p0.aY p1.aY).bind fun r6 =>
  (yr r4.1 r5.1).bind fun r7 =>
  (vk r7.1 r6.1).bind fun r8 =>
  some (r8.1,r8.2)
def iJ (p0:Int) (p1:ao):Option (fA) :=
 (vg 1).bind fun r1 =>
 (yw r1 p1).bind fun r2 =>
 some (fA.mk ([20,10]) ([(hZ.mk (kJ.mk ([(kK.mk 1 0 0),(kK.mk 0 0 0)]) ([(BY.mk 0 0 0 (ByteArray.mk #[]))]) ([[r1,r1]])) ([(mQ.mk 1 p0)]) ([0])),(hZ.mk (kJ.mk ([(kK.mk 1 0 0)]) ([(BY.mk 0 0 0 (ByteArray.mk #[])),(BY.mk 2 0 0 (ByteArray.mk #[104,101,97,116]))]) ([[p1],[r2.1]])) ([(mQ.mk 0 20)]) ([1]))]))
def da (p0:Int) (p1:Int) (p2:Int):Option (Bool) :=
 if decide (p0>=p1) then
  some (decide (p0<=p2))
 else
  some false
def ma (p0:(List Int)):(Int)->Option ((Int)⊕((Int)))
 | s3a =>
  if decide (s3a>0) then
   (P.idx p0 (IntKind.i64.wrap (s3a-1))).bind fun x6 =>
   if (x6==0) then
    some (.inl (IntKind.i64.wrap (s3a-1)))
   else
    some (.inr s3a)
  else
   some (.inr s3a)
def dN (p0:(List Int)):Option ((List Int)) :=
 (bc (ma p0) (p0.length:Int)).bind fun s3ax =>
 (Bv p0 0 s3ax).bind fun x8 =>
 some x8
def cy (p0:Int) (p1:(List Int)):Option (ak) :=
 (dN p1).bind fun r1 =>
 if ((r1.length:Int)==0) then
  some (ak.mk 0 ([]))
 else
  some (ak.mk p0 r1)
def uq:(Int×(List Int))->Option ((Int×(List Int))⊕(((List Int))))
 | (s4b,l5b) =>
  if decide (s4b>0) then
   (lu 8 l5b [IntKind.i64.wrap (gn .and .u64 s4b 1048575)]).bind fun x9 =>
   (sA .u64 s4b 20).bind fun x11 =>
   some (.inl (x11,x9))
  else
   some (.inr l5b)
def pF (p0:Int):Option (ak) :=
 (if decide (p0<0) then
  some ((-1),IntKind.u64.wrap (0-(IntKind.u64.wrap p0)))
 else
  some (1,IntKind.u64.wrap p0)).bind fun q=>match q with
 | (s3j1,s4j1) =>
  (bc (uq) (s4j1,[])).bind fun l5bx =>
  (cy s3j1 l5bx).bind fun r13 =>
  some r13
def jH (p0:Int):Option (ao) :=
 (pF p0).bind fun r1 =>
 (pF 1).bind fun r2 =>
 some (ao.mk r1 r2)
def mS (p0:ak):(Int)->Option ((Int)⊕((Unit)⊕(Bool)))
 | s12a =>
  if decide (s12a<(p0.aa.length:Int)) then
   (P.idx p0.aa s12a).bind fun x7 =>
   if decide (x7<0) then
    some (.inr (.inr false))
   else
    if decide (x7>1048575) then
     some (.inr (.inr false))
    else
     some (.inl (IntKind.i64.wrap (s12a+1)))
  else
   some (.inr (.inl ()))
def cn (p0:ak):Option (Bool) :=
 (bc (mS p0) 0).bind fun q=>match q with
 | (.inl _) =>
  if ((p0.aa.length:Int)==0) then
   some (p0.ae==0)
  else
   if (p0.ae==1) then
    (P.idx p0.aa (IntKind.i64.wrap ((p0.aa.length:Int)-1))).bind fun x12 =>
    some (x12 != 0)
   else
    if (p0.ae==(-1)) then
     (P.idx p0.aa (IntKind.i64.wrap ((p0.aa.length:Int)-1))).bind fun x14 =>
     some (x14 != 0)
    else
     some false
 | (.inr ra) =>
  some ra
def dM (p0:Bool) (p1:ak):Option (ak×Int) :=
 if (!p0) then
  some ((ak.mk 0 ([])),1)
 else
  some (p1,0)
def bH (p0:(List Int)):Option (List Int):=lu 8 [] p0
def lv (p0:Int):Option (Bool) :=
 some (p0 != p0)
def eQ (p0:Int) (p1:Int):Option (Int) :=
 (lv p0).bind fun r1 =>
 (lv p1).bind fun r2 =>
 if r1 then
  if r2 then
   some 0
  else
   some (-1)
 else
  if r2 then
   some 1
  else
   if decide (p0<p1) then
    some (-1)
   else
    if decide (p0>p1) then
     some 1
    else
     some 0
def kL (p0:(List Int)) (p1:(List Int)):(Int)->Option ((Int)⊕((Unit)⊕(Int)))
 | s5a =>
  if decide (s5a>=0) then
   (P.idx p0 s5a).bind fun x10 =>
   (P.idx p1 s5a).bind fun x11 =>
   if (x10 != x11) then
    (eQ x10 x11).bind fun r13 =>
    some (.inr (.inr r13))
   else
    some (.inl (IntKind.i64.wrap (s5a-1)))
  else
   some (.inr (.inl ()))
def eP (p0:(List Int)) (p1:(List Int)):Option (Int) :=
 if ((p0.length:Int) != (p1.length:Int)) then
  (eQ (p0.length:Int) (p1.length:Int)).bind fun r2 =>
  some r2
 else
  (bc (kL p0 p1) (IntKind.i64.wrap ((p0.length:Int)-1))).bind fun q=>match q with
  | (.inl _) =>
   some 0
  | (.inr ra) =>
   some ra
def mU (p0:(List Int)) (p1:Int):(Int×Int×(List Int))->Option ((Int×Int×(List Int))⊕((Int×(List Int))))
 | (s7a,s8a,l6a) =>
  if decide (s8a>=0) then
   (FT .i64 s7a 20).bind fun x15 =>
   (P.idx p0 s8a).bind fun x17 =>
   (Ct .i64 (gn .or .i64 x15 x17) p1).bind fun x18 =>
   (P.idx l6a s8a).bind fun x20 =>
   (J9 .i64 (gn .or .i64 x15 x17) p1).bind fun x22 =>
   some (.inl (x22,IntKind.i64.wrap (s8a-1),(l6a.set (s8a).toNat x18)))
  else
   some (.inr (s7a,l6a))
def kn (p0:(List Int)) (p1:Int):Option ((List Int)×Int) :=
 (FJ 8 (p0.length:Int) (p0.length:Int) 0).bind fun x1 =>
 (bc (mU p0 p1) (0,IntKind.i64.wrap ((p0.length:Int)-1),x1)).bind fun q=>match q with
 | (s7ax,l6ax) =>
  (dN l6ax).bind fun r24 =>
  some (r24,s7ax)
def qP (p1:(List Int)) (s20a:Int) (x22:Int):(Int×Int×(List Int))->Option ((Int×Int×(List Int))⊕((Int×(List Int))))
 | (s8c,s27c,l5c) =>
  if decide (s27c<(p1.length:Int)) then
   (P.idx p1 s27c).bind fun x31 =>
   (P.idx l5c (IntKind.i64.wrap (s20a+s27c))).bind fun x32 =>
   (sA .i64 (IntKind.i64.wrap ((IntKind.i64.wrap (x32+(IntKind.i64.wrap (x22*x31))))+s8c)) 20).bind fun x33 =>
   some (.inl (x33,IntKind.i64.wrap (s27c+1),(l5c.set (IntKind.i64.wrap (s20a+s27c)).toNat (gn .and .i64 (IntKind.i64.wrap ((IntKind.i64.wrap (x32+(IntKind.i64.wrap (x22*x31))))+s8c)) 1048575))))
  else
   some (.inr (s8c,l5c))
def qO (p0:(List Int)) (p1:(List Int)):(Int×(List Int))->Option ((Int×(List Int))⊕(((List Int))))
 | (s20a,l5a) =>
  if decide (s20a<(p0.length:Int)) then
   (P.idx p0 s20a).bind fun x22 =>
   (bc (qP p1 s20a x22) (0,0,l5a)).bind fun q=>match q with
   | (s8cx,l5cx) =>
    (P.idx l5cx (IntKind.i64.wrap (s20a+(p1.length:Int)))).bind fun x36 =>
    some (.inl (IntKind.i64.wrap (s20a+1),(l5cx.set (IntKind.i64.wrap (s20a+(p1.length:Int))).toNat (IntKind.i64.wrap (x36+s8cx)))))
  else
   some (.inr l5a)
def mT (p0:(List Int)) (p1:(List Int)):Option ((List Int)) :=
 (FJ 8 (IntKind.i64.wrap ((p0.length:Int)+(p1.length:Int))) (IntKind.i64.wrap ((p0.length:Int)+(p1.length:Int))) 0).bind fun x1 =>
 (bc (qO p0 p1) (0,x1)).bind fun l5ax =>
 (dN l5ax).bind fun r39 =>
 some r39
def jP (p0:(List Int)) (p1:(List Int)) (p2:Int):(Int×Int×(List Int))->Option ((Int×Int×(List Int))⊕((Int×(List Int))))
 | (s7a,s14a,l0a) =>
  if decide (s14a<((p0).length:Int)) then
   (P.idx l0a s14a).bind fun x11 =>
   (if decide (s14a<(p1.length:Int)) then
    (P.idx p1 s14a).bind fun x17 =>
    some (IntKind.i64.wrap ((IntKind.i64.wrap (x11-s7a))-(IntKind.i64.wrap (p2*x17))))
   else
    some (IntKind.i64.wrap (x11-s7a))).bind fun s9j3 =>
   (sA .i64 s9j3 20).bind fun x14 =>
   some (.inl (IntKind.i64.wrap (0-x14),IntKind.i64.wrap (s14a+1),(l0a.set (s14a).toNat (gn .and .i64 s9j3 1048575))))
  else
   some (.inr (s7a,l0a))
def jQ (p1:(List Int)) (l0ax:(List Int)):(Int×Int×(List Int))->Option ((Int×Int×(List Int))⊕(((List Int))))
 | (s10d,s49d,l0d) =>
  if decide (s49d<((l0ax).length:Int)) then
   (P.idx l0d s49d).bind fun x29 =>
   (if decide (s49d<(p1.length:Int)) then
    (P.idx p1 s49d).bind fun x35 =>
    some (IntKind.i64.wrap ((IntKind.i64.wrap (s10d+x29))+x35))
   else
    some (IntKind.i64.wrap (s10d+x29))).bind fun s10j6 =>
   (sA .i64 s10j6 20).bind fun x32 =>
   some (.inl (x32,IntKind.i64.wrap (s49d+1),(l0d.set (s49d).toNat (gn .and .i64 s10j6 1048575))))
  else
   some (.inr l0d)
def nP (p0:(List Int)) (p1:(List Int)) (p2:Int):Option ((List Int)×(Int)) :=
 (bc (jP p0 p1 p2) (0,0,p0)).bind fun q=>match q with
 | (s7ax,l0ax) =>
  if (s7ax==0) then
   some (l0ax,p2)
  else
   (bc (jQ p1 l0ax) (0,0,l0ax)).bind fun l0dx =>
   some (l0dx,IntKind.i64.wrap (p2-1))
def fl (p0:(List Int)) (p1:(List Int)) (p2:Int):Option ((List Int)×(Int)):=(nP p0 p1 p2).bind fun r=>if r.1.length=p0.length then some r else none
theorem ze {p0:(List Int)} {p1:(List Int)} {p2:Int} {r:(List Int)×(Int)} (h:fl p0 p1 p2=some r):r.1.length=p0.length:=by
 unfold fl at h
 obtain⟨q,hq,h⟩:=ah h
 split at h
 ·cases h;assumption
 ·cases h
def qL (p1:(List Int)):(Int)->Option ((Int)⊕((Int)))
 | s8a =>
  (P.idx p1 (IntKind.i64.wrap ((p1.length:Int)-1))).bind fun x12 =>
  if decide ((IntKind.i64.wrap (x12*s8a))<524288) then
   some (.inl (IntKind.i64.wrap (s8a*2)))
  else
   some (.inr s8a)
def qN (r19:(List Int)) (s13c:Int) (l9c:(List Int)) (x64:Int):(Int×Int)->Option ((Int×Int)⊕((Int)))
 | (s15g,s16g) =>
  (if decide (s15g>=1048576) then
   some true
  else
   if decide (s16g<1048576) then
    (P.idx r19 (IntKind.i64.wrap (((r19).length:Int)-2))).bind fun x83 =>
    (FT .i64 s16g 20).bind fun x84 =>
    (P.idx l9c (IntKind.i64.wrap ((IntKind.i64.wrap (s13c+((r19).length:Int)))-2))).bind fun x86 =>
    some (decide ((IntKind.i64.wrap (s15g*x83))>(gn .or .i64 x84 x86)))
   else
    some false).bind fun s137j9 =>
  if s137j9 then
   some (.inl (IntKind.i64.wrap (s15g-1),IntKind.i64.wrap (s16g+x64)))
  else
   some (.inr s15g)
def qM (r19:(List Int)):(Int×(List Int)×(List Int))->Option ((Int×(List Int)×(List Int))⊕(((List Int)×(List Int))))
 | (s13c,l9c,l12c) =>
  if decide (s13c>=0) then
   (P.idx l9c (IntKind.i64.wrap (s13c+((r19).length:Int)))).bind fun x60 =>
   (FT .i64 x60 20).bind fun x61 =>
   (P.idx l9c (IntKind.i64.wrap ((IntKind.i64.wrap (s13c+((r19).length:Int)))-1))).bind fun x63 =>
   (P.idx r19 (IntKind.i64.wrap (((r19).length:Int)-1))).bind fun x64 =>
   (Ct .i64 (gn .or .i64 x61 x63) x64).bind fun x65 =>
   (J9 .i64 (gn .or .i64 x61 x63) x64).bind fun x67 =>
   (bc (qN r19 s13c l9c x64) (x65,x67)).bind fun s15gx =>
   (Bv l9c s13c (IntKind.i64.wrap ((IntKind.i64.wrap (s13c+((r19).length:Int)))+1))).bind fun x87 =>
   (fl x87 r19 s15gx).bind fun r90 =>
   (P.idx l12c s13c).bind fun x92 =>
   some (.inl (IntKind.i64.wrap (s13c-1),(l9c.take (s13c).toNat++(r90.1++l9c.drop (IntKind.i64.wrap ((IntKind.i64.wrap (s13c+((r19).length:Int)))+1)).toNat)),(l12c.set (s13c).toNat r90.2)))
  else
   some (.inr (l9c,l12c))
def oN (p0:(List Int)) (p1:(List Int)):Option ((List Int)×(List Int)) :=
 (eP p0 p1).bind fun r1 =>
 if decide (r1<0) then
  (bH p0).bind fun r3 =>
  some ([],r3)
 else
  if ((p1.length:Int)==1) then
   (P.idx p1 0).bind fun x5 =>
   (kn p0 x5).bind fun r6 =>
   (dN ([r6.2])).bind fun r8 =>
   some (r6.1,r8)
  else
   (bc (qL p1) 1).bind fun s8ax =>
   (mT p0 ([s8ax])).bind fun r15 =>
   (lu 8 r15 [0]).bind fun x16 =>
   (mT p1 ([s8ax])).bind fun r19 =>
   (if (((x16).length:Int)==(p0.length:Int)) then
    (lu 8 x16 [0]).bind fun x98 =>
    some x98
   else
    some x16).bind fun l9j2 =>
   (FJ 8 (IntKind.i64.wrap (((l9j2).length:Int)-((r19).length:Int))) (IntKind.i64.wrap (((l9j2).length:Int)-((r19).length:Int))) 0).bind fun x21 =>
   (bc (qM r19) (IntKind.i64.wrap (((x21).length:Int)-1),l9j2,x21)).bind fun q=>match q with
   | (l9cx,l12cx) =>
    (dN l9cx).bind fun r94 =>
    (kn r94 s8ax).bind fun r95 =>
    (dN l12cx).bind fun r96 =>
    some (r96,r95.1)
def nN:((List Int)×(List Int))->Option (((List Int)×(List Int))⊕(((List Int))))
 | (s6b,s7b) =>
  if decide ((s7b.length:Int)>0) then
   (oN s6b s7b).bind fun r11 =>
   some (.inl (s7b,r11.2))
  else
   some (.inr s6b)
def mR (p0:ak) (p1:ak):Option (ak×Int) :=
 (cn p0).bind fun r1 =>
 (if (!r1) then
  some true
 else
  (cn p1).bind fun r16 =>
  some (!r16)).bind fun s17j1 =>
 if s17j1 then
  (dM false (ak.mk 0 ([]))).bind fun r5 =>
  some (r5.1,r5.2)
 else
  (bH p0.aa).bind fun r6 =>
  (bc (nN) (r6,p1.aa)).bind fun s6bx =>
  (bH s6bx).bind fun r12 =>
  (cy 1 r12).bind fun r13 =>
  (dM true r13).bind fun r14 =>
  some (r14.1,r14.2)
def qJ (p0:ak):(Int×Int)->Option ((Int×Int)⊕((Int)⊕(Int×Bool)))
 | (s4b,s19b) =>
  if decide (s19b<(p0.aa.length:Int)) then
   (P.idx p0.aa s19b).bind fun x13 =>
   (if (s19b==3) then
    some (decide (x13>8))
   else
    some false).bind fun s29j4 =>
   if s29j4 then
    some (.inr (.inr (0,false)))
   else
    (FT .u64 (IntKind.u64.wrap x13) (IntKind.i64.wrap (20*s19b))).bind fun x16 =>
    some (.inl (gn .or .u64 s4b x16,IntKind.i64.wrap (s19b+1)))
  else
   some (.inr (.inl s4b))
def qI (p0:ak):Option (Int×Bool) :=
 (cn p0).bind fun r1 =>
 (if (!r1) then
  some true
 else
  some (decide ((p0.aa.length:Int)>4))).bind fun s15j1 =>
 if s15j1 then
  some (0,false)
 else
  (bc (qJ p0) (0,0)).bind fun q=>match q with
  | (.inl s4bx) =>
   (if decide (p0.ae<0) then
    some (decide (s4bx<=9223372036854775808))
   else
    some false).bind fun s38j5 =>
   if s38j5 then
    some (IntKind.i64.wrap (IntKind.u64.wrap (0-s4bx)),true)
   else
    if decide (p0.ae>=0) then
     if decide (s4bx<9223372036854775808) then
      some (IntKind.i64.wrap s4bx,true)
     else
      some (0,false)
    else
     some (0,false)
  | (.inr rb) =>
   some rb
def oc (p0:ak):Option (Bool) :=
 (qI p0).bind fun r1 =>
 if r1.2 then
  some (r1.1==1)
 else
  some false
def cz (p0:ao):Option (Bool) :=
 (cn p0.aZ).bind fun r1 =>
 (if (!r1) then
  some true
 else
  (cn p0.aY).bind fun r8 =>
  if (!r8) then
   some true
  else
   some (p0.aY.ae != 1)).bind fun s20j1 =>
 if s20j1 then
  some false
 else
  (mR p0.aZ p0.aY).bind fun r4 =>
  if (r4.2==0) then
   (oc r4.1).bind fun r6 =>
   some r6
  else
   some false
def eD (p0:ao):Option (Int) :=
 (cz p0).bind fun r1 =>
 if (!r1) then
  some 0
 else
  some p0.aZ.ae
def qK (p0:ak) (p1:ak):Option (ak×Int) :=
 (cn p0).bind fun r1 =>
 (if (!r1) then
  some true
 else
  (cn p1).bind fun r10 =>
  some (!r10)).bind fun s13j1 =>
 if s13j1 then
  (dM false (ak.mk 0 ([]))).bind fun r5 =>
  some (r5.1,r5.2)
 else
  (mT p0.aa p1.aa).bind fun r6 =>
  (cy (IntKind.i64.wrap (p0.ae*p1.ae)) r6).bind fun r7 =>
  (dM true r7).bind fun r8 =>
  some (r8.1,r8.2)
def du (p0:ak) (p1:ak):Option (ak) :=
 (qK p0 p1).bind fun r1 =>
 some r1.1
def uv (p0:(List Int)):(Int)->Option ((Int)⊕((Unit)⊕(Int)))
 | s8a =>
  if decide (s8a<(p0.length:Int)) then
   (P.idx p0 s8a).bind fun x6 =>
   if (x6 != 0) then
    some (.inr (.inr x6))
   else
    some (.inl (IntKind.i64.wrap (s8a+1)))
  else
   some (.inr (.inl ()))
def sX (p0:(List Int)):Option (Int) :=
 (bc (uv p0) 0).bind fun q=>match q with
 | (.inl _) =>
  some 0
 | (.inr ra) =>
  some ra
def nO (s0j1:(List Int)) (s1j1:(List Int)):(Int×Int×(List Int))->Option ((Int×Int×(List Int))⊕((Int×(List Int))))
 | (s6b,s22b,l5b) =>
  if decide (s22b<(s0j1.length:Int)) then
   (P.idx s0j1 s22b).bind fun x15 =>
   (if decide (s22b<(s1j1.length:Int)) then
    (P.idx s1j1 s22b).bind fun x22 =>
    some (IntKind.i64.wrap ((IntKind.i64.wrap (s6b+x15))+x22))
   else
    some (IntKind.i64.wrap (s6b+x15))).bind fun s6j4 =>
   (P.idx l5b s22b).bind fun x17 =>
   (sA .i64 s6j4 20).bind fun x19 =>
   some (.inl (x19,IntKind.i64.wrap (s22b+1),(l5b.set (s22b).toNat (gn .and .i64 s6j4 1048575))))
  else
   some (.inr (s6b,l5b))
def oM (p0:(List Int)) (p1:(List Int)):Option ((List Int)) :=
 (if decide ((p0.length:Int)<(p1.length:Int)) then
  some (p1,p0)
 else
  some (p0,p1)).bind fun q=>match q with
 | (s0j1,s1j1) =>
  (FJ 8 (IntKind.i64.wrap ((s0j1.length:Int)+1)) (IntKind.i64.wrap ((s0j1.length:Int)+1)) 0).bind fun x2 =>
  (bc (nO s0j1 s1j1) (0,0,x2)).bind fun q=>match q with
  | (s6bx,l5bx) =>
   (P.idx l5bx (s0j1.length:Int)).bind fun x23 =>
   (dN (l5bx.set ((s0j1.length:Int)).toNat s6bx)).bind fun r26 =>
   some r26
def qQ (p1:(List Int)) (r1:(List Int)):(Int×Int×(List Int))->Option ((Int×Int×(List Int))⊕(((List Int))))
 | (s6a,s13a,l5a) =>
  if decide (s13a<((r1).length:Int)) then
   (P.idx l5a s13a).bind fun x12 =>
   (if decide (s13a<(p1.length:Int)) then
    (P.idx p1 s13a).bind fun x18 =>
    some (IntKind.i64.wrap ((IntKind.i64.wrap (x12-s6a))-x18))
   else
    some (IntKind.i64.wrap (x12-s6a))).bind fun s8j3 =>
   (sA .i64 s8j3 20).bind fun x14 =>
   some (.inl (gn .and .i64 x14 1,IntKind.i64.wrap (s13a+1),(l5a.set (s13a).toNat (gn .and .i64 s8j3 1048575))))
  else
   some (.inr l5a)
def mV (p0:(List Int)) (p1:(List Int)):Option ((List Int)) :=
 (bH p0).bind fun r1 =>
 (bc (qQ p1 r1) (0,0,r1)).bind fun l5ax =>
 (dN l5ax).bind fun r19 =>
 some r19
def qH (p0:ak) (p1:ak):Option (ak×Int) :=
 (cn p0).bind fun r1 =>
 (if (!r1) then
  some true
 else
  (cn p1).bind fun r21 =>
  some (!r21)).bind fun s13j1 =>
 if s13j1 then
  (dM false (ak.mk 0 ([]))).bind fun r5 =>
  some (r5.1,r5.2)
 else
  if decide ((IntKind.i64.wrap (p0.ae*p1.ae))>=0) then
   (sX ([p0.ae,p1.ae])).bind fun r8 =>
   (oM p0.aa p1.aa).bind fun r9 =>
   (cy r8 r9).bind fun r10 =>
   (dM true r10).bind fun r11 =>
   some (r11.1,r11.2)
  else
   (eP p0.aa p1.aa).bind fun r12 =>
   if decide (r12<0) then
    (mV p1.aa p0.aa).bind fun r14 =>
    (cy p1.ae r14).bind fun r15 =>
    (dM true r15).bind fun r16 =>
    some (r16.1,r16.2)
   else
    (mV p0.aa p1.aa).bind fun r17 =>
    (cy p0.ae r17).bind fun r18 =>
    (dM true r18).bind fun r19 =>
    some (r19.1,r19.2)
def lL (p0:ak):Option (ak) :=
 (cn p0).bind fun r1 =>
 if (!r1) then
  some (ak.mk 0 ([]))
 else
  (bH p0.aa).bind fun r3 =>
  (cy (IntKind.i64.wrap (0-p0.ae)) r3).bind fun r4 =>
  some r4
def lK (p0:ak) (p1:ak):Option (ak×ak×Int) :=
 (cn p0).bind fun r1 =>
 (if (!r1) then
  some true
 else
  (cn p1).bind fun r17 =>
  some (!r17)).bind fun s9j1 =>
 if s9j1 then
  some ((ak.mk 0 ([])),(ak.mk 0 ([])),1)
 else
  if (p1.ae==0) then
   some ((ak.mk 0 ([])),(ak.mk 0 ([])),15)
  else
   (oN p0.aa p1.aa).bind fun r5 =>
   (if decide ((IntKind.i64.wrap (p0.ae*p1.ae))<0) then
    some (decide ((r5.2.length:Int)>0))
   else
    some false).bind fun s44j2 =>
   if s44j2 then
    (oM r5.1 ([1])).bind fun r9 =>
    (cy (-1) r9).bind fun r10 =>
    (mV p1.aa r5.2).bind fun r11 =>
    (cy p1.ae r11).bind fun r12 =>
    some (r10,r12,0)
   else
    (cy (IntKind.i64.wrap (p0.ae*p1.ae)) r5.1).bind fun r13 =>
    (cy p0.ae r5.2).bind fun r14 =>
    some (r13,r14,0)
def kQ (p0:ak) (p1:ak):Option (ao×Int) :=
 (cn p0).bind fun r1 =>
 (if (!r1) then
  some true
 else
  (cn p1).bind fun r13 =>
  some (!r13)).bind fun s14j1 =>
 if s14j1 then
  some ((ao.mk (ak.mk 0 ([])) (ak.mk 0 ([]))),1)
 else
  if (p1.ae==0) then
   some ((ao.mk (ak.mk 0 ([])) (ak.mk 0 ([]))),15)
  else
   (if decide (p1.ae<0) then
    (lL p0).bind fun r10 =>
    (lL p1).bind fun r11 =>
    some (r10.ae,r10.aa,r11.ae,r11.aa)
   else
    some (p0.ae,p0.aa,p1.ae,p1.aa)).bind fun q=>match q with
   | (r2_0j2,r2_1j2,r3_0j2,r3_1j2) =>
    (mR (ak.mk r2_0j2 r2_1j2) (ak.mk r3_0j2 r3_1j2)).bind fun r6 =>
    (lK (ak.mk r2_0j2 r2_1j2) r6.1).bind fun r7 =>
    (lK (ak.mk r3_0j2 r3_1j2) r6.1).bind fun r8 =>
    some ((ao.mk r7.1 r8.1),0)
def mj (p0:ao) (p1:ao):Option (ao×Int) :=
 (cz p0).bind fun r1 =>
 (if (!r1) then
  some true
 else
  (cz p1).bind fun r10 =>
  some (!r10)).bind fun s15j1 =>
 if s15j1 then
  some ((ao.mk (ak.mk 0 ([])) (ak.mk 0 ([]))),1)
 else
  (du p0.aZ p1.aY).bind fun r4 =>
  (du p1.aZ p0.aY).bind fun r5 =>
  (qH r4 r5).bind fun r6 =>
  (du p0.aY p1.aY).bind fun r7 =>
  (kQ r6.1 r7).bind fun r8 =>
  some (r8.1,r8.2)
def u3 (p0:ao) (p1:ao):Option (ao) :=
 (mj p0 p1).bind fun r1 =>
 some r1.1
def l9 (p0:ak) (p1:ak):Option (Int) :=
 (cn p0).bind fun r1 =>
 (if (!r1) then
  some true
 else
  (cn p1).bind fun r8 =>
  some (!r8)).bind fun s12j1 =>
 if s12j1 then
  some 0
 else
  if (p0.ae != p1.ae) then
   (eQ p0.ae p1.ae).bind fun r5 =>
   some r5
  else
   (eP p0.aa p1.aa).bind fun r6 =>
   some (IntKind.i64.wrap (p0.ae*r6))
def kP (p0:ao) (p1:ao):Option (Int) :=
 (cz p0).bind fun r1 =>
 (if (!r1) then
  some true
 else
  (cz p1).bind fun r8 =>
  some (!r8)).bind fun s12j1 =>
 if s12j1 then
  some 0
 else
  (du p0.aZ p1.aY).bind fun r4 =>
  (du p1.aZ p0.aY).bind fun r5 =>
  (l9 r4 r5).bind fun r6 =>
  some r6
def xZ (p0:(List ao)):(Int×Int×(List Int)×Int×(List Int))->Option ((Int×Int×(List Int)×Int×(List Int))⊕((Int×(List Int)×Int×(List Int))⊕(Bool)))
 | (s9a,r3_0a,r3_1a,r3_2a,r3_3a) =>
  if decide (s9a<(p0.length:Int)) then
   (P.idx p0 s9a).bind fun x11 =>
   (cz x11).bind fun r12 =>
   if (!r12) then
    some (.inr (.inr false))
   else
    (eD x11).bind fun r14 =>
    if decide (r14<0) then
     some (.inr (.inr false))
    else
     (u3 (ao.mk (ak.mk r3_0a r3_1a) (ak.mk r3_2a r3_3a)) x11).bind fun r16 =>
     some (.inl (IntKind.i64.wrap (s9a+1),r16.aZ.ae,r16.aZ.aa,r16.aY.ae,r16.aY.aa))
  else
   some (.inr (.inl (r3_0a,r3_1a,r3_2a,r3_3a)))
def qe (p0:(List ao)):Option (Bool) :=
 (jH 0).bind fun r1 =>
 (bc (xZ p0) (0,r1.aZ.ae,r1.aZ.aa,r1.aY.ae,r1.aY.aa)).bind fun q=>match q with
 | (.inl (r3_0ax,r3_1ax,r3_2ax,r3_3ax)) =>
  (jH 1).bind fun r17 =>
  (kP (ao.mk (ak.mk r3_0ax r3_1ax) (ak.mk r3_2ax r3_3ax)) r17).bind fun r18 =>
  some (r18==0)
 | (.inr ra) =>
  some ra
def p7 (p0:kJ):(Int)->Option ((Int)⊕((Unit)⊕(Bool)))
 | s31b =>
  if decide (s31b<(p0.bh.length:Int)) then
   (P.idx p0.bh s31b).bind fun x12 =>
   (da x12.jv 0 3).bind fun r13 =>
   if (!r13) then
    some (.inr (.inr false))
   else
    if decide (x12.gC<0) then
     some (.inr (.inr false))
    else
     (P.idx p0.ba s31b).bind fun x16 =>
     if ((x16.length:Int) != (p0.aA.length:Int)) then
      some (.inr (.inr false))
     else
      some (.inl (IntKind.i64.wrap (s31b+1)))
  else
   some (.inr (.inl ()))
def p9 (p0:kJ) (s61c:Int):(Int×(List ao))->Option ((Int×(List ao))⊕(((List ao))))
 | (s73e,l7e) =>
  if decide (s73e<(p0.bh.length:Int)) then
   (P.idx p0.ba s73e).bind fun x50 =>
   (P.idx x50 s61c).bind fun x51 =>
   (P.idx l7e s73e).bind fun x52 =>
   some (.inl (IntKind.i64.wrap (s73e+1),(l7e.set (s73e).toNat x51)))
  else
   some (.inr l7e)
def p8 (p0:kJ):(Int)->Option ((Int)⊕((Unit)⊕(Bool)))
 | s61c =>
  if decide (s61c<(p0.aA.length:Int)) then
   (P.idx p0.aA s61c).bind fun x40 =>
   (FJ 64 (p0.bh.length:Int) (p0.bh.length:Int) (ao.mk (ak.mk 0 ([])) (ak.mk 0 ([])))).bind fun x41 =>
   (bc (p9 p0 s61c) (0,x41)).bind fun l7ex =>
   (da x40.jv 0 2).bind fun r54 =>
   if (!r54) then
    some (.inr (.inr false))
   else
    if decide (x40.gC<0) then
     some (.inr (.inr false))
    else
     (qe l7ex).bind fun r57 =>
     if (!r57) then
      some (.inr (.inr false))
     else
      some (.inl (IntKind.i64.wrap (s61c+1)))
  else
   some (.inr (.inl ()))
def jL (p0:kJ):Option (Bool) :=
 (if decide ((p0.aA.length:Int)>100) then
  some true
 else
  if decide ((p0.bh.length:Int)>100) then
   some true
  else
   some ((p0.ba.length:Int) != (p0.bh.length:Int))).bind fun s27j1 =>
 if s27j1 then
  some false
 else
  (bc (p7 p0) 0).bind fun q=>match q with
  | (.inl _) =>
   (bc (p8 p0) 0).bind fun q=>match q with
   | (.inl _) =>
    some true
   | (.inr rc) =>
    some rc
  | (.inr rb) =>
   some rb
def oh (p0:mQ) (p1:Int):Option (Bool) :=
 (da p0.j0 0 (IntKind.i64.wrap (p1-1))).bind fun r1 =>
 if (!r1) then
  some true
 else
  (da p0.b6 1 1099511627776).bind fun r3 =>
  some (!r3)
def oo (p0:Int) (p1:Int):Option (Bool) :=
 (da p0 0 (IntKind.i64.wrap (p1-1))).bind fun r1 =>
 some (!r1)
def pK (p0:(List Int)):Option (List Int):=UC p0
def dn (p0:(List Int)):Option (List Int):=Ky p0
def tF (r2:(List Int)):(Int)->Option ((Int)⊕((Unit)⊕(Bool)))
 | s13a =>
  if decide (s13a<((r2).length:Int)) then
   (P.idx r2 s13a).bind fun x8 =>
   if (s13a != x8) then
    some (.inr (.inr false))
   else
    some (.inl (IntKind.i64.wrap (s13a+1)))
  else
   some (.inr (.inl ()))
def kr (p0:(List Int)) (p1:Int):Option (Bool) :=
 (pK p0).bind fun r1 =>
 (dn r1).bind fun r2 =>
 (bc (tF r2) 0).bind fun q=>match q with
 | (.inl _) =>
  some (((r2).length:Int)==p1)
 | (.inr ra) =>
  some ra
def fG (p0:(List mQ)) (p1c0:Int):(Int)->Option ((Int)⊕((Unit)⊕(Int)))
 | s8a =>
  if decide (s8a<(p0.length:Int)) then
   (P.idx p0 s8a).bind fun x7 =>
   (oh x7 p1c0).bind fun r8 =>
   if r8 then
    some (.inr (.inr s8a))
   else
    some (.inl (IntKind.i64.wrap (s8a+1)))
  else
   some (.inr (.inl ()))
def cc (p0:(List mQ)) (p1c0:Int):Option (Int) :=
 (bc (fG p0 p1c0) 0).bind fun q=>match q with
 | (.inl _) =>
  some (-1)
 | (.inr ra) =>
  some ra
def bW (p0:(List mQ)) (p1c0:Int):Option (Bool) :=
 (cc p0 p1c0).bind fun r1 =>
 some (decide (r1>=0))
def fH (p0:(List Int)) (p1c0:Int):(Int)->Option ((Int)⊕((Unit)⊕(Int)))
 | s8a =>
  if decide (s8a<(p0.length:Int)) then
   (P.idx p0 s8a).bind fun x7 =>
   (oo x7 p1c0).bind fun r8 =>
   if r8 then
    some (.inr (.inr s8a))
   else
    some (.inl (IntKind.i64.wrap (s8a+1)))
  else
   some (.inr (.inl ()))
def cd (p0:(List Int)) (p1c0:Int):Option (Int) :=
 (bc (fH p0 p1c0) 0).bind fun q=>match q with
 | (.inl _) =>
  some (-1)
 | (.inr ra) =>
  some ra
def bX (p0:(List Int)) (p1c0:Int):Option (Bool) :=
 (cd p0 p1c0).bind fun r1 =>
 some (decide (r1>=0))
def AA (p0:hZ):(Int×(List Int))->Option ((Int×(List Int))⊕(((List Int))))
 | (s21a,l5a) =>
  if decide (s21a<(p0.aF.aA.length:Int)) then
   (P.idx p0.aF.aA s21a).bind fun x10 =>
   if (x10.jv==1) then
    (lu 8 l5a [x10.gC]).bind fun x12 =>
    some (.inl (IntKind.i64.wrap (s21a+1),x12))
   else
    some (.inl (IntKind.i64.wrap (s21a+1),l5a))
  else
   some (.inr l5a)
def AB (p0:hZ):(Int×(List Int))->Option ((Int×(List Int))⊕(((List Int))))
 | (s38b,l6b) =>
  if decide (s38b<(p0.aF.bh.length:Int)) then
   (P.idx p0.aF.bh s38b).bind fun x21 =>
   if (x21.jv==0) then
    (lu 8 l6b [x21.gC]).bind fun x23 =>
    some (.inl (IntKind.i64.wrap (s38b+1),x23))
   else
    some (.inl (IntKind.i64.wrap (s38b+1),l6b))
  else
   some (.inr l6b)
def tE (p0:hZ) (p1:Int):Option (Bool) :=
 (jL p0.aF).bind fun r1 =>
 if (!r1) then
  some false
 else
  (bc (AA p0) (0,[])).bind fun l5ax =>
  (bc (AB p0) (0,[])).bind fun l6bx =>
  (kr l5ax (p0.cK.length:Int)).bind fun r25 =>
  if r25 then
   (kr l6bx (p0.az.length:Int)).bind fun r27 =>
   if r27 then
    (bW p0.cK p1).bind fun r29 =>
    if (!r29) then
     (bX p0.az p1).bind fun r31 =>
     some (!r31)
    else
     some false
   else
    some false
  else
   some false
def xT (p0:fA):(Int)->Option ((Int)⊕((Unit)⊕(Int×Int)))
 | s31b =>
  if decide (s31b<(p0.bg.length:Int)) then
   (P.idx p0.bg s31b).bind fun x9 =>
   (da x9 1 1099511627776).bind fun r10 =>
   if (!r10) then
    some (.inr (.inr (3,s31b)))
   else
    some (.inl (IntKind.i64.wrap (s31b+1)))
  else
   some (.inr (.inl ()))
def xV (x39:hZ):(Int×(List Int))->Option ((Int×(List Int))⊕(((List Int))))
 | (s67f,l6f) =>
  if decide (s67f<(x39.az.length:Int)) then
   (P.idx x39.az s67f).bind fun x48 =>
   (P.idx l6f x48).bind fun x49 =>
   some (.inl (IntKind.i64.wrap (s67f+1),(l6f.set (x48).toNat (IntKind.i64.wrap (x49+1)))))
  else
   some (.inr l6f)
def xW (x39:hZ):(Int×(List Int))->Option ((Int×(List Int))⊕(((List Int))))
 | (s81g,l7g) =>
  if decide (s81g<(x39.cK.length:Int)) then
   (P.idx x39.cK s81g).bind fun x57 =>
   (P.idx l7g x57.j0).bind fun x58 =>
   some (.inl (IntKind.i64.wrap (s81g+1),(l7g.set (x57.j0).toNat (if 1099511627777<(IntKind.i64.wrap (x58+x57.b6)) then 1099511627777 else IntKind.i64.wrap (x58+x57.b6)))))
  else
   some (.inr l7g)
def xU (p0:fA):(Int×(List Int)×(List Int))->Option ((Int×(List Int)×(List Int))⊕(((List Int)×(List Int))⊕(Int×Int)))
 | (s52c,l6c,l7c) =>
  if decide (s52c<(p0.aT.length:Int)) then
   (P.idx p0.aT s52c).bind fun x39 =>
   (tE x39 (p0.bg.length:Int)).bind fun r40 =>
   if (!r40) then
    some (.inr (.inr (1,s52c)))
   else
    (bc (xV x39) (0,l6c)).bind fun l6fx =>
    (bc (xW x39) (0,l7c)).bind fun l7gx =>
    some (.inl (IntKind.i64.wrap (s52c+1),l6fx,l7gx))
  else
   some (.inr (.inl (l6c,l7c)))
def xX (l6cx:(List Int)):(Int)->Option ((Int)⊕((Unit)⊕(Int×Int)))
 | s102h =>
  if decide (s102h<((l6cx).length:Int)) then
   (P.idx l6cx s102h).bind fun x66 =>
   if (x66==0) then
    some (.inr (.inr (21,s102h)))
   else
    if decide (x66>1) then
     some (.inr (.inr (5,s102h)))
    else
     some (.inl (IntKind.i64.wrap (s102h+1)))
  else
   some (.inr (.inl ()))
def xY (p0:fA) (l7cx:(List Int)):(Int)->Option ((Int)⊕((Unit)⊕(Int×Int)))
 | s118i =>
  if decide (s118i<((l7cx).length:Int)) then
   (P.idx l7cx s118i).bind fun x75 =>
   (P.idx p0.bg s118i).bind fun x76 =>
   if decide (x75>x76) then
    some (.inr (.inr (25,s118i)))
   else
    some (.inl (IntKind.i64.wrap (s118i+1)))
  else
   some (.inr (.inl ()))
def nC (p0:fA):Option (Int×Int) :=
 (if decide ((p0.bg.length:Int)>2000) then
  some true
 else
  some (decide ((p0.aT.length:Int)>400))).bind fun s27j1 =>
 if s27j1 then
  some (6,0)
 else
  (bc (xT p0) 0).bind fun q=>match q with
  | (.inl _) =>
   (FJ 8 (p0.bg.length:Int) (p0.bg.length:Int) 0).bind fun x12 =>
   (bc (xU p0) (0,x12,x12)).bind fun q=>match q with
   | (.inl (l6cx,l7cx)) =>
    (bc (xX l6cx) 0).bind fun q=>match q with
    | (.inl _) =>
     (bc (xY p0 l7cx) 0).bind fun q=>match q with
     | (.inl _) =>
      some (0,0)
     | (.inr ri) =>
      some ri
    | (.inr rh) =>
     some rh
   | (.inr rc) =>
    some rc
  | (.inr rb) =>
   some rb
def xE (p0:Int) (p1:Int):Option (ao×Int) :=
 (pF p0).bind fun r1 =>
 (pF p1).bind fun r2 =>
 (kQ r1 r2).bind fun r3 =>
 some (r3.1,r3.2)
def tq (p0:ao) (p1:ao):Option (ao×Int) :=
 (cz p0).bind fun r1 =>
 (if (!r1) then
  some true
 else
  (cz p1).bind fun r8 =>
  some (!r8)).bind fun s13j1 =>
 if s13j1 then
  some ((ao.mk (ak.mk 0 ([])) (ak.mk 0 ([]))),1)
 else
  (du p0.aZ p1.aZ).bind fun r4 =>
  (du p0.aY p1.aY).bind fun r5 =>
  (kQ r4 r5).bind fun r6 =>
  some (r6.1,r6.2)
def p6 (p2:hZ) (s22a:Int) (x40:mQ) (r42:ao×Int):(Int×(List ((Int×Int)×ao)))->Option ((Int×(List ((Int×Int)×ao)))⊕(((List ((Int×Int)×ao)))))
 | (s51e,l0e) =>
  if decide (s51e<(p2.aF.bh.length:Int)) then
   (P.idx p2.aF.bh s51e).bind fun x59 =>
   (if (x59.jv != 0) then
    some true
   else
    (P.idx p2.aF.ba s51e).bind fun x69 =>
    (P.idx x69 s22a).bind fun x70 =>
    (eD x70).bind fun r71 =>
    some (r71==0)).bind fun s71j7 =>
   if s71j7 then
    some (.inl (IntKind.i64.wrap (s51e+1),l0e))
   else
    (P.idx p2.az x59.gC).bind fun x62 =>
    (P.idx p2.aF.ba s51e).bind fun x63 =>
    (P.idx x63 s22a).bind fun x64 =>
    (tq r42.1 x64).bind fun r65 =>
    if Vc l0e (x40.j0,x62) then
     (u3 (ao.mk ((tz (ao.mk (ak.mk 0 ([])) (ak.mk 0 ([]))) l0e (x40.j0,x62)).aZ) ((tz (ao.mk (ak.mk 0 ([])) (ak.mk 0 ([]))) l0e (x40.j0,x62)).aY)) r65.1).bind fun r67 =>
     some (.inl (IntKind.i64.wrap (s51e+1),(Ko l0e (x40.j0,x62) r67)))
    else
     some (.inl (IntKind.i64.wrap (s51e+1),(Ko l0e (x40.j0,x62) r65.1)))
  else
   some (.inr l0e)
def p5 (p1:(List Int)) (p2:hZ):(Int×(List ((Int×Int)×ao)))->Option ((Int×(List ((Int×Int)×ao)))⊕(((List ((Int×Int)×ao)))))
 | (s22a,l0a) =>
  if decide (s22a<(p2.aF.aA.length:Int)) then
   (P.idx p2.aF.aA s22a).bind fun x38 =>
   if (x38.jv != 1) then
    some (.inl (IntKind.i64.wrap (s22a+1),l0a))
   else
    (P.idx p2.cK x38.gC).bind fun x40 =>
    (P.idx p1 x40.j0).bind fun x41 =>
    (xE x40.b6 x41).bind fun r42 =>
    (bc (p6 p2 s22a x40 r42) (0,l0a)).bind fun l0ex =>
    some (.inl (IntKind.i64.wrap (s22a+1),l0ex))
  else
   some (.inr l0a)
def jK (p0:(List ((Int×Int)×ao))) (p1:(List Int)) (p2:hZ):Option ((List ((Int×Int)×ao))×(Unit)) :=
 (bc (p5 p1 p2) (0,p0)).bind fun l0ax =>
 some (l0ax,())
def kd (p0:bJ) (p1:bJ):Option (Int) :=
 (eQ p0.bT p1.bT).bind fun r1 =>
 (eQ p0.gA p1.gA).bind fun r2 =>
 (sX ([r1,r2])).bind fun r4 =>
 some r4
def Kb (p:Int) (m:List ((Int×Int)×ao)):Option (cu×Int) :=
 if m.length<=8000∧(m.map (·.1)).Nodup then some (cu.mk p (od (js bJ.bT bJ.gA) (m.map fun q=>bJ.mk q.1.1 q.1.2 q.2)),0) else none
def HT (p0:fA):(Int×(List ((Int×Int)×ao)))->Option ((Int×(List ((Int×Int)×ao)))⊕(((List ((Int×Int)×ao)))))
 | (s25a,l21a) =>
  if decide (s25a<(p0.aT.length:Int)) then
   (P.idx p0.aT s25a).bind fun x9 =>
   (jK l21a p0.bg x9).bind fun r11 =>
   some (.inl (IntKind.i64.wrap (s25a+1),r11.1))
  else
   some (.inr l21a)
def zh (p0:fA):Option (cu×Int) :=
 (nC p0).bind fun r1 =>
 if (r1.1 != 0) then
  some ((cu.mk 0 ([])),r1.1)
 else
  (bc (HT p0) (0,([]:(List ((Int×Int)×ao))))).bind fun l21ax =>
  if decide ((l21ax.length:Int)>8000) then
   some ((cu.mk 0 ([])),6)
  else
   Kb (p0.bg.length:Int) l21ax
def tN (p0:ak) (p1:ak):(Int)->Option ((Int)⊕((Unit)⊕(Bool)))
 | s5b =>
  if decide (s5b<(p0.aa.length:Int)) then
   (P.idx p0.aa s5b).bind fun x9 =>
   (P.idx p1.aa s5b).bind fun x10 =>
   if (x9 != x10) then
    some (.inr (.inr false))
   else
    some (.inl (IntKind.i64.wrap (s5b+1)))
  else
   some (.inr (.inl ()))
def kB (p0:ak) (p1:ak):Option (Bool) :=
 (if (p0.ae != p1.ae) then
  some true
 else
  some ((p0.aa.length:Int) != (p1.aa.length:Int))).bind fun s19j1 =>
 if s19j1 then
  some false
 else
  (bc (tN p0 p1) 0).bind fun q=>match q with
  | (.inl _) =>
   some true
  | (.inr rb) =>
   some rb
def ql (p0:ao) (p1:ao):Option (Bool) :=
 (kB p0.aZ p1.aZ).bind fun r1 =>
 if r1 then
  (kB p0.aY p1.aY).bind fun r3 =>
  some r3
 else
  some false
def AW (p0:cu) (p1:cu):(Int)->Option ((Int)⊕((Unit)⊕(Bool)))
 | s5b =>
  if decide (s5b<(p0.av.length:Int)) then
   (P.idx p0.av s5b).bind fun x12 =>
   (P.idx p1.av s5b).bind fun x13 =>
   if (x12.bT != x13.bT) then
    some (.inr (.inr false))
   else
    if (x12.gA != x13.gA) then
     some (.inr (.inr false))
    else
     (ql x12.bF x13.bF).bind fun r16 =>
     if (!r16) then
      some (.inr (.inr false))
     else
      some (.inl (IntKind.i64.wrap (s5b+1)))
  else
   some (.inr (.inl ()))
def tO (p0:cu) (p1:cu):Option (Bool) :=
 (if (p0.az != p1.az) then
  some true
 else
  some ((p0.av.length:Int) != (p1.av.length:Int))).bind fun s19j1 =>
 if s19j1 then
  some false
 else
  (bc (AW p0 p1) 0).bind fun q=>match q with
  | (.inl _) =>
   some true
  | (.inr rb) =>
   some rb
def oa (p0:ao) (p1:ao):Option (ao×Int) :=
 (cz p0).bind fun r1 =>
 (if (!r1) then
  some true
 else
  (cz p1).bind fun r7 =>
  some (!r7)).bind fun s13j1 =>
 if s13j1 then
  some ((ao.mk (ak.mk 0 ([])) (ak.mk 0 ([]))),1)
 else
  (lL p1.aZ).bind fun r4 =>
  (mj p0 (ao.mk r4 p1.aY)).bind fun r5 =>
  some (r5.1,r5.2)
def kV (x1:(List ao)):(Int×(List ao))->Option ((Int×(List ao))⊕(((List ao))))
 | (s12a,l3a) =>
  if decide (s12a<((x1).length:Int)) then
   (jH 1).bind fun r9 =>
   (P.idx l3a s12a).bind fun x10 =>
   some (.inl (IntKind.i64.wrap (s12a+1),(l3a.set (s12a).toNat r9)))
  else
   some (.inr l3a)
def kW (p0:cu):(Int×(List ao))->Option ((Int×(List ao))⊕(((List ao))))
 | (s23b,l3b) =>
  if decide (s23b<(p0.av.length:Int)) then
   (P.idx p0.av s23b).bind fun x19 =>
   (P.idx l3b x19.bT).bind fun x20 =>
   (oa x20 x19.bF).bind fun r21 =>
   some (.inl (IntKind.i64.wrap (s23b+1),(l3b.set (x19.bT).toNat r21.1)))
  else
   some (.inr l3b)
def jf (p0:cu):Option ((List ao)) :=
 (FJ 64 p0.az p0.az (ao.mk (ak.mk 0 ([])) (ak.mk 0 ([])))).bind fun x1 =>
 (bc (kV x1) (0,x1)).bind fun l3ax =>
 (bc (kW p0) (0,l3ax)).bind fun l3bx =>
 some l3bx
def kq (p0:ao):Option (Bool) :=
 (eD p0).bind fun r1 =>
 some (decide (r1<0))
def cX (p0:(List ao)):(Int)->Option ((Int)⊕((Unit)⊕(Int)))
 | s8a =>
  if decide (s8a<(p0.length:Int)) then
   (P.idx p0 s8a).bind fun x7 =>
   (kq x7).bind fun r8 =>
   if r8 then
    some (.inr (.inr s8a))
   else
    some (.inl (IntKind.i64.wrap (s8a+1)))
  else
   some (.inr (.inl ()))
def b4 (p0:(List ao)):Option (Int) :=
 (bc (cX p0) 0).bind fun q=>match q with
 | (.inl _) =>
  some (-1)
 | (.inr ra) =>
  some ra
def bC (p0:(List ao)):Option (Bool) :=
 (b4 p0).bind fun r1 =>
 some (decide (r1>=0))
def kU (p0:cu):(Int)->Option ((Int)⊕((Unit)⊕(Bool)))
 | s18b =>
  if decide (s18b<(p0.av.length:Int)) then
   (P.idx p0.av s18b).bind fun x21 =>
   (da x21.bT 0 (IntKind.i64.wrap (p0.az-1))).bind fun r22 =>
   (if (!r22) then
    some true
   else
    (da x21.gA 0 (IntKind.i64.wrap (p0.az-1))).bind fun r30 =>
    if (!r30) then
     some true
    else
     (cz x21.bF).bind fun r32 =>
     if (!r32) then
      some true
     else
      (eD x21.bF).bind fun r34 =>
      some (decide (r34<=0))).bind fun s50j4 =>
   if s50j4 then
    some (.inr (.inr false))
   else
    if decide (s18b>0) then
     (P.idx p0.av (IntKind.i64.wrap (s18b-1))).bind fun x26 =>
     (kd x26 x21).bind fun r27 =>
     if decide (r27>=0) then
      some (.inr (.inr false))
     else
      some (.inl (IntKind.i64.wrap (s18b+1)))
    else
     some (.inl (IntKind.i64.wrap (s18b+1)))
  else
   some (.inr (.inl ()))
def gG (p0:cu):Option (Bool) :=
 (da p0.az 0 2000).bind fun r1 =>
 (if (!r1) then
  some true
 else
  some (decide ((p0.av.length:Int)>8000))).bind fun s14j1 =>
 if s14j1 then
  some false
 else
  (bc (kU p0) 0).bind fun q=>match q with
  | (.inl _) =>
   (jf p0).bind fun r35 =>
   (bC r35).bind fun r36 =>
   some (!r36)
  | (.inr rb) =>
   some rb
def jb (p0:cu):(Int×(List (List Int)))->Option ((Int×(List (List Int)))⊕(((List (List Int)))))
 | (s22a,l18a) =>
  if decide (s22a<(p0.av.length:Int)) then
   (P.idx p0.av s22a).bind fun x13 =>
   (P.idx l18a x13.gA).bind fun x14 =>
   (lu 8 x14 [x13.bT]).bind fun x15 =>
   some (.inl (IntKind.i64.wrap (s22a+1),(l18a.set (x13.gA).toNat x15)))
  else
   some (.inr l18a)
def jc (r20:(List ao)):(Int×(List Int)×(List Int))->Option ((Int×(List Int)×(List Int))⊕(((List Int)×(List Int))))
 | (s46b,l6b,l7b) =>
  if decide (s46b<(r20.length:Int)) then
   (P.idx r20 s46b).bind fun x33 =>
   (P.idx l6b s46b).bind fun x34 =>
   (eD x33).bind fun r36 =>
   if decide (r36>0) then
    (P.idx (l6b.set (s46b).toNat (-1)) s46b).bind fun x38 =>
    (lu 8 l7b [s46b]).bind fun x40 =>
    some (.inl (IntKind.i64.wrap (s46b+1),((l6b.set (s46b).toNat (-1)).set (s46b).toNat 0),x40))
   else
    some (.inl (IntKind.i64.wrap (s46b+1),(l6b.set (s46b).toNat (-1)),l7b))
  else
   some (.inr (l6b,l7b))
def je (x66:Int) (x69:(List Int)):(Int×(List Int)×(List Int))->Option ((Int×(List Int)×(List Int))⊕(((List Int)×(List Int))))
 | (s78e,l6e,l7e) =>
  if decide (s78e<((x69).length:Int)) then
   (P.idx x69 s78e).bind fun x80 =>
   (P.idx l6e x80).bind fun x81 =>
   if (x81==(-1)) then
    (P.idx l6e x66).bind fun x83 =>
    (lu 8 l7e [x80]).bind fun x85 =>
    some (.inl (IntKind.i64.wrap (s78e+1),(l6e.set (x80).toNat (IntKind.i64.wrap (x83+1))),x85))
   else
    some (.inl (IntKind.i64.wrap (s78e+1),l6e,l7e))
  else
   some (.inr (l6e,l7e))
def jd (l18ax:(List (List Int))):((List Int)×(List Int))->Option (((List Int)×(List Int))⊕(((List Int))))
 | (l6c,l7c) =>
  if decide (((l7c).length:Int)>0) then
   (P.idx l7c 0).bind fun x66 =>
   (Bv l7c 1 (l7c.length:Int)).bind fun x67 =>
   (P.idx l18ax x66).bind fun x69 =>
   (bc (je x66 x69) (0,l6c,x67)).bind fun q=>match q with
   | (l6ex,l7ex) =>
    some (.inl (l6ex,l7ex))
  else
   some (.inr l6c)
def fR (p0:cu):Option ((List Int)) :=
 (gG p0).bind fun r1 =>
 if (!r1) then
  some ([])
 else
  (FJ 24 p0.az p0.az ([])).bind fun x3 =>
  (bc (jb p0) (0,x3)).bind fun l18ax =>
  (FJ 8 p0.az p0.az 0).bind fun x18 =>
  (jf p0).bind fun r20 =>
  (bc (jc r20) (0,x18,[])).bind fun q=>match q with
  | (l6bx,l7bx) =>
   (bc (jd l18ax) (l6bx,l7bx)).bind fun l6cx =>
   some l6cx
def sf (p0:(List Int)) (p1:(List Int)):(Int)->Option ((Int)⊕((Unit)⊕(Bool)))
 | s5a =>
  if decide (s5a<(p0.length:Int)) then
   (P.idx p0 s5a).bind fun x8 =>
   (P.idx p1 s5a).bind fun x9 =>
   if (x8 != x9) then
    some (.inr (.inr false))
   else
    some (.inl (IntKind.i64.wrap (s5a+1)))
  else
   some (.inr (.inl ()))
def gW (p0:(List Int)) (p1:(List Int)):Option (Bool) :=
 if ((p0.length:Int) != (p1.length:Int)) then
  some false
 else
  (bc (sf p0 p1) 0).bind fun q=>match q with
  | (.inl _) =>
   some true
  | (.inr ra) =>
   some ra
def jJ (p0:cu) (p1:Int):Option (ao) :=
 (gG p0).bind fun r1 =>
 if (!r1) then
  some (ao.mk (ak.mk 0 ([])) (ak.mk 0 ([])))
 else
  (da p1 0 (IntKind.i64.wrap (p0.az-1))).bind fun r3 =>
  if (!r3) then
   some (ao.mk (ak.mk 0 ([])) (ak.mk 0 ([])))
  else
   (jf p0).bind fun r5 =>
   (P.idx r5 p1).bind fun x6 =>
   some x6
def gH (r1:(List Int)):(Int×(List Int))->Option ((Int×(List Int))⊕(((List Int))))
 | (s9a,l3a) =>
  if decide (s9a<(r1.length:Int)) then
   (P.idx r1 s9a).bind fun x9 =>
   if (x9==(-1)) then
    (lu 8 l3a [s9a]).bind fun x11 =>
    some (.inl (IntKind.i64.wrap (s9a+1),x11))
   else
    some (.inl (IntKind.i64.wrap (s9a+1),l3a))
  else
   some (.inr l3a)
def gQ (p0:cu):Option ((List Int)) :=
 (fR p0).bind fun r1 =>
 (bc (gH r1) (0,[])).bind fun l3ax =>
 some l3ax
def pX:Option (Bool) :=
 (tw).bind fun r1 =>
 (iJ 5 r1).bind fun r2 =>
 (zh r2).bind fun r3 =>
 (if (r3.2 != 0) then
  some true
 else
  (tO r3.1 (cu.mk 2 ([(bJ.mk 0 1 r1),(bJ.mk 1 0 r1)]))).bind fun r25 =>
  if (!r25) then
   some true
  else
   (fR r3.1).bind fun r27 =>
   (gW r27 ([0,0])).bind fun r29 =>
   if (!r29) then
    some true
   else
    (jJ r3.1 1).bind fun r31 =>
    (ql r31 r1).bind fun r32 =>
    some (!r32)).bind fun s41j1 =>
 if s41j1 then
  some false
 else
  (vg 1).bind fun r6 =>
  (iJ 10 r6).bind fun r7 =>
  (zh r7).bind fun r8 =>
  (iJ 11 r1).bind fun r9 =>
  (nC r9).bind fun r10 =>
  if (r8.2==0) then
   (fR r8.1).bind fun r12 =>
   (gW r12 ([(-1),(-1)])).bind fun r14 =>
   if r14 then
    (gQ r8.1).bind fun r16 =>
    (gW r16 ([0,1])).bind fun r18 =>
    if r18 then
     if (r10.1==25) then
      if (r10.2==1) then
       (gG r8.1).bind fun r22 =>
       some r22
      else
       some false
     else
      some false
    else
     some false
   else
    some false
  else
   some false
def rO (p0:ao) (p1:Int):Option (Bool) :=
 if decide ((p0.aZ.aa.length:Int)<=p1) then
  some (decide ((p0.aY.aa.length:Int)<=p1))
 else
  some false
def lX (p0:cu):(Int)->Option ((Int)⊕((Unit)⊕(Bool)))
 | s3a =>
  (if decide (s3a<(p0.av.length:Int)) then
   some (decide (s3a<40))
  else
   some false).bind fun s12j3 =>
  if s12j3 then
   (P.idx p0.av s3a).bind fun x10 =>
   (rO x10.bF 6).bind fun r11 =>
   if (!r11) then
    some (.inr (.inr false))
   else
    some (.inl (IntKind.i64.wrap (s3a+1)))
  else
   some (.inr (.inl ()))
def iQ (p0:cu):Option (Bool) :=
 (bc (lX p0) 0).bind fun q=>match q with
 | (.inl _) =>
  if decide (p0.az<=12) then
   some (decide ((p0.av.length:Int)<=40))
  else
   if decide (p0.az>2000) then
    some (decide ((p0.av.length:Int)<=40))
   else
    some false
 | (.inr ra) =>
  some ra
def eX (p0:cu) (r5:(List Int)) (r9:(List Int)):(Int×(List Bool))->Option ((Int×(List Bool))⊕(((List Bool))⊕(Bool)))
 | (s9b,l7b) =>
  if decide (s9b<(r9.length:Int)) then
   (P.idx r9 s9b).bind fun x28 =>
   (if decide (x28<0) then
    some true
   else
    some (decide (x28>=p0.az))).bind fun s56j5 =>
   if s56j5 then
    some (.inr (.inr false))
   else
    (P.idx r5 x28).bind fun x31 =>
    (if (x31 != (-1)) then
     some true
    else
     (jJ p0 x28).bind fun r37 =>
     (eD r37).bind fun r38 =>
     if (r38 != 0) then
      some true
     else
      if decide (s9b>0) then
       (P.idx r9 (if 0>(IntKind.i64.wrap (s9b-1)) then 0 else IntKind.i64.wrap (s9b-1))).bind fun x41 =>
       some (decide (x41>=x28))
      else
       some false).bind fun s91j6 =>
    if s91j6 then
     some (.inr (.inr false))
    else
     (P.idx l7b x28).bind fun x34 =>
     some (.inl (IntKind.i64.wrap (s9b+1),(l7b.set (x28).toNat true)))
  else
   some (.inr (.inl l7b))
def fZ (p0:cu) (p1:Int) (r5:(List Int)) (l7bx:(List Bool)):(Bool×Int)->Option ((Bool×Int)⊕((Bool)⊕(Bool)))
 | (s10g,s11g) =>
  if decide (s11g<p0.az) then
   (P.idx l7bx s11g).bind fun x55 =>
   (P.idx r5 s11g).bind fun x56 =>
   if (!(x55==(x56==(-1)))) then
    some (.inr (.inr false))
   else
    if s10g then
     (sA .u16 p1 s11g).bind fun x59 =>
     if ((gn .and .u16 x59 1)==0) then
      some (.inl (true,IntKind.i64.wrap (s11g+1)))
     else
      (jJ p0 s11g).bind fun r62 =>
      (eD r62).bind fun r63 =>
      some (.inl ((r63==0),IntKind.i64.wrap (s11g+1)))
    else
     some (.inl (false,IntKind.i64.wrap (s11g+1)))
  else
   some (.inr (.inl s10g))
def gg (p0:cu) (p1:Int) (l7bx:(List Bool)):(Bool×Int)->Option ((Bool×Int)⊕((Bool)⊕(Bool)))
 | (s10h,s12h) =>
  if decide (s12h<(p0.av.length:Int)) then
   (P.idx p0.av s12h).bind fun x79 =>
   (P.idx l7bx x79.bT).bind fun x80 =>
   (if x80 then
    (P.idx l7bx x79.gA).bind fun x90 =>
    some (!x90)
   else
    some false).bind fun s153j10 =>
   if s153j10 then
    some (.inr (.inr false))
   else
    if s10h then
     (sA .u16 p1 x79.bT).bind fun x84 =>
     if ((gn .and .u16 x84 1)==0) then
      some (.inl (true,IntKind.i64.wrap (s12h+1)))
     else
      (sA .u16 p1 x79.gA).bind fun x87 =>
      some (.inl (((gn .and .u16 x87 1)==1),IntKind.i64.wrap (s12h+1)))
    else
     some (.inl (false,IntKind.i64.wrap (s12h+1)))
  else
   some (.inr (.inl s10h))
def eE (p0:cu) (p1:Int) (l7bx:(List Bool)) (s10hx:Bool):(Int)->Option ((Int)⊕((Unit)⊕(Bool)))
 | s14k =>
  (if decide (s14k<p0.az) then
   some s10hx
  else
   some false).bind fun s177j13 =>
  if s177j13 then
   (sA .u16 p1 s14k).bind fun x102 =>
   if ((gn .and .u16 x102 1)==1) then
    (P.idx l7bx s14k).bind fun x105 =>
    if (!x105) then
     some (.inr (.inr false))
    else
     some (.inl (IntKind.i64.wrap (s14k+1)))
   else
    some (.inl (IntKind.i64.wrap (s14k+1)))
  else
   some (.inr (.inl ()))
def fD (p0:cu) (p1:Int):Option (Bool) :=
 (pX).bind fun r1 =>
 (iQ p0).bind fun r2 =>
 (if (!r2) then
  some true
 else
  (gG p0).bind fun r109 =>
  some (!r109)).bind fun s23j1 =>
 if s23j1 then
  some r1
 else
  (fR p0).bind fun r5 =>
  if ((r5.length:Int) != p0.az) then
   some false
  else
   (FJ 1 p0.az p0.az false).bind fun x7 =>
   (gQ p0).bind fun r9 =>
   (bc (eX p0 r5 r9) (0,x7)).bind fun q=>match q with
   | (.inl l7bx) =>
    (bc (fZ p0 p1 r5 l7bx) (true,0)).bind fun q=>match q with
    | (.inl s10gx) =>
     (bc (gg p0 p1 l7bx) (s10gx,0)).bind fun q=>match q with
     | (.inl s10hx) =>
      (bc (eE p0 p1 l7bx s10hx) 0).bind fun q=>match q with
      | (.inl _) =>
       some r1
      | (.inr rk) =>
       some rk
     | (.inr rh) =>
      some rh
    | (.inr rg) =>
     some rg
   | (.inr rb) =>
    some rb
end Go.Proofs.YtmcncjgbkobjnaaGreat.P
namespace Go.Proofs.YtmcncjgbkobjnaaGreat.Am
open Go.RowKit Go.Proofs.YtmcncjgbkobjnaaGreat.P
set_option maxRecDepth 100000
set_option maxHeartbeats 4000000
theorem vmt:type_of% (ai @abT<|ai @Uv<|ai @abU<|ai @abV<|ai @abW<|ai @Zp<|ai @Zq<|ai @KA<|ai @Zr<|ai @Zs<|ai @Zt<|ai @Rr<|ai @Zu<|ai @KB<|ai @Zv<|ai @Zw<|ai @Rs<|ai @Zx<|ai @Rt<|ai @Zy<|ai @Zz<|ai @ZA<|ai @ZB<|ai @ZC<|ai @ZD<|ai @ZE<|ai @ZF<|ai @ZG<|ai @ZH<|ai @ZI<|ai @ZJ<|ai @KC<|ai @Ru<|ai @ZK<|ai @ZL<|ai @ZM<|ai @ZN<|ai @ZO<|ai @ZP<|ai @Ue<|ai @Uf<|ai @Ug<|ai @Uh<|ai @Ui<|ai @Uj<|ai @Uk<|ai @Ul<|ai @Um<|ai @Un<|ai @Uo<|ai @Up<|ai @Uq<|ai @Ur<|ai @Us<|ai @Ut<|@Uu):=⟨@abT,@Uv,@abU,@abV,@abW,@Zp,@Zq,@KA,@Zr,@Zs,@Zt,@Rr,@Zu,@KB,@Zv,@Zw,@Rs,@Zx,@Rt,@Zy,@Zz,@ZA,@ZB,@ZC,@ZD,@ZE,@ZF,@ZG,@ZH,@ZI,@ZJ,@KC,@Ru,@ZK,@ZL,@ZM,@ZN,@ZO,@ZP,@Ue,@Uf,@Ug,@Uh,@Ui,@Uj,@Uk,@Ul,@Um,@Un,@Uo,@Up,@Uq,@Ur,@Us,@Ut,@Uu⟩
def dx:ij ak:=wE (jG (eI .i64) (lf (eI .i64))) (fun x=>(x.ae,x.aa)) (by rintro⟨⟩ ⟨⟩ h;simpa using h)
theorem Ab (x:ak):dx.cells x=[.int .i64 x.ae,.sl false false x.aa.length (ab (eI .i64) x.aa)]:=aiu
theorem CM:dx.size=2:=aiu
theorem Mn (x:ak):ak.mk x.ae x.aa=x:=aiu
def aC:ij ao:=wE (jG dx dx) (fun x=>(x.aZ,x.aY)) (by rintro⟨⟩ ⟨⟩ h;simpa using h)
theorem xv (x:ao):aC.cells x=[.int .i64 x.aZ.ae,.sl false false x.aZ.aa.length (ab (eI .i64) x.aZ.aa),.int .i64 x.aY.ae,.sl false false x.aY.aa.length (ab (eI .i64) x.aY.aa)]:=aiu
theorem Ad:aC.size=4:=aiu
theorem Hh (x:ao):ao.mk x.aZ x.aY=x:=aiu
def eH:ij mQ:=wE (jG (eI .i64) (eI .i64)) (fun x=>(x.j0,x.b6)) (by rintro⟨⟩ ⟨⟩ h;simpa using h)
theorem Ah (x:mQ):eH.cells x=[.int .i64 x.j0,.int .i64 x.b6]:=aiu
theorem CP:eH.size=2:=aiu
theorem Mq (x:mQ):mQ.mk x.j0 x.b6=x:=aiu
def aM:ij bJ:=wE (jG (eI .i64) (jG (eI .i64) aC)) (fun x=>(x.bT,x.gA,x.bF)) (by rintro⟨⟩ ⟨⟩ h;simpa using h)
theorem mW (x:bJ):aM.cells x=[.int .i64 x.bT,.int .i64 x.gA,.int .i64 x.bF.aZ.ae,.sl false false x.bF.aZ.aa.length (ab (eI .i64) x.bF.aZ.aa),.int .i64 x.bF.aY.ae,.sl false false x.bF.aY.aa.length (ab (eI .i64) x.bF.aY.aa)]:=aiu
theorem s9:aM.size=6:=aiu
theorem Hj (x:bJ):bJ.mk x.bT x.gA x.bF=x:=aiu
def pT:ij cu:=wE (jG (eI .i64) (lf aM)) (fun x=>(x.az,x.av)) (by rintro⟨⟩ ⟨⟩ h;simpa using h)
theorem Af (x:cu):pT.cells x=[.int .i64 x.az,.sl false false x.av.length (ab aM x.av)]:=aiu
theorem CN:pT.size=2:=aiu
theorem Mo (x:cu):cu.mk x.az x.av=x:=aiu
def dW:ij BY:=wE (jG (eI .i64) (jG (eI .i64) (jG (eI .i64) ace))) (fun x=>(x.jv,x.gC,x.b6,x.JJ)) (by rintro⟨⟩ ⟨⟩ h;simpa using h)
theorem Ag (x:BY):dW.cells x=[.int .i64 x.jv,.int .i64 x.gC,.int .i64 x.b6,.str x.JJ]:=aiu
theorem CO:dW.size=4:=aiu
theorem Mp (x:BY):BY.mk x.jv x.gC x.b6 x.JJ=x:=aiu
def bj:ij kK:=wE (jG (eI .i64) (jG (eI .i64) (eI .i64))) (fun x=>(x.jv,x.gC,x.b6)) (by rintro⟨⟩ ⟨⟩ h;simpa using h)
theorem s8 (x:kK):bj.cells x=[.int .i64 x.jv,.int .i64 x.gC,.int .i64 x.b6]:=aiu
theorem vS:bj.size=3:=aiu
theorem Ao (x:kK):kK.mk x.jv x.gC x.b6=x:=aiu
def JA:ij kJ:=wE (jG (lf bj) (jG (lf dW) (lf (lf aC)))) (fun x=>(x.aA,x.bh,x.ba)) (by rintro⟨⟩ ⟨⟩ h;simpa using h)
theorem xu (x:kJ):JA.cells x=[.sl false false x.aA.length (ab bj x.aA),.sl false false x.bh.length (ab dW x.bh),.sl false false x.ba.length (ab (lf aC) x.ba)]:=aiu
theorem Ac:JA.size=3:=aiu
theorem Hg (x:kJ):kJ.mk x.aA x.bh x.ba=x:=aiu
def cq:ij hZ:=wE (jG JA (jG (lf eH) (lf (eI .i64)))) (fun x=>(x.aF,x.cK,x.az)) (by rintro⟨⟩ ⟨⟩ h;simpa using h)
theorem xx (x:hZ):cq.cells x=[.sl false false x.aF.aA.length (ab bj x.aF.aA),.sl false false x.aF.bh.length (ab dW x.aF.bh),.sl false false x.aF.ba.length (ab (lf aC) x.aF.ba),.sl false false x.cK.length (ab eH x.cK),.sl false false x.az.length (ab (eI .i64) x.az)]:=aiu
theorem Ae:cq.size=5:=aiu
theorem Hi (x:hZ):hZ.mk x.aF x.cK x.az=x:=aiu
def BB:ij fA:=wE (jG (lf (eI .i64)) (lf cq)) (fun x=>(x.bg,x.aT)) (by rintro⟨⟩ ⟨⟩ h;simpa using h)
theorem vT (x:fA):BB.cells x=[.sl false false x.bg.length (ab (eI .i64) x.bg),.sl false false x.aT.length (ab cq x.aT)]:=aiu
theorem xy:BB.size=2:=aiu
theorem C4 (x:fA):fA.mk x.bg x.aT=x:=aiu
def XD:ij Se:=wE (jG (eI .i64) (eI .i64)) (fun x=>(x.Qe,x.acj)) (by rintro⟨⟩ ⟨⟩ h;simpa using h)
theorem xz (x:Se):XD.cells x=[.int .i64 x.Qe,.int .i64 x.acj]:=aiu
theorem Ai:XD.size=2:=aiu
theorem Hk (x:Se):Se.mk x.Qe x.acj=x:=aiu
def pG:ij KV:=wE (jG (eI .i64) aC) (fun x=>(x.Qf,x.tl)) (by rintro⟨⟩ ⟨⟩ h;simpa using h)
theorem xA (x:KV):pG.cells x=[.int .i64 x.Qf,.int .i64 x.tl.aZ.ae,.sl false false x.tl.aZ.aa.length (ab (eI .i64) x.tl.aZ.aa),.int .i64 x.tl.aY.ae,.sl false false x.tl.aY.aa.length (ab (eI .i64) x.tl.aY.aa)]:=aiu
theorem Aj:pG.size=5:=aiu
theorem Hl (x:KV):KV.mk x.Qf x.tl=x:=aiu
def CQ:ij um:=wE (jG aC (lf pG)) (fun x=>(x.mh,x.BD)) (by rintro⟨⟩ ⟨⟩ h;simpa using h)
theorem pU (x:um):CQ.cells x=[.int .i64 x.mh.aZ.ae,.sl false false x.mh.aZ.aa.length (ab (eI .i64) x.mh.aZ.aa),.int .i64 x.mh.aY.ae,.sl false false x.mh.aY.aa.length (ab (eI .i64) x.mh.aY.aa),.sl false false x.BD.length (ab pG x.BD)]:=aiu
theorem sb:CQ.size=5:=aiu
theorem vU (x:um):um.mk x.mh x.BD=x:=aiu
def SV:ij Jn:=wE (jG (eI .i64) aC) (fun x=>(x.b6,x.mg)) (by rintro⟨⟩ ⟨⟩ h;simpa using h)
theorem vR (x:Jn):SV.cells x=[.int .i64 x.b6,.int .i64 x.mg.aZ.ae,.sl false false x.mg.aZ.aa.length (ab (eI .i64) x.mg.aZ.aa),.int .i64 x.mg.aY.ae,.sl false false x.mg.aY.aa.length (ab (eI .i64) x.mg.aY.aa)]:=aiu
theorem xw:SV.size=5:=aiu
theorem C3 (x:Jn):Jn.mk x.b6 x.mg=x:=aiu
theorem abv {l:List _} : (ab (eI .i64) l).length=l.length*1:=bx _ l
theorem Rw {l:List _} : (ab (eI .i64) l).take (l.length*1)=ab (eI .i64) l:=by
 have:=eW (eI .i64) l l.length
 rw[ahS]at this
 exact this
theorem ZQ {l:List _} {i:Nat} {x:_} : (ab (eI .i64) (l.set i x)).take (l.length*1)=ab (eI .i64) (l.set i x):=by
 have:=@Rw (l.set i x)
 rwa [ahR]at this
theorem abw {l:List _} : (ab (Fe (eI .i64)) l).length=l.length*1:=bx _ l
theorem Rx {l:List _} : (ab (Fe (eI .i64)) l).take (l.length*1)=ab (Fe (eI .i64)) l:=by
 have:=eW (Fe (eI .i64)) l l.length
 rw[ahS]at this
 exact this
theorem ZR {l:List _} {i:Nat} {x:_} : (ab (Fe (eI .i64)) (l.set i x)).take (l.length*1)=ab (Fe (eI .i64)) (l.set i x):=by
 have:=@Rx (l.set i x)
 rwa [ahR]at this
theorem abx {l:List _} : (ab (lf (eI .i64)) l).length=l.length*1:=bx _ l
theorem Ry {l:List _} : (ab (lf (eI .i64)) l).take (l.length*1)=ab (lf (eI .i64)) l:=by
 have:=eW (lf (eI .i64)) l l.length
 rw[ahS]at this
 exact this
theorem ZS {l:List _} {i:Nat} {x:_} : (ab (lf (eI .i64)) (l.set i x)).take (l.length*1)=ab (lf (eI .i64)) (l.set i x):=by
 have:=@Ry (l.set i x)
 rwa [ahR]at this
theorem aby {l:List _} : (ab (lf aC) l).length=l.length*1:=bx _ l
theorem Rz {l:List _} : (ab (lf aC) l).take (l.length*1)=ab (lf aC) l:=by
 have:=eW (lf aC) l l.length
 rw[ahS]at this
 exact this
theorem ZT {l:List _} {i:Nat} {x:_} : (ab (lf aC) (l.set i x)).take (l.length*1)=ab (lf aC) (l.set i x):=by
 have:=@Rz (l.set i x)
 rwa [ahR]at this
theorem abz {l:List _} : (ab gN l).length=l.length*1:=bx _ l
theorem RA {l:List _} : (ab gN l).take (l.length*1)=ab gN l:=by
 have:=eW gN l l.length
 rw[ahS]at this
 exact this
theorem ZU {l:List _} {i:Nat} {x:_} : (ab gN (l.set i x)).take (l.length*1)=ab gN (l.set i x):=by
 have:=@RA (l.set i x)
 rwa [ahR]at this
theorem abA {l:List _} : (ab aC l).length=l.length*4:=bx _ l
theorem RB {l:List _} : (ab aC l).take (l.length*4)=ab aC l:=by
 have:=eW aC l l.length
 rw[ahS]at this
 exact this
theorem ZV {l:List _} {i:Nat} {x:_} : (ab aC (l.set i x)).take (l.length*4)=ab aC (l.set i x):=by
 have:=@RB (l.set i x)
 rwa [ahR]at this
theorem abB {l:List _} : (ab cq l).length=l.length*5:=bx _ l
theorem RD {l:List _} : (ab cq l).take (l.length*5)=ab cq l:=by
 have:=eW cq l l.length
 rw[ahS]at this
 exact this
theorem ZW {l:List _} {i:Nat} {x:_} : (ab cq (l.set i x)).take (l.length*5)=ab cq (l.set i x):=by
 have:=@RD (l.set i x)
 rwa [ahR]at this
theorem abC {l:List _} : (ab dW l).length=l.length*4:=bx _ l
theorem RE {l:List _} : (ab dW l).take (l.length*4)=ab dW l:=by
 have:=eW dW l l.length
 rw[ahS]at this
 exact this
theorem ZX {l:List _} {i:Nat} {x:_} : (ab dW (l.set i x)).take (l.length*4)=ab dW (l.set i x):=by
 have:=@RE (l.set i x)
 rwa [ahR]at this
theorem abD {l:List _} : (ab bj l).length=l.length*3:=bx _ l
theorem RF {l:List _} : (ab bj l).take (l.length*3)=ab bj l:=by
 have:=eW bj l l.length
 rw[ahS]at this
 exact this
theorem ZY {l:List _} {i:Nat} {x:_} : (ab bj (l.set i x)).take (l.length*3)=ab bj (l.set i x):=by
 have:=@RF (l.set i x)
 rwa [ahR]at this
theorem abE {l:List _} : (ab aM l).length=l.length*6:=bx _ l
theorem RG {l:List _} : (ab aM l).take (l.length*6)=ab aM l:=by
 have:=eW aM l l.length
 rw[ahS]at this
 exact this
theorem ZZ {l:List _} {i:Nat} {x:_} : (ab aM (l.set i x)).take (l.length*6)=ab aM (l.set i x):=by
 have:=@RG (l.set i x)
 rwa [ahR]at this
theorem X9 {l:List _} : (ab eH l).length=l.length*2:=bx _ l
theorem KD {l:List _} : (ab eH l).take (l.length*2)=ab eH l:=by
 have:=eW eH l l.length
 rw[ahS]at this
 exact this
theorem Uw {l:List _} {i:Nat} {x:_} : (ab eH (l.set i x)).take (l.length*2)=ab eH (l.set i x):=by
 have:=@KD (l.set i x)
 rwa [ahR]at this
theorem Ya {l:List _} : (ab pG l).length=l.length*5:=bx _ l
theorem KE {l:List _} : (ab pG l).take (l.length*5)=ab pG l:=by
 have:=eW pG l l.length
 rw[ahS]at this
 exact this
theorem Ux {l:List _} {i:Nat} {x:_} : (ab pG (l.set i x)).take (l.length*5)=ab pG (l.set i x):=by
 have:=@KE (l.set i x)
 rwa [ahR]at this
theorem vme:type_of% (ai @xr<|ai @Aa<|ai @CL<|ai @G3<|ai @SU<|ai @CJ<|ai @G4<|ai @Md<|ai @xB<|ai @uz<|ai @xt<|ai @Ab<|ai @CM<|ai @xv<|ai @Ad<|ai @Ah<|ai @CP<|ai @mW<|ai @s9<|ai @Af<|ai @CN<|ai @Ag<|ai @CO<|ai @s8<|ai @vS<|ai @xu<|ai @Ac<|ai @xx<|ai @Ae<|ai @vT<|ai @xy<|ai @xz<|ai @Ai<|ai @xA<|ai @Aj<|ai @pU<|ai @sb<|ai @vR<|@xw):=⟨@xr,@Aa,@CL,@G3,@SU,@CJ,@G4,@Md,@xB,@uz,@xt,@Ab,@CM,@xv,@Ad,@Ah,@CP,@mW,@s9,@Af,@CN,@Ag,@CO,@s8,@vS,@xu,@Ac,@xx,@Ae,@vT,@xy,@xz,@Ai,@xA,@Aj,@pU,@sb,@vR,@xw⟩
theorem vml:type_of% (ai @bo<|ai @Mn<|ai @Hh<|ai @Mq<|ai @Hj<|ai @Mo<|ai @Mp<|ai @Ao<|ai @Hg<|ai @Hi<|ai @C4<|ai @Hk<|ai @Hl<|ai @vU<|ai @C3<|ai @abv<|ai @Rw<|ai @ZQ<|ai @abw<|ai @Rx<|ai @ZR<|ai @abx<|ai @Ry<|ai @ZS<|ai @aby<|ai @Rz<|ai @ZT<|ai @abz<|ai @RA<|ai @ZU<|ai @abA<|ai @RB<|ai @ZV<|ai @abB<|ai @RD<|ai @ZW<|ai @abC<|ai @RE<|ai @ZX<|ai @abD<|ai @RF<|ai @ZY<|ai @abE<|ai @RG<|ai @ZZ<|ai @X9<|ai @KD<|ai @Uw<|ai @Ya<|ai @KE<|@Ux):=⟨@bo,@Mn,@Hh,@Mq,@Hj,@Mo,@Mp,@Ao,@Hg,@Hi,@C4,@Hk,@Hl,@vU,@C3,@abv,@Rw,@ZQ,@abw,@Rx,@ZR,@abx,@Ry,@ZS,@aby,@Rz,@ZT,@abz,@RA,@ZU,@abA,@RB,@ZV,@abB,@RD,@ZW,@abC,@RE,@ZX,@abD,@RF,@ZY,@abE,@RG,@ZZ,@X9,@KD,@Uw,@Ya,@KE,@Ux⟩
theorem R1:UF tab ⟨.map 117 42,1,8,[.map none],false⟩ true (.agg [.int .i64 0,.sl false false 0 [],.int .i64 0,.sl false false 0 []]):=⟨_,_,rfl,rfl,rfl,rfl⟩
theorem Yc {h:Nat->Option Row} {m:D} {n n2:Int} {ok:Bool} : fv tab ⟨.map 117 42,1,8,[.map none],false⟩ h m (.agg [.int .i64 n,.int .i64 n2]) ok=lkE true ok (.agg [.int .i64 0,.sl false false 0 [],.int .i64 0,.sl false false 0 []]) (n,some n2) (mapOf h m):=acu R1 rfl
theorem Yr {h:Nat->Option Row} {y v:Nat} {n n2:Int} {x:D} : cj tab ⟨.map 117 42,1,8,[.map none],false⟩ h (.mp y v) (.agg [.int .i64 n,.int .i64 n2]) x=muE true h y v (n,some n2) (sC h x):=acz R1 rfl
theorem Yo {ty e d:Nat} (hty:ty<900000):VQ tab (some ⟨.map 117 42,1,8,[.map none],false⟩) ty e d=some ⟨.mp d e,[(d,some ⟨e,ty,[.mpc [] []],false,true,true⟩)]⟩:=aaL R1 hty
theorem Tt {m:List ((Int×Int)×ao)} {n n2:Int} : og (.agg [.int .i64 0,.sl false false 0 [],.int .i64 0,.sl false false 0 []]) (dm m) (fa (bM aC) m) (n,some n2)=.agg [.int .i64 (((tz (ao.mk (ak.mk 0 ([])) (ak.mk 0 ([]))) m (n,n2)).aZ).ae),.sl false false (((tz (ao.mk (ak.mk 0 ([])) (ak.mk 0 ([]))) m (n,n2)).aZ).aa).length (ab (eI .i64) (((tz (ao.mk (ak.mk 0 ([])) (ak.mk 0 ([]))) m (n,n2)).aZ).aa)),.int .i64 (((tz (ao.mk (ak.mk 0 ([])) (ak.mk 0 ([]))) m (n,n2)).aY).ae),.sl false false (((tz (ao.mk (ak.mk 0 ([])) (ak.mk 0 ([]))) m (n,n2)).aY).aa).length (ab (eI .i64) (((tz (ao.mk (ak.mk 0 ([])) (ak.mk 0 ([]))) m (n,n2)).aY).aa))]:=HL (A:=(bM aC)) (ao.mk (ak.mk 0 ([])) (ak.mk 0 ([]))) (n,n2) m
theorem Uz {m:List ((Int×Int)×ao)} {n n2:Int} {v0:Int} {v1:(List Int)} {v2:Int} {v3:(List Int)} : D.mpc (wO (dm m) (n,some n2)) (Bq (dm m) (fa (bM aC) m) (n,some n2) (.agg [.int .i64 v0,.sl false false v1.length (ab (eI .i64) v1),.int .i64 v2,.sl false false v3.length (ab (eI .i64) v3)]))=.mpc (dm (Ko m (n,n2) (ao.mk (ak.mk v0 v1) (ak.mk v2 v3)))) (fa (bM aC) (Ko m (n,n2) (ao.mk (ak.mk v0 v1) (ak.mk v2 v3)))):=by
 rw[<- OI (n,n2) (ao.mk (ak.mk v0 v1) (ak.mk v2 v3)) m,<- OK (n,n2) (ao.mk (ak.mk v0 v1) (ak.mk v2 v3)) m]
 rfl
theorem Yj {e d:Nat} (hd:d<1000000):mkA ⟨.struct [(3,0),(26,1)],2,32,[.int .i64 0,.slice none 0 0],false⟩ 28 e d 63 6 1=some ⟨.ptr d e 0,[(d,some ⟨e,28,[.nr 63 6 (4*e+2) [.int .i64 0,.nx 0 []]],false,false,true⟩)]⟩:=by
 unfold mkA
 rw[if_pos ⟨by decide,rfl,rfl,by rw[bZ];exact hd,rfl⟩]
 rfl
theorem vmm:type_of% (ai @Yc<|ai @Yr<|ai @Yo<|ai @Tt<|ai @Uz<|@vi):=⟨@Yc,@Yr,@Yo,@Tt,@Uz,@vi⟩
theorem w:type_of% (ai @v<|ai @vmt<|ai @vme<|ai @vml<|ai @vn<|ai @Yj<|@vmm):=⟨@v,@vmt,@vme,@vml,@vn,@Yj,@vmm⟩
theorem bN:type_of% (ai @vme<|ai @ahJ<|ai @ahA<|ai @agj<|ai @ahK<|@ahj):=⟨@vme,@ahJ,@ahA,@agj,@ahK,@ahj⟩
def jZ:=fb (eU (pE (eI .i64))) (fun x:(List Int)=>iP x) (fun r:(List Int) =>.clean (.sl false false r.length (ab (eI .i64) r)))
theorem fE (p0:(List Int)):jZ none [.sl false false p0.length (ab (eI .i64) p0)]=(iP p0).map fun r:(List Int)=>(.clean (.sl false false r.length (ab (eI .i64) r)),none):=aJ _ _ _ (p0)
theorem QY (p0:(List Int)) (r:(List Int)) (hh:iP p0=some r):aW .clean tab a7 FU Tryz.f200 none [.sl false false p0.length (ab (eI .i64) p0)]=some (.clean (.sl false false r.length (ab (eI .i64) r)),none):=by
 apply aB rfl ntmps200 results200
 unfold iP at hh
 try simp only[w,seval]
 obtain⟨o4,ho4,hh⟩:=ah hh
 refine ay (fun s t H e=>match s with|s3a=>t 0=.sl false false p0.length (ab (eI .i64) p0)∧t 3=.int .i64 s3a) (fun o x t H e=>match o with|s3ax=>x=.exit 0∧t 0=.sl false false p0.length (ab (eI .i64) p0)∧t 3=.int .i64 s3ax) ho4 ?_ ?_ ?_
 ·and_intros<;>first|rfl|(simp only[w,seval]<;>rfl)
 ·rintro s3a t H e Za c hh
  simp only[AV]at hh
  try simp only[w,seval,Za]
  apply sp cY hh<;>intro _ hh
  ·obtain⟨x6,hx6,hh⟩:=ah hh
   have ax6:=bm (eI .i64) hx6
   simp only[bN]at ax6
   try simp only[w,seval,Za,ax6]
   apply sp al hh<;>intro _ hh
   ·cases hh
    try simp only[w,seval,Za]
    apply gL
    and_intros<;>first|rfl|(simp only[w,seval,Za]<;>rfl)
   ·cases hh
    try simp only[w,seval]
    apply jr
    refine⟨rfl,?_⟩
    and_intros<;>first|rfl|(simp only[w,seval,Za]<;>rfl)
  ·cases hh
   try simp only[w,seval]
   apply jr
   refine⟨rfl,?_⟩
   and_intros<;>first|rfl|(simp only[w,seval,Za]<;>rfl)
 ·rintro x t H e hx
  obtain⟨s3ax,rfl⟩:∃z,z=o4:=⟨_,rfl⟩
  dsimp only at hx hh
  obtain⟨rfl,Zax⟩:=hx
  obtain⟨x8,hx8,hh⟩:=ah hh
  obtain⟨q9a,q9b,q9c,q9d,q9e⟩:=Kx (eI .i64) hx8
  simp only[bN]at q9e
  obtain⟨x10,hx10,hh⟩:=ah hh
  obtain⟨q11a,q11b,q11c⟩:=Bx hx10
  replace q11a:=q11a.symm
  subst q11a
  cases hh
  try simp only[w,seval,Zax,q9a,q9c,q9d,q9e,q11b,q11c]
theorem mv:bP prog 200 jZ:=bP.gr (mode := .clean) tok bA.none mixed func200 (by kernel_rfl) (fun _=>by kernel_rfl) (fun x r h=>QY x r h)
def iF:=fb (jO (aI .i64) (eU (pE (eI .i64)))) (fun x:Int×(List Int)=>fF x.1 x.2) (fun r:ak =>.clean (.agg [.int .i64 r.ae,.sl false false r.aa.length (ab (eI .i64) r.aa)]))
theorem ff (p0:Int) (p1:(List Int)):iF none [.int .i64 p0,.sl false false p1.length (ab (eI .i64) p1)]=(fF p0 p1).map fun r:ak=>(.clean (.agg [.int .i64 r.ae,.sl false false r.aa.length (ab (eI .i64) r.aa)]),none):=aJ _ _ _ (p0,p1)
def rm:Env:=(Am.ext a7 200 false jZ)
theorem ML:bA prog rm:=(bA.none.add mv false)
theorem wV:type_of% (ai @w<|ai @fE<|@rm.eq_1):=⟨@w,@fE,@rm.eq_1⟩
theorem QV (p0:Int) (p1:(List Int)) (r:ak) (hh:fF p0 p1=some r):aW .clean tab rm FU Tryz.f156 none [.int .i64 p0,.sl false false p1.length (ab (eI .i64) p1)]=some (.clean (.agg [.int .i64 r.ae,.sl false false r.aa.length (ab (eI .i64) r.aa)]),none):=by
 apply aB rfl ntmps156 results156
 unfold fF at hh
 obtain⟨r1,hr1,hh⟩:=ah hh
 try simp only[wV,seval,hr1]
 apply sp al hh<;>intro _ hh
 ·cases hh
  try simp only[wV,seval]
 ·cases hh
  try simp only[wV,seval]
theorem ku:bP prog 156 iF:=bP.gr (mode := .clean) tok ML mixed func156 (by kernel_rfl) (fun _=>by kernel_rfl) (fun x r h=>QV x.1 x.2 r h)
def w8:=fb (eU (aI .i64)) (fun x:Int=>wQ x) (fun r:ak =>.clean (.agg [.int .i64 r.ae,.sl false false r.aa.length (ab (eI .i64) r.aa)]))
theorem yl (p0:Int):w8 none [.int .i64 p0]=(wQ p0).map fun r:ak=>(.clean (.agg [.int .i64 r.ae,.sl false false r.aa.length (ab (eI .i64) r.aa)]),none):=aJ _ _ _ (p0)
def xH:Env:=(Am.ext a7 156 false iF)
theorem Va:bA prog xH:=(bA.none.add ku false)
theorem eh:type_of% (ai @w<|ai @ff<|@xH.eq_1):=⟨@w,@ff,@xH.eq_1⟩
theorem Yh (p0:Int) (r:ak) (hh:wQ p0=some r):aW .clean tab xH FU Tryz.f95 none [.int .i64 p0]=some (.clean (.agg [.int .i64 r.ae,.sl false false r.aa.length (ab (eI .i64) r.aa)]),none):=by
 apply aB rfl ntmps95 results95
 unfold wQ at hh
 try simp only[eh,seval]
 apply sp al hh<;>intro _ hh
 ·cases hh
  try simp only[eh,seval]
 ·try simp only[eh,seval]
  obtain⟨o2,ho2,hh⟩:=ah hh
  refine jN 0 (fun s t H e=>match s with|s3j1=>∃v2j1:Nat,t 0=.int .i64 p0∧t 2=.ptr 2 v2j1 0∧t 3=.int .i64 s3j1∧H 2=some ⟨v2j1,40,[.int .i64 0,.sl true true 0 []],false,false,false⟩) (fun s=>s=o2) ?_ ?_
  ·rintro s3j1 t H e ⟨v2j1,Zj1⟩ rfl
   try dsimp only at hh
   try simp only[eh,seval]
   obtain⟨o15,ho15,hh⟩:=ah hh
   refine ay (fun s t H e=>match s with|(s0b,l4b)=>∃v2b:Nat,∃v4b:Nat,t 0=.int .i64 s0b∧t 2=.ptr 2 v2b 0∧t 3=.int .i64 s3j1∧t 4=.buf 4 v4b 1 0 (l4b).length∧H 2=some ⟨v2b,40,[.int .i64 0,.sl true true 0 []],false,false,false⟩∧H 4=some ⟨v4b,3,ab (eI .i64) l4b,false,true,false⟩) (fun o x t H e=>match o with|l4bx=>x=.exit 0∧∃v2bx:Nat,∃v4bx:Nat,t 2=.ptr 2 v2bx 0∧t 3=.int .i64 s3j1∧t 4=.buf 4 v4bx 1 0 (l4bx).length∧H 2=some ⟨v2bx,40,[.int .i64 0,.sl true true 0 []],false,false,false⟩∧H 4=some ⟨v4bx,3,ab (eI .i64) l4bx,false,true,false⟩) ho15 ?_ ?_ ?_
   ·refine⟨v2j1,e,?_⟩
    and_intros<;>first|rfl|(simp only[eh,seval,Zj1]<;>rfl)
   ·rintro⟨s0b,l4b⟩ t H e ⟨v2b,v4b,Zb⟩ c hh
    simp only[It]at hh
    try simp only[eh,seval,Zb]
    apply sp al hh<;>intro _ hh
    ·obtain⟨x17,hx17,hh⟩:=ah hh
     have q18:=xS hx17
     try simp only[eh,seval,Zb,q18]
     apply sp al hh<;>intro _ hh
     ·obtain⟨x20,hx20,hh⟩:=ah hh
      obtain⟨q21a,q21b,q21c,q21d⟩:=gV (eI .i64) hx20
      simp only[bN]at q21b
      obtain⟨x22,hx22,hh⟩:=ah hh
      have q23:=qU hx22
      cases hh
      try simp only[eh,seval,Zb,q18,q21a,q21b,q21c,q21d,q23]
      apply gL
      refine⟨v2b,e+1+1+1+1,?_⟩
      and_intros<;>first|rfl|(simp only[eh,seval,Zb]<;>rfl)
     ·obtain⟨x24,hx24,hh⟩:=ah hh
      obtain⟨q25a,q25b,q25c,q25d⟩:=gV (eI .i64) hx24
      simp only[bN]at q25b
      obtain⟨x26,hx26,hh⟩:=ah hh
      have q27:=qU hx26
      cases hh
      try simp only[eh,seval,Zb,q18,q25a,q25b,q25c,q25d,q27]
      apply gL
      refine⟨v2b,e+1+1+1,?_⟩
      and_intros<;>first|rfl|(simp only[eh,seval,Zb]<;>rfl)
    ·cases hh
     try simp only[eh,seval]
     apply jr
     refine⟨rfl,⟨v2b,v4b,?_⟩⟩
     and_intros<;>first|rfl|(simp only[eh,seval,Zb]<;>rfl)
   ·rintro x t H e hx
    obtain⟨l4bx,rfl⟩:∃z,z=o15:=⟨_,rfl⟩
    dsimp only at hx hh
    obtain⟨rfl,⟨v2bx,v4bx,Zbx⟩⟩:=hx
    obtain⟨r28,hr28,hh⟩:=ah hh
    cases hh
    try simp only[eh,seval,Zbx,hr28]
  ·clear hh
   have hh:=ho2
   try simp only[eh,seval]
   apply sp al hh<;>intro _ hh
   ·cases hh
    try simp only[eh,seval]
    rw[an]
    refine⟨_,rfl,?_⟩
    refine⟨0,?_⟩
    and_intros<;>first|rfl|(simp only[eh,seval]<;>rfl)
   ·cases hh
    try simp only[eh,seval]
    rw[an]
    refine⟨_,rfl,?_⟩
    refine⟨0,?_⟩
    and_intros<;>first|rfl|(simp only[eh,seval]<;>rfl)
theorem H8:bP prog 95 w8:=bP.gr (mode := .clean) tok Va mixed func95 (by kernel_rfl) (fun _=>by kernel_rfl) (fun x r h=>Yh x r h)
def eO:=fb (eU (bM dx)) (fun x:ak=>cU x) (fun r:Bool =>.clean (.bool r))
theorem ch (p0_0:Int) (p0_1:(List Int)):eO none [.agg [.int .i64 p0_0,.sl false false p0_1.length (ab (eI .i64) p0_1)]]=(cU (ak.mk p0_0 p0_1)).map fun r:Bool=>(.clean (.bool r),none):=aJ _ _ _ ((ak.mk p0_0 p0_1))
theorem NT (p0:ak) (r:Bool) (hh:cU p0=some r):aW .clean tab a7 FU Tryz.f144 none [.agg [.int .i64 p0.ae,.sl false false p0.aa.length (ab (eI .i64) p0.aa)]]=some (.clean (.bool r),none):=by
 apply aB rfl ntmps144 results144
 unfold cU at hh
 try simp only[w,seval]
 obtain⟨o5,ho5,hh⟩:=ah hh
 refine ay (fun s t H e=>match s with|s3a=>∃v1a:Nat,t 1=.ptr 1 v1a 0∧t 3=.int .i64 s3a∧H 1=some ⟨v1a,40,[.int .i64 p0.ae,.sl false false p0.aa.length (ab (eI .i64) p0.aa)],false,false,false⟩) (fun o x t H e=>match o with|(.inl _)=>x=.exit 0∧∃v1ax:Nat,t 1=.ptr 1 v1ax 0∧H 1=some ⟨v1ax,40,[.int .i64 p0.ae,.sl false false p0.aa.length (ab (eI .i64) p0.aa)],false,false,false⟩|(.inr r)=>x=.ret∧eR .clean tab none [.tmp 2] ⟨t,EH H,e⟩=some (.clean (.bool r),none)) ho5 ?_ ?_ ?_
 ·refine⟨0,?_⟩
  and_intros<;>first|rfl|(simp only[w,seval]<;>rfl)
 ·rintro s3a t H e ⟨v1a,Za⟩ c hh
  simp only[yp]at hh
  try simp only[w,seval,Za]
  apply sp al hh<;>intro _ hh
  ·obtain⟨x7,hx7,hh⟩:=ah hh
   have ax7:=bm (eI .i64) hx7
   simp only[bN]at ax7
   try simp only[w,seval,Za,ax7]
   apply sp aN hh<;>intro _ hh
   ·cases hh
    try simp only[w,seval]
    refine rz ⟨rfl,?_⟩
    try simp only[w,seval]
   ·have ax7:=bm (eI .i64) hx7
    simp only[bN]at ax7
    try simp only[w,seval,Za,ax7]
    apply sp al hh<;>intro _ hh
    ·cases hh
     try simp only[w,seval]
     refine rz ⟨rfl,?_⟩
     try simp only[w,seval]
    ·cases hh
     try simp only[w,seval,Za]
     apply gL
     refine⟨v1a,?_⟩
     and_intros<;>first|rfl|(simp only[w,seval,Za]<;>rfl)
  ·cases hh
   try simp only[w,seval]
   apply jr
   refine⟨rfl,⟨v1a,?_⟩⟩
   and_intros<;>first|rfl|(simp only[w,seval,Za]<;>rfl)
 ·rintro x t H e hx
  rcases o5 with _|ra
  ·dsimp only at hx hh
   obtain⟨rfl,⟨v1ax,Zax⟩⟩:=hx
   try simp only[w,seval,Zax]
   obtain⟨o10,ho10,hh⟩:=ah hh
   refine bs 0 (fun s t H e=>match s with|s44j2=>∃v1j2:Nat,t 1=.ptr 1 v1j2 0∧t 4=.int .i64 (p0.aa.length:Int)∧t 44=.bool s44j2∧H 1=some ⟨v1j2,40,[.int .i64 p0.ae,.sl false false p0.aa.length (ab (eI .i64) p0.aa)],false,false,false⟩) (fun s=>s=o10) ?_ ?_
   ·rintro s44j2 t H e ⟨v1j2,Zj2⟩ rfl
    try dsimp only at hh
    try simp only[w,seval,Zj2]
    apply sp al hh<;>intro _ hh
    ·cases hh
     try simp only[w,seval]
    ·try simp only[w,seval,Zj2]
     apply sp aN hh<;>intro _ hh
     ·cases hh
      try simp only[w,seval]
     ·obtain⟨x13,hx13,hh⟩:=ah hh
      have ax13:=bm (eI .i64) hx13
      simp only[bN]at ax13
      cases hh
      try simp only[w,seval,Zj2,ax13]
   ·clear hh
    have hh:=ho10
    try simp only[w,seval]
    apply sp aN hh<;>intro _ hh
    ·cases hh
     try simp only[w,seval]
     rw[an]
     refine⟨_,rfl,?_⟩
     refine⟨v1ax,?_⟩
     and_intros<;>first|rfl|(simp only[w,seval,Zax]<;>rfl)
    ·try simp only[w,seval,Zax]
     apply sp aN hh<;>intro _ hh
     ·cases hh
      try simp only[w,seval]
      rw[an]
      refine⟨_,rfl,?_⟩
      refine⟨v1ax,?_⟩
      and_intros<;>first|rfl|(simp only[w,seval,Zax]<;>rfl)
     ·cases hh
      try simp only[w,seval,Zax]
      rw[an]
      refine⟨_,rfl,?_⟩
      refine⟨v1ax,?_⟩
      and_intros<;>first|rfl|(simp only[w,seval,Zax]<;>rfl)
  ·dsimp only at hx hh
   obtain⟨rfl,hE⟩:=hx
   cases hh
   try simp only[aU,bd,b7,b5]
   exact hE
theorem fu:bP prog 144 eO:=bP.gr (mode := .clean) tok bA.none mixed func144 (by kernel_rfl) (fun _=>by kernel_rfl) (fun x r h=>NT x r h)
def ug:=fb (eU (bM dx)) (fun x:ak=>rN x) (fun r:ak =>.clean (.agg [.int .i64 r.ae,.sl false false r.aa.length (ab (eI .i64) r.aa)]))
theorem vb (p0_0:Int) (p0_1:(List Int)):ug none [.agg [.int .i64 p0_0,.sl false false p0_1.length (ab (eI .i64) p0_1)]]=(rN (ak.mk p0_0 p0_1)).map fun r:ak=>(.clean (.agg [.int .i64 r.ae,.sl false false r.aa.length (ab (eI .i64) r.aa)]),none):=aJ _ _ _ ((ak.mk p0_0 p0_1))
def uU:Env:=(Am.ext (Am.ext a7 144 false eO) 156 false iF)
theorem Qy:bA prog uU:=((bA.none.add fu false).add ku false)
theorem zG:type_of% (ai @w<|ai @ch<|ai @ff<|@uU.eq_1):=⟨@w,@ch,@ff,@uU.eq_1⟩
theorem VI (p0:ak) (r:ak) (hh:rN p0=some r):aW .clean tab uU FU Tryz.f154 none [.agg [.int .i64 p0.ae,.sl false false p0.aa.length (ab (eI .i64) p0.aa)]]=some (.clean (.agg [.int .i64 r.ae,.sl false false r.aa.length (ab (eI .i64) r.aa)]),none):=by
 apply aB rfl ntmps154 results154
 unfold rN at hh
 obtain⟨r1,hr1,hh⟩:=ah hh
 try simp only[zG,seval,hr1]
 apply sp al hh<;>intro _ hh
 ·cases hh
  try simp only[zG,seval]
 ·obtain⟨r3,hr3,hh⟩:=ah hh
  cases hh
  try simp only[zG,seval,hr3]
theorem Ee:bP prog 154 ug:=bP.gr (mode := .clean) tok Qy mixed func154 (by kernel_rfl) (fun _=>by kernel_rfl) (fun x r h=>VI x r h)
def kl:=fb (jO (pE (eI .i64)) (eU (aI .i64))) (fun x:(List Int)×Int=>iy x.1 x.2) (fun r:Int =>.clean (.int .i64 r))
theorem gS (p0:(List Int)) (p1:Int):kl none [.sl false false p0.length (ab (eI .i64) p0),.int .i64 p1]=(iy p0 p1).map fun r:Int=>(.clean (.int .i64 r),none):=aJ _ _ _ (p0,p1)
theorem NU (p0:(List Int)) (p1:Int) (r:Int) (hh:iy p0 p1=some r):aW .clean tab a7 FU Tryz.f217 none [.sl false false p0.length (ab (eI .i64) p0),.int .i64 p1]=some (.clean (.int .i64 r),none):=by
 apply aB rfl ntmps217 results217
 unfold iy at hh
 try simp only[w,seval]
 apply sp al hh<;>intro _ hh
 ·obtain⟨x2,hx2,hh⟩:=ah hh
  have ax2:=bm (eI .i64) hx2
  simp only[bN]at ax2
  cases hh
  try simp only[w,seval,ax2]
 ·cases hh
  try simp only[w,seval]
theorem nw:bP prog 217 kl:=bP.gr (mode := .clean) tok bA.none mixed func217 (by kernel_rfl) (fun _=>by kernel_rfl) (fun x r h=>NU x.1 x.2 r h)
def oK:=fb (jO (pE (eI .i64)) (eU (pE (eI .i64)))) (fun x:(List Int)×(List Int)=>lF x.1 x.2) (fun r:(List Int) =>.clean (.sl false false r.length (ab (eI .i64) r)))
theorem mw (p0:(List Int)) (p1:(List Int)):oK none [.sl false false p0.length (ab (eI .i64) p0),.sl false false p1.length (ab (eI .i64) p1)]=(lF p0 p1).map fun r:(List Int)=>(.clean (.sl false false r.length (ab (eI .i64) r)),none):=aJ _ _ _ (p0,p1)
def o0:Env:=(Am.ext (Am.ext a7 200 false jZ) 217 false kl)
theorem JW:bA prog o0:=((bA.none.add mv false).add nw false)
theorem bS:type_of% (ai @w<|ai @fE<|ai @gS<|@o0.eq_1):=⟨@w,@fE,@gS,@o0.eq_1⟩
theorem NW (p0:(List Int)) (p1:(List Int)) (r:(List Int)) (hh:lF p0 p1=some r):aW .clean tab o0 FU Tryz.f201 none [.sl false false p0.length (ab (eI .i64) p0),.sl false false p1.length (ab (eI .i64) p1)]=some (.clean (.sl false false r.length (ab (eI .i64) r)),none):=by
 apply aB rfl ntmps201 results201
 unfold lF at hh
 obtain⟨x1,hx1,hh⟩:=ah hh
 obtain⟨q2a,q2b,q2c,q2d,q2e⟩:=mk_one (eI .i64) hx1
 simp only[bN]at q2d
 try simp only[bS,seval,q2a,q2b,q2c,q2d,q2e]
 obtain⟨o27,ho27,hh⟩:=ah hh
 refine ay (fun s t H e=>match s with|(s6a,l5a)=>∃v5a:Nat,t 0=.sl false false p0.length (ab (eI .i64) p0)∧t 1=.sl false false p1.length (ab (eI .i64) p1)∧t 5=.buf 5 v5a 1 0 (l5a).length∧t 6=.int .i64 s6a∧H 5=some ⟨v5a,3,ab (eI .i64) l5a,false,true,false⟩) (fun o x t H e=>match o with|l5ax=>x=.exit 0∧∃v5ax:Nat,t 5=.buf 5 v5ax 1 0 (l5ax).length∧H 5=some ⟨v5ax,3,ab (eI .i64) l5ax,false,true,false⟩) ho27 ?_ ?_ ?_
 ·refine⟨1,?_⟩
  and_intros<;>first|rfl|(simp only[bS,seval,q2a,q2b,q2c,q2d,q2e]<;>rfl)
 ·rintro⟨s6a,l5a⟩ t H e ⟨v5a,Za⟩ c hh
  simp only[yu]at hh
  try simp only[bS,seval,Za]
  apply sp al hh<;>intro _ hh
  ·try simp only[bS,seval]
   obtain⟨o40,ho40,hh⟩:=ah hh
   refine ay (fun s t H e=>match s with|(s7e,s8e,l5e)=>∃v5e:Nat,t 0=.sl false false p0.length (ab (eI .i64) p0)∧t 1=.sl false false p1.length (ab (eI .i64) p1)∧t 5=.buf 5 v5e 1 0 (l5e).length∧t 6=.int .i64 s6a∧t 7=.int .i64 s7e∧t 8=.int .i64 s8e∧H 5=some ⟨v5e,3,ab (eI .i64) l5e,false,true,false⟩) (fun o x t H e=>match o with|l5ex=>x=.exit 2∧∃v5ex:Nat,t 0=.sl false false p0.length (ab (eI .i64) p0)∧t 1=.sl false false p1.length (ab (eI .i64) p1)∧t 5=.buf 5 v5ex 1 0 (l5ex).length∧t 6=.int .i64 s6a∧H 5=some ⟨v5ex,3,ab (eI .i64) l5ex,false,true,false⟩) ho40 ?_ ?_ ?_
   ·refine⟨v5a,?_⟩
    and_intros<;>first|rfl|(simp only[bS,seval,Za]<;>rfl)
   ·rintro⟨s7e,s8e,l5e⟩ t H e ⟨v5e,Ze⟩ c hh
    simp only[yv]at hh
    try simp only[bS,seval,Ze]
    obtain⟨o41,ho41,hh⟩:=ah hh
    refine bs 0 (fun s t H e=>match s with|s29j7=>∃v5j7:Nat,t 0=.sl false false p0.length (ab (eI .i64) p0)∧t 1=.sl false false p1.length (ab (eI .i64) p1)∧t 5=.buf 5 v5j7 1 0 (l5e).length∧t 6=.int .i64 s6a∧t 7=.int .i64 s7e∧t 8=.int .i64 s8e∧t 29=.bool s29j7∧H 5=some ⟨v5j7,3,ab (eI .i64) l5e,false,true,false⟩) (fun s=>s=o41) ?_ ?_
    ·rintro s29j7 t H e ⟨v5j7,Zj7⟩ rfl
     try dsimp only at hh
     try simp only[bS,seval,Zj7]
     apply sp al hh<;>intro _ hh
     ·obtain⟨x43,hx43,hh⟩:=ah hh
      have ax43:=bm (eI .i64) hx43
      simp only[bN]at ax43
      obtain⟨x44,hx44,hh⟩:=ah hh
      have ax44:=bm (eI .i64) hx44
      simp only[bN]at ax44
      obtain⟨r45,hr45,hh⟩:=ah hh
      try simp only[bS,seval,Zj7,ax43,ax44,hr45]
      refine bt (by kernel_rfl) ?_
      obtain⟨x46,hx46,hh⟩:=ah hh
      have q47:=xS hx46
      have ax43:=bm (eI .i64) hx43
      simp only[bN]at ax43
      have p48:=eZ (eI .i64) (x':=x46) (fo:=0) (cs:=[.int .i64 x46]) hx43 rfl (ahB rfl)
      simp only[bN,Nat.add_zero]at p48
      have up48:=p48
      simp only[putCells,List.length_cons,List.length_nil,agF]at up48
      obtain⟨x49,hx49,hh⟩:=ah hh
      have q50:=qU hx49
      cases hh
      try simp only[seval,q47,up48,q50]
      apply gL
      refine⟨v5j7,?_⟩
      and_intros<;>first|rfl|(simp only[bS,seval,Zj7]<;>rfl)
     ·cases hh
      try simp only[bS,seval]
      apply jr
      refine⟨rfl,⟨v5j7,?_⟩⟩
      and_intros<;>first|rfl|(simp only[bS,seval,Zj7]<;>rfl)
    ·clear hh
     have hh:=ho41
     try simp only[bS,seval]
     apply sp aN hh<;>intro _ hh
     ·cases hh
      try simp only[bS,seval]
      rw[an]
      refine⟨_,rfl,?_⟩
      refine⟨v5e,?_⟩
      and_intros<;>first|rfl|(simp only[bS,seval,Ze]<;>rfl)
     ·cases hh
      try simp only[bS,seval,Ze]
      rw[an]
      refine⟨_,rfl,?_⟩
      refine⟨v5e,?_⟩
      and_intros<;>first|rfl|(simp only[bS,seval,Ze]<;>rfl)
   ·rintro x t H e hx
    obtain⟨l5ex,rfl⟩:∃z,z=o40:=⟨_,rfl⟩
    dsimp only at hx hh
    obtain⟨rfl,⟨v5ex,Zex⟩⟩:=hx
    cases hh
    try simp only[bS,seval,Zex]
    apply gL
    refine⟨v5ex,?_⟩
    and_intros<;>first|rfl|(simp only[bS,seval,Zex]<;>rfl)
  ·cases hh
   try simp only[bS,seval]
   apply jr
   refine⟨rfl,⟨v5a,?_⟩⟩
   and_intros<;>first|rfl|(simp only[bS,seval,Za]<;>rfl)
 ·rintro x t H e hx
  obtain⟨l5ax,rfl⟩:∃z,z=o27:=⟨_,rfl⟩
  dsimp only at hx hh
  obtain⟨rfl,⟨v5ax,Zax⟩⟩:=hx
  obtain⟨r52,hr52,hh⟩:=ah hh
  cases hh
  try simp only[bS,seval,Zax,hr52]
theorem yf:bP prog 201 oK:=bP.gr (mode := .clean) tok JW mixed func201 (by kernel_rfl) (fun _=>by kernel_rfl) (fun x r h=>NW x.1 x.2 r h)
def nK:=fb (jO (pE (eI .i64)) (eU (pE (eI .i64)))) (fun x:(List Int)×(List Int)=>oB x.1 x.2) (fun r:Bool =>.clean (.bool r))
theorem lE (p0:(List Int)) (p1:(List Int)):nK none [.sl false false p0.length (ab (eI .i64) p0),.sl false false p1.length (ab (eI .i64) p1)]=(oB p0 p1).map fun r:Bool=>(.clean (.bool r),none):=aJ _ _ _ (p0,p1)
def rl:Env:=(Am.ext a7 217 false kl)
theorem MK:bA prog rl:=(bA.none.add nw false)
theorem gx:type_of% (ai @w<|ai @gS<|@rl.eq_1):=⟨@w,@gS,@rl.eq_1⟩
theorem QU (p0:(List Int)) (p1:(List Int)) (r:Bool) (hh:oB p0 p1=some r):aW .clean tab rl FU Tryz.f195 none [.sl false false p0.length (ab (eI .i64) p0),.sl false false p1.length (ab (eI .i64) p1)]=some (.clean (.bool r),none):=by
 apply aB rfl ntmps195 results195
 unfold oB at hh
 try simp only[gx,seval]
 obtain⟨o5,ho5,hh⟩:=ah hh
 refine ay (fun s t H e=>match s with|s5a=>t 0=.sl false false p0.length (ab (eI .i64) p0)∧t 1=.sl false false p1.length (ab (eI .i64) p1)∧t 5=.int .i64 s5a) (fun o x t H e=>match o with|(.inl _)=>x=.exit 0|(.inr r)=>x=.ret∧eR .clean tab none [.tmp 4] ⟨t,EH H,e⟩=some (.clean (.bool r),none)) ho5 ?_ ?_ ?_
 ·and_intros<;>first|rfl|(simp only[gx,seval]<;>rfl)
 ·rintro s5a t H e Za c hh
  simp only[AR]at hh
  try simp only[gx,seval,Za]
  apply sp al hh<;>intro _ hh
  ·obtain⟨r7,hr7,hh⟩:=ah hh
   obtain⟨r8,hr8,hh⟩:=ah hh
   try simp only[gx,seval,Za,hr7,hr8]
   apply sp al hh<;>intro _ hh
   ·cases hh
    try simp only[gx,seval,Za,hr7,hr8]
    refine rz ⟨rfl,?_⟩
    try simp only[gx,seval]
   ·cases hh
    try simp only[gx,seval,Za]
    apply gL
    and_intros<;>first|rfl|(simp only[gx,seval,Za]<;>rfl)
  ·cases hh
   try simp only[gx,seval]
   apply jr
   exact rfl
 ·rintro x t H e hx
  rcases o5 with _|ra
  ·dsimp only at hx hh
   subst hx
   cases hh
   try simp only[gx,seval]
  ·dsimp only at hx hh
   obtain⟨rfl,hE⟩:=hx
   cases hh
   try simp only[aU,bd,b7,b5]
   exact hE
theorem tJ:bP prog 195 nK:=bP.gr (mode := .clean) tok MK mixed func195 (by kernel_rfl) (fun _=>by kernel_rfl) (fun x r h=>QU x.1 x.2 r h)
def l8:=fb (jO (pE (eI .i64)) (eU (pE (eI .i64)))) (fun x:(List Int)×(List Int)=>kA x.1 x.2) (fun r:(List Int) =>.clean (.sl false false r.length (ab (eI .i64) r)))
theorem kz (p0:(List Int)) (p1:(List Int)):l8 none [.sl false false p0.length (ab (eI .i64) p0),.sl false false p1.length (ab (eI .i64) p1)]=(kA p0 p1).map fun r:(List Int)=>(.clean (.sl false false r.length (ab (eI .i64) r)),none):=aJ _ _ _ (p0,p1)
def oZ:Env:=(Am.ext (Am.ext a7 200 false jZ) 217 false kl)
theorem JV:bA prog oZ:=((bA.none.add mv false).add nw false)
theorem ep:type_of% (ai @w<|ai @fE<|ai @gS<|@oZ.eq_1):=⟨@w,@fE,@gS,@oZ.eq_1⟩
theorem NV (p0:(List Int)) (p1:(List Int)) (r:(List Int)) (hh:kA p0 p1=some r):aW .clean tab oZ FU Tryz.f199 none [.sl false false p0.length (ab (eI .i64) p0),.sl false false p1.length (ab (eI .i64) p1)]=some (.clean (.sl false false r.length (ab (eI .i64) r)),none):=by
 apply aB rfl ntmps199 results199
 unfold kA at hh
 try simp only[ep,seval]
 obtain⟨o9,ho9,hh⟩:=ah hh
 refine ay (fun s t H e=>match s with|(s6a,s7a,l5a)=>∃v5a:Nat,t 0=.sl false false p0.length (ab (eI .i64) p0)∧t 1=.sl false false p1.length (ab (eI .i64) p1)∧t 5=.buf 5 v5a 1 0 (l5a).length∧t 6=.int .i64 s6a∧t 7=.int .i64 s7a∧H 5=some ⟨v5a,3,ab (eI .i64) l5a,false,true,false⟩) (fun o x t H e=>match o with|l5ax=>x=.exit 0∧∃v5ax:Nat,t 5=.buf 5 v5ax 1 0 (l5ax).length∧H 5=some ⟨v5ax,3,ab (eI .i64) l5ax,false,true,false⟩) ho9 ?_ ?_ ?_
 ·refine⟨1,?_⟩
  and_intros<;>first|rfl|(simp only[ep,seval]<;>rfl)
 ·rintro⟨s6a,s7a,l5a⟩ t H e ⟨v5a,Za⟩ c hh
  simp only[yt]at hh
  try simp only[ep,seval,Za]
  apply sp al hh<;>intro _ hh
  ·obtain⟨x11,hx11,hh⟩:=ah hh
   have ax11:=bm (eI .i64) hx11
   simp only[bN]at ax11
   obtain⟨r12,hr12,hh⟩:=ah hh
   try simp only[ep,seval,Za,ax11,hr12]
   refine bt (by kernel_rfl) ?_
   try simp only[ep,seval,Za,ax11,hr12]
   apply sp al hh<;>intro _ hh
   ·obtain⟨x14,hx14,hh⟩:=ah hh
    obtain⟨q15a,q15b,q15c,q15d⟩:=gV (eI .i64) hx14
    simp only[bN]at q15b
    cases hh
    try simp only[ep,seval,Za,q15a,q15b,q15c,q15d]
    apply gL
    refine⟨e+1+1+1+1+1+1,?_⟩
    and_intros<;>first|rfl|(simp only[ep,seval,Za]<;>rfl)
   ·obtain⟨x16,hx16,hh⟩:=ah hh
    obtain⟨q17a,q17b,q17c,q17d⟩:=gV (eI .i64) hx16
    simp only[bN]at q17b
    cases hh
    try simp only[ep,seval,Za,q17a,q17b,q17c,q17d]
    apply gL
    refine⟨e+1+1+1+1,?_⟩
    and_intros<;>first|rfl|(simp only[ep,seval,Za]<;>rfl)
  ·cases hh
   try simp only[ep,seval]
   apply jr
   refine⟨rfl,⟨v5a,?_⟩⟩
   and_intros<;>first|rfl|(simp only[ep,seval,Za]<;>rfl)
 ·rintro x t H e hx
  obtain⟨l5ax,rfl⟩:∃z,z=o9:=⟨_,rfl⟩
  dsimp only at hx hh
  obtain⟨rfl,⟨v5ax,Zax⟩⟩:=hx
  obtain⟨r18,hr18,hh⟩:=ah hh
  cases hh
  try simp only[ep,seval,Zax,hr18]
theorem rE:bP prog 199 l8:=bP.gr (mode := .clean) tok JV mixed func199 (by kernel_rfl) (fun _=>by kernel_rfl) (fun x r h=>NV x.1 x.2 r h)
def qz:=fb (jO (pE (eI .i64)) (eU (pE (eI .i64)))) (fun x:(List Int)×(List Int)=>qh x.1 x.2) (fun r:(List Int)×(List Int) =>.clean (.tup [.sl false false r.1.length (ab (eI .i64) r.1),.sl false false r.2.length (ab (eI .i64) r.2)]))
theorem rK (p0:(List Int)) (p1:(List Int)):qz none [.sl false false p0.length (ab (eI .i64) p0),.sl false false p1.length (ab (eI .i64) p1)]=(qh p0 p1).map fun r:(List Int)×(List Int)=>(.clean (.tup [.sl false false r.1.length (ab (eI .i64) r.1),.sl false false r.2.length (ab (eI .i64) r.2)]),none):=aJ _ _ _ (p0,p1)
def rn:Env:=(Am.keep 7 (Am.ext (Am.ext (Am.ext (Am.ext a7 195 false nK) 199 false l8) 200 false jZ) 201 false oK))
theorem MM:bA prog rn:=(bA.keep ((((bA.none.add tJ false).add rE false).add mv false).add yf false) 7)
theorem cM:type_of% (ai @w<|ai @lE<|ai @kz<|ai @fE<|ai @mw<|@rn.eq_1):=⟨@w,@lE,@kz,@fE,@mw,@rn.eq_1⟩
theorem QW (p0:(List Int)) (p1:(List Int)) (r:(List Int)×(List Int)) (hh:qh p0 p1=some r):aW .clean tab rn FU Tryz.f193 none [.sl false false p0.length (ab (eI .i64) p0),.sl false false p1.length (ab (eI .i64) p1)]=some (.clean (.tup [.sl false false r.1.length (ab (eI .i64) r.1),.sl false false r.2.length (ab (eI .i64) r.2)]),none):=by
 apply aB rfl ntmps193 results193
 unfold qh at hh
 obtain⟨x1,hx1,hh⟩:=ah hh
 obtain⟨q2a,q2b,q2c,q2d,q2e⟩:=mk_one (eI .i64) hx1
 simp only[bN]at q2d
 try simp only[cM,seval,q2a,q2b,q2c,q2d,q2e]
 obtain⟨o29,ho29,hh⟩:=ah hh
 refine ay (fun s t H e=>match s with|(s7a,s8a,l6a)=>∃v6a:Nat,t 0=.sl false false p0.length (ab (eI .i64) p0)∧t 1=.sl false false p1.length (ab (eI .i64) p1)∧t 6=.buf 6 v6a 1 0 (l6a).length∧t 7=.sl false false s7a.length (ab (eI .i64) s7a)∧t 8=.int .i64 s8a∧H 6=some ⟨v6a,3,ab (eI .i64) l6a,false,true,false⟩) (fun o x t H e=>match o with|(s7ax,l6ax)=>x=.exit 0∧∃v6ax:Nat,t 6=.buf 6 v6ax 1 0 (l6ax).length∧t 7=.sl false false s7ax.length (ab (eI .i64) s7ax)∧H 6=some ⟨v6ax,3,ab (eI .i64) l6ax,false,true,false⟩) ho29 ?_ ?_ ?_
 ·refine⟨1,?_⟩
  and_intros<;>first|rfl|(simp only[cM,seval,q2a,q2b,q2c,q2d,q2e]<;>rfl)
 ·rintro⟨s7a,s8a,l6a⟩ t H e ⟨v6a,Za⟩ c hh
  simp only[AS]at hh
  try simp only[cM,seval,Za]
  apply sp al hh<;>intro _ hh
  ·obtain⟨x31,hx31,hh⟩:=ah hh
   have ax31:=bm (eI .i64) hx31
   simp only[bN]at ax31
   obtain⟨x32,hx32,hh⟩:=ah hh
   obtain⟨q33a,q33b,q33c,q33d⟩:=aal (eI .i64) hx32
   simp only[bo,bN,List.length_cons,agF]at q33a q33b
   obtain⟨r34,hr34,hh⟩:=ah hh
   try simp only[cM,seval,Za,ax31,q33a,q33b,q33c,q33d,hr34]
   obtain⟨o42,ho42,hh⟩:=ah hh
   refine ay (fun s t H e=>match s with|(s9c,s10c)=>∃v6c:Nat,t 0=.sl false false p0.length (ab (eI .i64) p0)∧t 1=.sl false false p1.length (ab (eI .i64) p1)∧t 6=.buf 6 v6c 1 0 (l6a).length∧t 7=.sl false false r34.length (ab (eI .i64) r34)∧t 8=.int .i64 s8a∧t 9=.int .i64 s9c∧t 10=.int .i64 s10c∧H 6=some ⟨v6c,3,ab (eI .i64) l6a,false,true,false⟩) (fun o x t H e=>match o with|s9cx=>x=.exit 2∧∃v6cx:Nat,t 0=.sl false false p0.length (ab (eI .i64) p0)∧t 1=.sl false false p1.length (ab (eI .i64) p1)∧t 6=.buf 6 v6cx 1 0 (l6a).length∧t 7=.sl false false r34.length (ab (eI .i64) r34)∧t 8=.int .i64 s8a∧t 9=.int .i64 s9cx∧H 6=some ⟨v6cx,3,ab (eI .i64) l6a,false,true,false⟩) ho42 ?_ ?_ ?_
   ·refine⟨v6a,?_⟩
    and_intros<;>first|rfl|(simp only[cM,seval,Za]<;>rfl)
   ·rintro⟨s9c,s10c⟩ t H e ⟨v6c,Zc⟩ c hh
    simp only[AT]at hh
    try simp only[cM,seval,Zc]
    apply sp al hh<;>intro _ hh
    ·obtain⟨x44,hx44,hh⟩:=ah hh
     have q45:=qU hx44
     have i46:=mw p1 ([x44])
     simp only[bo,bN,List.length_cons,agF]at i46
     obtain⟨r47,hr47,hh⟩:=ah hh
     obtain⟨r48,hr48,hh⟩:=ah hh
     try simp only[cM,seval,Zc,q45,i46,hr47,hr48]
     apply sp al hh<;>intro _ hh
     ·cases hh
      try simp only[cM,seval]
      apply gL
      refine⟨v6c,?_⟩
      and_intros<;>first|rfl|(simp only[cM,seval,Zc]<;>rfl)
     ·cases hh
      try simp only[cM,seval]
      apply gL
      refine⟨v6c,?_⟩
      and_intros<;>first|rfl|(simp only[cM,seval,Zc]<;>rfl)
    ·cases hh
     try simp only[cM,seval]
     apply jr
     refine⟨rfl,⟨v6c,?_⟩⟩
     and_intros<;>first|rfl|(simp only[cM,seval,Zc]<;>rfl)
   ·rintro x t H e hx
    obtain⟨s9cx,rfl⟩:∃z,z=o42:=⟨_,rfl⟩
    dsimp only at hx hh
    obtain⟨rfl,⟨v6cx,Zcx⟩⟩:=hx
    obtain⟨x50,hx50,hh⟩:=ah hh
    have ax50:=bm (eI .i64) hx50
    simp only[bN]at ax50
    have p51:=eZ (eI .i64) (x':=s9cx) (fo:=0) (cs:=[.int .i64 s9cx]) hx50 rfl (ahB rfl)
    simp only[bN,Nat.add_zero]at p51
    have up51:=p51
    simp only[putCells,List.length_cons,List.length_nil,agF]at up51
    have i52:=fE ([s9cx])
    simp only[bo,bN,List.length_cons,agF]at i52
    obtain⟨r53,hr53,hh⟩:=ah hh
    obtain⟨r54,hr54,hh⟩:=ah hh
    obtain⟨r55,hr55,hh⟩:=ah hh
    cases hh
    try simp only[cM,seval,ax31,Zcx,ax50,up51,i52,hr53,hr54,hr55]
    apply gL
    refine⟨v6cx,?_⟩
    and_intros<;>first|rfl|(simp only[cM,seval,Zcx]<;>rfl)
  ·cases hh
   try simp only[cM,seval]
   apply jr
   refine⟨rfl,⟨v6a,?_⟩⟩
   and_intros<;>first|rfl|(simp only[cM,seval,Za]<;>rfl)
 ·rintro x t H e hx
  rcases o29 with⟨s7ax,l6ax⟩
  dsimp only at hx hh
  obtain⟨rfl,⟨v6ax,Zax⟩⟩:=hx
  obtain⟨r56,hr56,hh⟩:=ah hh
  cases hh
  try simp only[cM,seval,Zax,hr56]
theorem AH:bP prog 193 qz:=bP.gr (mode := .clean) tok MM mixed func193 (by kernel_rfl) (fun _=>by kernel_rfl) (fun x r h=>QW x.1 x.2 r h)
def uf:=fb (jO (bM dx) (eU (bM dx))) (fun x:ak×ak=>vf x.1 x.2) (fun r:ak×Int =>.clean (.tup [.agg [.int .i64 r.1.ae,.sl false false r.1.aa.length (ab (eI .i64) r.1.aa)],.int .i64 r.2]))
theorem va (p0_0:Int) (p0_1:(List Int)) (p1_0:Int) (p1_1:(List Int)):uf none [.agg [.int .i64 p0_0,.sl false false p0_1.length (ab (eI .i64) p0_1)],.agg [.int .i64 p1_0,.sl false false p1_1.length (ab (eI .i64) p1_1)]]=(vf (ak.mk p0_0 p0_1) (ak.mk p1_0 p1_1)).map fun r:ak×Int=>(.clean (.tup [.agg [.int .i64 r.1.ae,.sl false false r.1.aa.length (ab (eI .i64) r.1.aa)],.int .i64 r.2]),none):=aJ _ _ _ ((ak.mk p0_0 p0_1),(ak.mk p1_0 p1_1))
def uS:Env:=(Am.ext (Am.ext (Am.ext a7 144 false eO) 156 false iF) 193 false qz)
theorem Qw:bA prog uS:=(((bA.none.add fu false).add ku false).add AH false)
theorem ej:type_of% (ai @w<|ai @ch<|ai @ff<|ai @rK<|@uS.eq_1):=⟨@w,@ch,@ff,@rK,@uS.eq_1⟩
theorem VG (p0:ak) (p1:ak) (r:ak×Int) (hh:vf p0 p1=some r):aW .clean tab uS FU Tryz.f145 none [.agg [.int .i64 p0.ae,.sl false false p0.aa.length (ab (eI .i64) p0.aa)],.agg [.int .i64 p1.ae,.sl false false p1.aa.length (ab (eI .i64) p1.aa)]]=some (.clean (.tup [.agg [.int .i64 r.1.ae,.sl false false r.1.aa.length (ab (eI .i64) r.1.aa)],.int .i64 r.2]),none):=by
 apply aB rfl ntmps145 results145
 unfold vf at hh
 obtain⟨r1,hr1,hh⟩:=ah hh
 try simp only[ej,seval,hr1]
 obtain⟨o2,ho2,hh⟩:=ah hh
 refine bs 0 (fun s t H e=>match s with|s17j1=>∃v2j1:Nat,∃v3j1:Nat,∃v4j1:Nat,t 2=.ptr 2 v2j1 0∧t 3=.ptr 3 v3j1 0∧t 4=.ptr 4 v4j1 0∧t 17=.bool s17j1∧H 2=some ⟨v2j1,40,[.int .i64 p0.ae,.sl false false p0.aa.length (ab (eI .i64) p0.aa)],false,false,false⟩∧H 3=some ⟨v3j1,40,[.int .i64 p1.ae,.sl false false p1.aa.length (ab (eI .i64) p1.aa)],false,false,false⟩∧H 4=some ⟨v4j1,40,[.int .i64 0,.sl true true 0 []],false,false,false⟩) (fun s=>s=o2) ?_ ?_
 ·rintro s17j1 t H e ⟨v2j1,v3j1,v4j1,Zj1⟩ rfl
  try dsimp only at hh
  try simp only[ej,seval,Zj1]
  apply sp al hh<;>intro _ hh
  ·cases hh
   try simp only[ej,seval,Zj1]
  ·try simp only[ej,seval,Zj1]
   obtain⟨o6,ho6,hh⟩:=ah hh
   refine ay (fun s t H e=>match s with|(s6b,s7b)=>∃v4b:Nat,t 4=.ptr 4 v4b 0∧t 6=.sl false false s6b.length (ab (eI .i64) s6b)∧t 7=.sl false false s7b.length (ab (eI .i64) s7b)∧H 4=some ⟨v4b,40,[.int .i64 0,.sl true true 0 []],false,false,false⟩) (fun o x t H e=>match o with|s6bx=>x=.exit 0∧∃v4bx:Nat,t 4=.ptr 4 v4bx 0∧t 6=.sl false false s6bx.length (ab (eI .i64) s6bx)∧H 4=some ⟨v4bx,40,[.int .i64 0,.sl true true 0 []],false,false,false⟩) ho6 ?_ ?_ ?_
   ·refine⟨v4j1,?_⟩
    and_intros<;>first|rfl|(simp only[ej,seval,Zj1]<;>rfl)
   ·rintro⟨s6b,s7b⟩ t H e ⟨v4b,Zb⟩ c hh
    simp only[Ez]at hh
    try simp only[ej,seval,Zb]
    apply sp al hh<;>intro _ hh
    ·obtain⟨r8,hr8,hh⟩:=ah hh
     cases hh
     try simp only[ej,seval,Zb,hr8]
     apply gL
     refine⟨v4b,?_⟩
     and_intros<;>first|rfl|(simp only[ej,seval,Zb]<;>rfl)
    ·cases hh
     try simp only[ej,seval]
     apply jr
     refine⟨rfl,⟨v4b,?_⟩⟩
     and_intros<;>first|rfl|(simp only[ej,seval,Zb]<;>rfl)
   ·rintro x t H e hx
    obtain⟨s6bx,rfl⟩:∃z,z=o6:=⟨_,rfl⟩
    dsimp only at hx hh
    obtain⟨rfl,⟨v4bx,Zbx⟩⟩:=hx
    obtain⟨r9,hr9,hh⟩:=ah hh
    cases hh
    try simp only[ej,seval,Zbx,hr9]
 ·clear hh
  have hh:=ho2
  try simp only[ej,seval]
  apply sp aN hh<;>intro _ hh
  ·cases hh
   try simp only[ej,seval]
   rw[an]
   refine⟨_,rfl,?_⟩
   refine⟨0,0,0,?_⟩
   and_intros<;>first|rfl|(simp only[ej,seval,hr1]<;>rfl)
  ·obtain⟨r11,hr11,hh⟩:=ah hh
   cases hh
   try simp only[ej,seval,hr11]
   rw[an]
   refine⟨_,rfl,?_⟩
   refine⟨0,0,0,?_⟩
   and_intros<;>first|rfl|(simp only[ej,seval,hr1,hr11]<;>rfl)
theorem Ed:bP prog 145 uf:=bP.gr (mode := .clean) tok Qw mixed func145 (by kernel_rfl) (fun _=>by kernel_rfl) (fun x r h=>VG x.1 x.2 r h)
def qA:=fb (jO (pE (eI .i64)) (eU (pE (eI .i64)))) (fun x:(List Int)×(List Int)=>qk x.1 x.2) (fun r:(List Int) =>.clean (.sl false false r.length (ab (eI .i64) r)))
theorem oA (p0:(List Int)) (p1:(List Int)):qA none [.sl false false p0.length (ab (eI .i64) p0),.sl false false p1.length (ab (eI .i64) p1)]=(qk p0 p1).map fun r:(List Int)=>(.clean (.sl false false r.length (ab (eI .i64) r)),none):=aJ _ _ _ (p0,p1)
def rp:Env:=(Am.ext (Am.ext a7 200 false jZ) 217 false kl)
theorem MN:bA prog rp:=((bA.none.add mv false).add nw false)
theorem dc:type_of% (ai @w<|ai @fE<|ai @gS<|@rp.eq_1):=⟨@w,@fE,@gS,@rp.eq_1⟩
theorem QX (p0:(List Int)) (p1:(List Int)) (r:(List Int)) (hh:qk p0 p1=some r):aW .clean tab rp FU Tryz.f198 none [.sl false false p0.length (ab (eI .i64) p0),.sl false false p1.length (ab (eI .i64) p1)]=some (.clean (.sl false false r.length (ab (eI .i64) r)),none):=by
 apply aB rfl ntmps198 results198
 unfold qk at hh
 try simp only[dc,seval]
 obtain⟨o13,ho13,hh⟩:=ah hh
 refine ay (fun s t H e=>match s with|(s6a,s7a,l5a)=>∃v5a:Nat,t 0=.sl false false p0.length (ab (eI .i64) p0)∧t 1=.sl false false p1.length (ab (eI .i64) p1)∧t 5=.buf 5 v5a 1 0 (l5a).length∧t 6=.int .i64 s6a∧t 7=.int .i64 s7a∧H 5=some ⟨v5a,3,ab (eI .i64) l5a,false,true,false⟩) (fun o x t H e=>match o with|l5ax=>x=.exit 0∧∃v5ax:Nat,t 5=.buf 5 v5ax 1 0 (l5ax).length∧H 5=some ⟨v5ax,3,ab (eI .i64) l5ax,false,true,false⟩) ho13 ?_ ?_ ?_
 ·refine⟨1,?_⟩
  and_intros<;>first|rfl|(simp only[dc,seval]<;>rfl)
 ·rintro⟨s6a,s7a,l5a⟩ t H e ⟨v5a,Za⟩ c hh
  simp only[AU]at hh
  try simp only[dc,seval,Za]
  obtain⟨o14,ho14,hh⟩:=ah hh
  refine bs 0 (fun s t H e=>match s with|s22j3=>∃v5j3:Nat,t 0=.sl false false p0.length (ab (eI .i64) p0)∧t 1=.sl false false p1.length (ab (eI .i64) p1)∧t 5=.buf 5 v5j3 1 0 (l5a).length∧t 6=.int .i64 s6a∧t 7=.int .i64 s7a∧t 22=.bool s22j3∧H 5=some ⟨v5j3,3,ab (eI .i64) l5a,false,true,false⟩) (fun s=>s=o14) ?_ ?_
  ·rintro s22j3 t H e ⟨v5j3,Zj3⟩ rfl
   try dsimp only at hh
   try simp only[dc,seval,Zj3]
   apply sp al hh<;>intro _ hh
   ·obtain⟨r16,hr16,hh⟩:=ah hh
    obtain⟨r17,hr17,hh⟩:=ah hh
    obtain⟨x18,hx18,hh⟩:=ah hh
    have q19:=xS hx18
    obtain⟨x20,hx20,hh⟩:=ah hh
    obtain⟨q21a,q21b,q21c,q21d⟩:=gV (eI .i64) hx20
    simp only[bN]at q21b
    obtain⟨x22,hx22,hh⟩:=ah hh
    have q23:=qU hx22
    cases hh
    try simp only[dc,seval,Zj3,hr16,hr17,q19,q21a,q21b,q21c,q21d,q23]
    apply gL
    refine⟨e+1,?_⟩
    and_intros<;>first|rfl|(simp only[dc,seval,Zj3]<;>rfl)
   ·cases hh
    try simp only[dc,seval]
    apply jr
    refine⟨rfl,⟨v5j3,?_⟩⟩
    and_intros<;>first|rfl|(simp only[dc,seval,Zj3]<;>rfl)
  ·clear hh
   have hh:=ho14
   try simp only[dc,seval]
   apply sp aN hh<;>intro _ hh
   ·cases hh
    try simp only[dc,seval]
    rw[an]
    refine⟨_,rfl,?_⟩
    refine⟨v5a,?_⟩
    and_intros<;>first|rfl|(simp only[dc,seval,Za]<;>rfl)
   ·try simp only[dc,seval,Za]
    apply sp aN hh<;>intro _ hh
    ·cases hh
     try simp only[dc,seval]
     rw[an]
     refine⟨_,rfl,?_⟩
     refine⟨v5a,?_⟩
     and_intros<;>first|rfl|(simp only[dc,seval,Za]<;>rfl)
    ·cases hh
     try simp only[dc,seval,Za]
     rw[an]
     refine⟨_,rfl,?_⟩
     refine⟨v5a,?_⟩
     and_intros<;>first|rfl|(simp only[dc,seval,Za]<;>rfl)
 ·rintro x t H e hx
  obtain⟨l5ax,rfl⟩:∃z,z=o13:=⟨_,rfl⟩
  dsimp only at hx hh
  obtain⟨rfl,⟨v5ax,Zax⟩⟩:=hx
  obtain⟨r26,hr26,hh⟩:=ah hh
  cases hh
  try simp only[dc,seval,Zax,hr26]
theorem AI:bP prog 198 qA:=bP.gr (mode := .clean) tok MN mixed func198 (by kernel_rfl) (fun _=>by kernel_rfl) (fun x r h=>QX x.1 x.2 r h)
def yU:=fb (jO (bM dx) (eU (bM dx))) (fun x:ak×ak=>ve x.1 x.2) (fun r:ak×ak×Int =>.clean (.tup [.agg [.int .i64 r.1.ae,.sl false false r.1.aa.length (ab (eI .i64) r.1.aa)],.agg [.int .i64 r.2.1.ae,.sl false false r.2.1.aa.length (ab (eI .i64) r.2.1.aa)],.int .i64 r.2.2]))
theorem Io (p0_0:Int) (p0_1:(List Int)) (p1_0:Int) (p1_1:(List Int)):yU none [.agg [.int .i64 p0_0,.sl false false p0_1.length (ab (eI .i64) p0_1)],.agg [.int .i64 p1_0,.sl false false p1_1.length (ab (eI .i64) p1_1)]]=(ve (ak.mk p0_0 p0_1) (ak.mk p1_0 p1_1)).map fun r:ak×ak×Int=>(.clean (.tup [.agg [.int .i64 r.1.ae,.sl false false r.1.aa.length (ab (eI .i64) r.1.aa)],.agg [.int .i64 r.2.1.ae,.sl false false r.2.1.aa.length (ab (eI .i64) r.2.1.aa)],.int .i64 r.2.2]),none):=aJ _ _ _ ((ak.mk p0_0 p0_1),(ak.mk p1_0 p1_1))
def uR:Env:=(Am.ext (Am.ext (Am.ext (Am.ext (Am.ext a7 144 false eO) 156 false iF) 193 false qz) 198 false qA) 199 false l8)
theorem Qv:bA prog uR:=(((((bA.none.add fu false).add ku false).add AH false).add AI false).add rE false)
theorem dq:type_of% (ai @w<|ai @ch<|ai @ff<|ai @rK<|ai @oA<|ai @kz<|@uR.eq_1):=⟨@w,@ch,@ff,@rK,@oA,@kz,@uR.eq_1⟩
theorem VF (p0:ak) (p1:ak) (r:ak×ak×Int) (hh:ve p0 p1=some r):aW .clean tab uR FU Tryz.f155 none [.agg [.int .i64 p0.ae,.sl false false p0.aa.length (ab (eI .i64) p0.aa)],.agg [.int .i64 p1.ae,.sl false false p1.aa.length (ab (eI .i64) p1.aa)]]=some (.clean (.tup [.agg [.int .i64 r.1.ae,.sl false false r.1.aa.length (ab (eI .i64) r.1.aa)],.agg [.int .i64 r.2.1.ae,.sl false false r.2.1.aa.length (ab (eI .i64) r.2.1.aa)],.int .i64 r.2.2]),none):=by
 apply aB rfl ntmps155 results155
 unfold ve at hh
 obtain⟨r1,hr1,hh⟩:=ah hh
 try simp only[dq,seval,hr1]
 obtain⟨o2,ho2,hh⟩:=ah hh
 refine bs 0 (fun s t H e=>match s with|s16j1=>∃v2j1:Nat,∃v3j1:Nat,∃v4j1:Nat,∃v5j1:Nat,t 2=.ptr 2 v2j1 0∧t 3=.ptr 3 v3j1 0∧t 4=.ptr 4 v4j1 0∧t 5=.ptr 5 v5j1 0∧t 16=.bool s16j1∧H 2=some ⟨v2j1,40,[.int .i64 p0.ae,.sl false false p0.aa.length (ab (eI .i64) p0.aa)],false,false,false⟩∧H 3=some ⟨v3j1,40,[.int .i64 p1.ae,.sl false false p1.aa.length (ab (eI .i64) p1.aa)],false,false,false⟩∧H 4=some ⟨v4j1,40,[.int .i64 0,.sl true true 0 []],false,false,false⟩∧H 5=some ⟨v5j1,40,[.int .i64 0,.sl true true 0 []],false,false,false⟩) (fun s=>s=o2) ?_ ?_
 ·rintro s16j1 t H e ⟨v2j1,v3j1,v4j1,v5j1,Zj1⟩ rfl
  try dsimp only at hh
  try simp only[dq,seval,Zj1]
  apply sp al hh<;>intro _ hh
  ·cases hh
   try simp only[dq,seval,Zj1]
  ·try simp only[dq,seval,Zj1]
   apply sp al hh<;>intro _ hh
   ·cases hh
    try simp only[dq,seval,Zj1]
   ·obtain⟨r5,hr5,hh⟩:=ah hh
    try simp only[dq,seval,Zj1,hr5]
    obtain⟨o6,ho6,hh⟩:=ah hh
    refine bs 0 (fun s t H e=>match s with|s42j2=>∃v2j2:Nat,∃v3j2:Nat,∃v4j2:Nat,∃v5j2:Nat,t 2=.ptr 2 v2j2 0∧t 3=.ptr 3 v3j2 0∧t 4=.ptr 4 v4j2 0∧t 5=.ptr 5 v5j2 0∧t 7=.sl false false r5.1.length (ab (eI .i64) r5.1)∧t 8=.sl false false r5.2.length (ab (eI .i64) r5.2)∧t 42=.bool s42j2∧H 2=some ⟨v2j2,40,[.int .i64 p0.ae,.sl false false p0.aa.length (ab (eI .i64) p0.aa)],false,false,false⟩∧H 3=some ⟨v3j2,40,[.int .i64 p1.ae,.sl false false p1.aa.length (ab (eI .i64) p1.aa)],false,false,false⟩∧H 4=some ⟨v4j2,40,[.int .i64 0,.sl true true 0 []],false,false,false⟩∧H 5=some ⟨v5j2,40,[.int .i64 0,.sl true true 0 []],false,false,false⟩) (fun s=>s=o6) ?_ ?_
    ·rintro s42j2 t H e ⟨v2j2,v3j2,v4j2,v5j2,Zj2⟩ rfl
     try dsimp only at hh
     try simp only[dq,seval,Zj2]
     apply sp al hh<;>intro _ hh
     ·obtain⟨r8,hr8,hh⟩:=ah hh
      obtain⟨r9,hr9,hh⟩:=ah hh
      try simp only[dq,seval,Zj2,hr8,hr9]
      refine bt (by kernel_rfl) ?_
      cases hh
      try simp only[seval]
     ·have i10:=oA r5.1 ([1])
      simp only[bo,bN,List.length_cons,agF]at i10
      obtain⟨r11,hr11,hh⟩:=ah hh
      obtain⟨r12,hr12,hh⟩:=ah hh
      obtain⟨r13,hr13,hh⟩:=ah hh
      obtain⟨r14,hr14,hh⟩:=ah hh
      try simp only[dq,seval,Zj2,i10,hr11,hr12,hr13,hr14]
      refine bt (by kernel_rfl) ?_
      cases hh
      try simp only[seval]
    ·clear hh
     have hh:=ho6
     try simp only[dq,seval]
     apply sp aN hh<;>intro _ hh
     ·cases hh
      try simp only[dq,seval]
      rw[an]
      refine⟨_,rfl,?_⟩
      refine⟨v2j1,v3j1,v4j1,v5j1,?_⟩
      and_intros<;>first|rfl|(simp only[dq,seval,Zj1]<;>rfl)
     ·cases hh
      try simp only[dq,seval]
      rw[an]
      refine⟨_,rfl,?_⟩
      refine⟨v2j1,v3j1,v4j1,v5j1,?_⟩
      and_intros<;>first|rfl|(simp only[dq,seval,Zj1]<;>rfl)
 ·clear hh
  have hh:=ho2
  try simp only[dq,seval]
  apply sp aN hh<;>intro _ hh
  ·cases hh
   try simp only[dq,seval]
   rw[an]
   refine⟨_,rfl,?_⟩
   refine⟨0,0,0,0,?_⟩
   and_intros<;>first|rfl|(simp only[dq,seval,hr1]<;>rfl)
  ·obtain⟨r17,hr17,hh⟩:=ah hh
   cases hh
   try simp only[dq,seval,hr17]
   rw[an]
   refine⟨_,rfl,?_⟩
   refine⟨0,0,0,0,?_⟩
   and_intros<;>first|rfl|(simp only[dq,seval,hr1,hr17]<;>rfl)
theorem Ra:bP prog 155 yU:=bP.gr (mode := .clean) tok Qv mixed func155 (by kernel_rfl) (fun _=>by kernel_rfl) (fun x r h=>VF x.1 x.2 r h)
def ui:=fb (jO (bM dx) (eU (bM dx))) (fun x:ak×ak=>vk x.1 x.2) (fun r:ao×Int =>.clean (.tup [.agg [.int .i64 r.1.aZ.ae,.sl false false r.1.aZ.aa.length (ab (eI .i64) r.1.aZ.aa),.int .i64 r.1.aY.ae,.sl false false r.1.aY.aa.length (ab (eI .i64) r.1.aY.aa)],.int .i64 r.2]))
theorem vd (p0_0:Int) (p0_1:(List Int)) (p1_0:Int) (p1_1:(List Int)):ui none [.agg [.int .i64 p0_0,.sl false false p0_1.length (ab (eI .i64) p0_1)],.agg [.int .i64 p1_0,.sl false false p1_1.length (ab (eI .i64) p1_1)]]=(vk (ak.mk p0_0 p0_1) (ak.mk p1_0 p1_1)).map fun r:ao×Int=>(.clean (.tup [.agg [.int .i64 r.1.aZ.ae,.sl false false r.1.aZ.aa.length (ab (eI .i64) r.1.aZ.aa),.int .i64 r.1.aY.ae,.sl false false r.1.aY.aa.length (ab (eI .i64) r.1.aY.aa)],.int .i64 r.2]),none):=aJ _ _ _ ((ak.mk p0_0 p0_1),(ak.mk p1_0 p1_1))
def uX:Env:=(Am.ext (Am.ext (Am.ext (Am.ext a7 144 false eO) 145 false uf) 154 false ug) 155 false yU)
theorem QB:bA prog uX:=((((bA.none.add fu false).add Ed false).add Ee false).add Ra false)
theorem dP:type_of% (ai @w<|ai @ch<|ai @va<|ai @vb<|ai @Io<|@uX.eq_1):=⟨@w,@ch,@va,@vb,@Io,@uX.eq_1⟩
theorem VM (p0:ak) (p1:ak) (r:ao×Int) (hh:vk p0 p1=some r):aW .clean tab uX FU Tryz.f94 none [.agg [.int .i64 p0.ae,.sl false false p0.aa.length (ab (eI .i64) p0.aa)],.agg [.int .i64 p1.ae,.sl false false p1.aa.length (ab (eI .i64) p1.aa)]]=some (.clean (.tup [.agg [.int .i64 r.1.aZ.ae,.sl false false r.1.aZ.aa.length (ab (eI .i64) r.1.aZ.aa),.int .i64 r.1.aY.ae,.sl false false r.1.aY.aa.length (ab (eI .i64) r.1.aY.aa)],.int .i64 r.2]),none):=by
 apply aB rfl ntmps94 results94
 unfold vk at hh
 obtain⟨r1,hr1,hh⟩:=ah hh
 try simp only[dP,seval,hr1]
 obtain⟨o2,ho2,hh⟩:=ah hh
 refine bs 0 (fun s t H e=>match s with|s21j1=>∃v2j1:Nat,∃v3j1:Nat,∃v4j1:Nat,t 2=.ptr 2 v2j1 0∧t 3=.ptr 3 v3j1 0∧t 4=.ptr 4 v4j1 0∧t 21=.bool s21j1∧H 2=some ⟨v2j1,40,[.int .i64 p0.ae,.sl false false p0.aa.length (ab (eI .i64) p0.aa)],false,false,false⟩∧H 3=some ⟨v3j1,40,[.int .i64 p1.ae,.sl false false p1.aa.length (ab (eI .i64) p1.aa)],false,false,false⟩∧H 4=some ⟨v4j1,42,[.int .i64 0,.sl true true 0 [],.int .i64 0,.sl true true 0 []],false,false,false⟩) (fun s=>s=o2) ?_ ?_
 ·rintro s21j1 t H e ⟨v2j1,v3j1,v4j1,Zj1⟩ rfl
  try dsimp only at hh
  try simp only[dP,seval,Zj1]
  apply sp al hh<;>intro _ hh
  ·cases hh
   try simp only[dP,seval,Zj1]
  ·try simp only[dP,seval,Zj1]
   apply sp al hh<;>intro _ hh
   ·cases hh
    try simp only[dP,seval,Zj1]
   ·try simp only[dP,seval,Zj1]
    obtain⟨o5,ho5,hh⟩:=ah hh
    refine jN 0 (fun s t H e=>match s with|(r2_0j2,r2_1j2,r3_0j2,r3_1j2)=>∃v2j2:Nat,∃v3j2:Nat,∃v4j2:Nat,t 2=.ptr 2 v2j2 0∧t 3=.ptr 3 v3j2 0∧t 4=.ptr 4 v4j2 0∧H 2=some ⟨v2j2,40,[.int .i64 r2_0j2,.sl false false r2_1j2.length (ab (eI .i64) r2_1j2)],false,false,false⟩∧H 3=some ⟨v3j2,40,[.int .i64 r3_0j2,.sl false false r3_1j2.length (ab (eI .i64) r3_1j2)],false,false,false⟩∧H 4=some ⟨v4j2,42,[.int .i64 0,.sl true true 0 [],.int .i64 0,.sl true true 0 []],false,false,false⟩) (fun s=>s=o5) ?_ ?_
    ·rintro⟨r2_0j2,r2_1j2,r3_0j2,r3_1j2⟩ t H e ⟨v2j2,v3j2,v4j2,Zj2⟩ rfl
     try dsimp only at hh
     obtain⟨r6,hr6,hh⟩:=ah hh
     obtain⟨r7,hr7,hh⟩:=ah hh
     obtain⟨r8,hr8,hh⟩:=ah hh
     cases hh
     try simp only[dP,seval,Zj2,hr6,hr7,hr8]
    ·clear hh
     have hh:=ho5
     try simp only[dP,seval]
     apply sp al hh<;>intro _ hh
     ·obtain⟨r10,hr10,hh⟩:=ah hh
      obtain⟨r11,hr11,hh⟩:=ah hh
      cases hh
      try simp only[dP,seval,Zj1,hr10,hr11]
      rw[an]
      refine⟨_,rfl,?_⟩
      refine⟨v2j1,v3j1,v4j1,?_⟩
      and_intros<;>first|rfl|(simp only[dP,seval,Zj1]<;>rfl)
     ·cases hh
      try simp only[dP,seval]
      rw[an]
      refine⟨_,rfl,?_⟩
      refine⟨v2j1,v3j1,v4j1,?_⟩
      and_intros<;>first|rfl|(simp only[dP,seval,Zj1]<;>rfl)
 ·clear hh
  have hh:=ho2
  try simp only[dP,seval]
  apply sp aN hh<;>intro _ hh
  ·cases hh
   try simp only[dP,seval]
   rw[an]
   refine⟨_,rfl,?_⟩
   refine⟨0,0,0,?_⟩
   and_intros<;>first|rfl|(simp only[dP,seval,hr1]<;>rfl)
  ·obtain⟨r13,hr13,hh⟩:=ah hh
   cases hh
   try simp only[dP,seval,hr13]
   rw[an]
   refine⟨_,rfl,?_⟩
   refine⟨0,0,0,?_⟩
   and_intros<;>first|rfl|(simp only[dP,seval,hr1,hr13]<;>rfl)
theorem Eg:bP prog 94 ui:=bP.gr (mode := .clean) tok QB mixed func94 (by kernel_rfl) (fun _=>by kernel_rfl) (fun x r h=>VM x.1 x.2 r h)
def w9:=fb (jO (aI .i64) (eU (aI .i64))) (fun x:Int×Int=>zn x.1 x.2) (fun r:ao×Int =>.clean (.tup [.agg [.int .i64 r.1.aZ.ae,.sl false false r.1.aZ.aa.length (ab (eI .i64) r.1.aZ.aa),.int .i64 r.1.aY.ae,.sl false false r.1.aY.aa.length (ab (eI .i64) r.1.aY.aa)],.int .i64 r.2]))
theorem ym (p0:Int) (p1:Int):w9 none [.int .i64 p0,.int .i64 p1]=(zn p0 p1).map fun r:ao×Int=>(.clean (.tup [.agg [.int .i64 r.1.aZ.ae,.sl false false r.1.aZ.aa.length (ab (eI .i64) r.1.aZ.aa),.int .i64 r.1.aY.ae,.sl false false r.1.aY.aa.length (ab (eI .i64) r.1.aY.aa)],.int .i64 r.2]),none):=aJ _ _ _ (p0,p1)
def xI:Env:=(Am.ext (Am.ext a7 94 false ui) 95 false w8)
theorem Vb:bA prog xI:=((bA.none.add Eg false).add H8 false)
theorem aad:type_of% (ai @w<|ai @vd<|ai @yl<|@xI.eq_1):=⟨@w,@vd,@yl,@xI.eq_1⟩
theorem Yi (p0:Int) (p1:Int) (r:ao×Int) (hh:zn p0 p1=some r):aW .clean tab xI FU Tryz.f40 none [.int .i64 p0,.int .i64 p1]=some (.clean (.tup [.agg [.int .i64 r.1.aZ.ae,.sl false false r.1.aZ.aa.length (ab (eI .i64) r.1.aZ.aa),.int .i64 r.1.aY.ae,.sl false false r.1.aY.aa.length (ab (eI .i64) r.1.aY.aa)],.int .i64 r.2]),none):=by
 apply aB rfl ntmps40 results40
 unfold zn at hh
 obtain⟨r1,hr1,hh⟩:=ah hh
 obtain⟨r2,hr2,hh⟩:=ah hh
 obtain⟨r3,hr3,hh⟩:=ah hh
 cases hh
 try simp only[aad,seval,hr1,hr2,hr3]
theorem H9:bP prog 40 w9:=bP.gr (mode := .clean) tok Vb mixed func40 (by kernel_rfl) (fun _=>by kernel_rfl) (fun x r h=>Yi x.1 x.2 r h)
def wv:=fb (as0) (fun x:Unit=>tw) (fun r:ao =>.clean (.agg [.int .i64 r.aZ.ae,.sl false false r.aZ.aa.length (ab (eI .i64) r.aZ.aa),.int .i64 r.aY.ae,.sl false false r.aY.aa.length (ab (eI .i64) r.aY.aa)]))
theorem Eu:wv none []=(tw).map fun r:ao=>(.clean (.agg [.int .i64 r.aZ.ae,.sl false false r.aZ.aa.length (ab (eI .i64) r.aZ.aa),.int .i64 r.aY.ae,.sl false false r.aY.aa.length (ab (eI .i64) r.aY.aa)]),none):=aJ _ _ _ ()
def q9:Env:=(Am.ext a7 40 false w9)
theorem MG:bA prog q9:=(bA.none.add H9 false)
theorem R0:type_of% (ai @w<|ai @ym<|@q9.eq_1):=⟨@w,@ym,@q9.eq_1⟩
theorem QP (r:ao) (hh:tw=some r):aW .clean tab q9 FU Tryz.f69 none []=some (.clean (.agg [.int .i64 r.aZ.ae,.sl false false r.aZ.aa.length (ab (eI .i64) r.aZ.aa),.int .i64 r.aY.ae,.sl false false r.aY.aa.length (ab (eI .i64) r.aY.aa)]),none):=by
 apply aB rfl ntmps69 results69
 unfold tw at hh
 obtain⟨r1,hr1,hh⟩:=ah hh
 cases hh
 try simp only[R0,seval,hr1]
theorem Oy:bP prog 69 wv:=bP.gr (mode := .clean) tok MG mixed func69 (by kernel_rfl) (fun _=>by kernel_rfl) (fun x r h=>QP  r h)
def uh:=fb (eU (aI .i64)) (fun x:Int=>vg x) (fun r:ao =>.clean (.agg [.int .i64 r.aZ.ae,.sl false false r.aZ.aa.length (ab (eI .i64) r.aZ.aa),.int .i64 r.aY.ae,.sl false false r.aY.aa.length (ab (eI .i64) r.aY.aa)]))
theorem vc (p0:Int):uh none [.int .i64 p0]=(vg p0).map fun r:ao=>(.clean (.agg [.int .i64 r.aZ.ae,.sl false false r.aZ.aa.length (ab (eI .i64) r.aZ.aa),.int .i64 r.aY.ae,.sl false false r.aY.aa.length (ab (eI .i64) r.aY.aa)]),none):=aJ _ _ _ (p0)
def uW:Env:=(Am.ext a7 40 false w9)
theorem QA:bA prog uW:=(bA.none.add H9 false)
theorem Wm:type_of% (ai @w<|ai @ym<|@uW.eq_1):=⟨@w,@ym,@uW.eq_1⟩
theorem VL (p0:Int) (r:ao) (hh:vg p0=some r):aW .clean tab uW FU Tryz.f34 none [.int .i64 p0]=some (.clean (.agg [.int .i64 r.aZ.ae,.sl false false r.aZ.aa.length (ab (eI .i64) r.aZ.aa),.int .i64 r.aY.ae,.sl false false r.aY.aa.length (ab (eI .i64) r.aY.aa)]),none):=by
 apply aB rfl ntmps34 results34
 unfold vg at hh
 obtain⟨r1,hr1,hh⟩:=ah hh
 cases hh
 try simp only[Wm,seval,hr1]
theorem Ef:bP prog 34 uh:=bP.gr (mode := .clean) tok QA mixed func34 (by kernel_rfl) (fun _=>by kernel_rfl) (fun x r h=>VL x r h)
def wz:=fb (jO (bM dx) (eU (bM dx))) (fun x:ak×ak=>tM x.1 x.2) (fun r:Bool =>.clean (.bool r))
theorem Ey (p0_0:Int) (p0_1:(List Int)) (p1_0:Int) (p1_1:(List Int)):wz none [.agg [.int .i64 p0_0,.sl false false p0_1.length (ab (eI .i64) p0_1)],.agg [.int .i64 p1_0,.sl false false p1_1.length (ab (eI .i64) p1_1)]]=(tM (ak.mk p0_0 p0_1) (ak.mk p1_0 p1_1)).map fun r:Bool=>(.clean (.bool r),none):=aJ _ _ _ ((ak.mk p0_0 p0_1),(ak.mk p1_0 p1_1))
theorem QT (p0:ak) (p1:ak) (r:Bool) (hh:tM p0 p1=some r):aW .clean tab a7 FU Tryz.f194 none [.agg [.int .i64 p0.ae,.sl false false p0.aa.length (ab (eI .i64) p0.aa)],.agg [.int .i64 p1.ae,.sl false false p1.aa.length (ab (eI .i64) p1.aa)]]=some (.clean (.bool r),none):=by
 apply aB rfl ntmps194 results194
 unfold tM at hh
 try simp only[w,seval]
 obtain⟨o1,ho1,hh⟩:=ah hh
 refine bs 0 (fun s t H e=>match s with|s19j1=>∃v2j1:Nat,∃v3j1:Nat,t 2=.ptr 2 v2j1 0∧t 3=.ptr 3 v3j1 0∧t 19=.bool s19j1∧H 2=some ⟨v2j1,40,[.int .i64 p0.ae,.sl false false p0.aa.length (ab (eI .i64) p0.aa)],false,false,false⟩∧H 3=some ⟨v3j1,40,[.int .i64 p1.ae,.sl false false p1.aa.length (ab (eI .i64) p1.aa)],false,false,false⟩) (fun s=>s=o1) ?_ ?_
 ·rintro s19j1 t H e ⟨v2j1,v3j1,Zj1⟩ rfl
  try dsimp only at hh
  try simp only[w,seval,Zj1]
  apply sp al hh<;>intro _ hh
  ·cases hh
   try simp only[w,seval]
  ·try simp only[w,seval]
   obtain⟨o7,ho7,hh⟩:=ah hh
   refine ay (fun s t H e=>match s with|s5b=>∃v2b:Nat,∃v3b:Nat,t 2=.ptr 2 v2b 0∧t 3=.ptr 3 v3b 0∧t 5=.int .i64 s5b∧H 2=some ⟨v2b,40,[.int .i64 p0.ae,.sl false false p0.aa.length (ab (eI .i64) p0.aa)],false,false,false⟩∧H 3=some ⟨v3b,40,[.int .i64 p1.ae,.sl false false p1.aa.length (ab (eI .i64) p1.aa)],false,false,false⟩) (fun o x t H e=>match o with|(.inl _)=>x=.exit 0|(.inr r)=>x=.ret∧eR .clean tab none [.tmp 4] ⟨t,EH H,e⟩=some (.clean (.bool r),none)) ho7 ?_ ?_ ?_
   ·refine⟨v2j1,v3j1,?_⟩
    and_intros<;>first|rfl|(simp only[w,seval,Zj1]<;>rfl)
   ·rintro s5b t H e ⟨v2b,v3b,Zb⟩ c hh
    simp only[AQ]at hh
    try simp only[w,seval,Zb]
    apply sp al hh<;>intro _ hh
    ·obtain⟨x9,hx9,hh⟩:=ah hh
     have ax9:=bm (eI .i64) hx9
     simp only[bN]at ax9
     obtain⟨x10,hx10,hh⟩:=ah hh
     have ax10:=bm (eI .i64) hx10
     simp only[bN]at ax10
     try simp only[w,seval,Zb,ax9,ax10]
     refine bt (by kernel_rfl) ?_
     try simp only[w,seval,Zb,ax9,ax10]
     apply sp al hh<;>intro _ hh
     ·cases hh
      try simp only[w,seval]
      refine rz ⟨rfl,?_⟩
      try simp only[w,seval]
     ·cases hh
      try simp only[w,seval,Zb]
      apply gL
      refine⟨v2b,v3b,?_⟩
      and_intros<;>first|rfl|(simp only[w,seval,Zb]<;>rfl)
    ·cases hh
     try simp only[w,seval]
     apply jr
     exact rfl
   ·rintro x t H e hx
    rcases o7 with _|rb
    ·dsimp only at hx hh
     subst hx
     cases hh
     try simp only[w,seval]
    ·dsimp only at hx hh
     obtain⟨rfl,hE⟩:=hx
     cases hh
     try simp only[aU,bd,b7,b5]
     exact hE
 ·clear hh
  have hh:=ho1
  try simp only[w,seval]
  apply sp aN hh<;>intro _ hh
  ·cases hh
   try simp only[w,seval]
   rw[an]
   refine⟨_,rfl,?_⟩
   refine⟨0,0,?_⟩
   and_intros<;>first|rfl|(simp only[w,seval]<;>rfl)
  ·cases hh
   try simp only[w,seval]
   rw[an]
   refine⟨_,rfl,?_⟩
   refine⟨0,0,?_⟩
   and_intros<;>first|rfl|(simp only[w,seval]<;>rfl)
theorem OB:bP prog 194 wz:=bP.gr (mode := .clean) tok bA.none mixed func194 (by kernel_rfl) (fun _=>by kernel_rfl) (fun x r h=>QT x.1 x.2 r h)
def pA:=fb (jO (bM dx) (eU (bM dx))) (fun x:ak×ak=>my x.1 x.2) (fun r:Int =>.clean (.int .i64 r))
theorem v7 (p0_0:Int) (p0_1:(List Int)) (p1_0:Int) (p1_1:(List Int)):pA none [.agg [.int .i64 p0_0,.sl false false p0_1.length (ab (eI .i64) p0_1)],.agg [.int .i64 p1_0,.sl false false p1_1.length (ab (eI .i64) p1_1)]]=(my (ak.mk p0_0 p0_1) (ak.mk p1_0 p1_1)).map fun r:Int=>(.clean (.int .i64 r),none):=aJ _ _ _ ((ak.mk p0_0 p0_1),(ak.mk p1_0 p1_1))
def lU:Env:=(Am.ext (Am.ext (Am.ext a7 144 false eO) 194 false wz) 195 false nK)
theorem Di:bA prog lU:=(((bA.none.add fu false).add OB false).add tJ false)
theorem bK:type_of% (ai @w<|ai @ch<|ai @Ey<|ai @lE<|@lU.eq_1):=⟨@w,@ch,@Ey,@lE,@lU.eq_1⟩
theorem FH (p0:ak) (p1:ak) (r:Int) (hh:my p0 p1=some r):aW .clean tab lU FU Tryz.f146 none [.agg [.int .i64 p0.ae,.sl false false p0.aa.length (ab (eI .i64) p0.aa)],.agg [.int .i64 p1.ae,.sl false false p1.aa.length (ab (eI .i64) p1.aa)]]=some (.clean (.int .i64 r),none):=by
 apply aB rfl ntmps146 results146
 unfold my at hh
 obtain⟨r1,hr1,hh⟩:=ah hh
 try simp only[bK,seval,hr1]
 obtain⟨o2,ho2,hh⟩:=ah hh
 refine bs 0 (fun s t H e=>match s with|s17j1=>∃v2j1:Nat,∃v3j1:Nat,t 2=.ptr 2 v2j1 0∧t 3=.ptr 3 v3j1 0∧t 17=.bool s17j1∧H 2=some ⟨v2j1,40,[.int .i64 p0.ae,.sl false false p0.aa.length (ab (eI .i64) p0.aa)],false,false,false⟩∧H 3=some ⟨v3j1,40,[.int .i64 p1.ae,.sl false false p1.aa.length (ab (eI .i64) p1.aa)],false,false,false⟩) (fun s=>s=o2) ?_ ?_
 ·rintro s17j1 t H e ⟨v2j1,v3j1,Zj1⟩ rfl
  try dsimp only at hh
  try simp only[bK,seval,Zj1]
  apply sp al hh<;>intro _ hh
  ·cases hh
   try simp only[bK,seval]
  ·try simp only[bK,seval,Zj1]
   apply sp al hh<;>intro _ hh
   ·try simp only[bK,seval,Zj1]
    apply sp al hh<;>intro _ hh
    ·cases hh
     try simp only[bK,seval]
    ·cases hh
     try simp only[bK,seval]
   ·obtain⟨r6,hr6,hh⟩:=ah hh
    try simp only[bK,seval,Zj1,hr6]
    refine bt (by kernel_rfl) ?_
    try simp only[bK,seval,hr1,Zj1,hr6]
    apply sp al hh<;>intro _ hh
    ·cases hh
     try simp only[bK,seval]
    ·cases hh
     try simp only[bK,seval]
 ·clear hh
  have hh:=ho2
  try simp only[bK,seval]
  apply sp aN hh<;>intro _ hh
  ·cases hh
   try simp only[bK,seval]
   rw[an]
   refine⟨_,rfl,?_⟩
   refine⟨0,0,?_⟩
   and_intros<;>first|rfl|(simp only[bK,seval,hr1]<;>rfl)
  ·obtain⟨r9,hr9,hh⟩:=ah hh
   try simp only[bK,seval,hr9]
   apply sp aN hh<;>intro _ hh
   ·cases hh
    try simp only[bK,seval]
    rw[an]
    refine⟨_,rfl,?_⟩
    refine⟨0,0,?_⟩
    and_intros<;>first|rfl|(simp only[bK,seval,hr1,hr9]<;>rfl)
   ·obtain⟨r11,hr11,hh⟩:=ah hh
    cases hh
    try simp only[bK,seval,hr11]
    rw[an]
    refine⟨_,rfl,?_⟩
    refine⟨0,0,?_⟩
    and_intros<;>first|rfl|(simp only[bK,seval,hr1,hr9,hr11]<;>rfl)
theorem Ec:bP prog 146 pA:=bP.gr (mode := .clean) tok Di mixed func146 (by kernel_rfl) (fun _=>by kernel_rfl) (fun x r h=>FH x.1 x.2 r h)
def sJ:=fb (eU (bM aC)) (fun x:ao=>nE x) (fun r:Bool =>.clean (.bool r))
theorem AP (p0_0:Int) (p0_1:(List Int)) (p0_2:Int) (p0_3:(List Int)):sJ none [.agg [.int .i64 p0_0,.sl false false p0_1.length (ab (eI .i64) p0_1),.int .i64 p0_2,.sl false false p0_3.length (ab (eI .i64) p0_3)]]=(nE (ao.mk (ak.mk p0_0 p0_1) (ak.mk p0_2 p0_3))).map fun r:Bool=>(.clean (.bool r),none):=aJ _ _ _ ((ao.mk (ak.mk p0_0 p0_1) (ak.mk p0_2 p0_3)))
def pb:Env:=(Am.ext (Am.ext (Am.ext (Am.ext a7 95 false w8) 144 false eO) 145 false uf) 146 false pA)
theorem JX:bA prog pb:=((((bA.none.add H8 false).add fu false).add Ed false).add Ec false)
theorem er:type_of% (ai @w<|ai @yl<|ai @ch<|ai @va<|ai @v7<|@pb.eq_1):=⟨@w,@yl,@ch,@va,@v7,@pb.eq_1⟩
theorem NX (p0:ao) (r:Bool) (hh:nE p0=some r):aW .clean tab pb FU Tryz.f87 none [.agg [.int .i64 p0.aZ.ae,.sl false false p0.aZ.aa.length (ab (eI .i64) p0.aZ.aa),.int .i64 p0.aY.ae,.sl false false p0.aY.aa.length (ab (eI .i64) p0.aY.aa)]]=some (.clean (.bool r),none):=by
 apply aB rfl ntmps87 results87
 unfold nE at hh
 obtain⟨r1,hr1,hh⟩:=ah hh
 try simp only[er,seval,hr1]
 obtain⟨o2,ho2,hh⟩:=ah hh
 refine bs 0 (fun s t H e=>match s with|s20j1=>∃v1j1:Nat,t 1=.ptr 1 v1j1 0∧t 20=.bool s20j1∧H 1=some ⟨v1j1,42,[.int .i64 p0.aZ.ae,.sl false false p0.aZ.aa.length (ab (eI .i64) p0.aZ.aa),.int .i64 p0.aY.ae,.sl false false p0.aY.aa.length (ab (eI .i64) p0.aY.aa)],false,false,false⟩) (fun s=>s=o2) ?_ ?_
 ·rintro s20j1 t H e ⟨v1j1,Zj1⟩ rfl
  try dsimp only at hh
  try simp only[er,seval,Zj1]
  apply sp al hh<;>intro _ hh
  ·cases hh
   try simp only[er,seval]
  ·obtain⟨r4,hr4,hh⟩:=ah hh
   obtain⟨r5,hr5,hh⟩:=ah hh
   obtain⟨r6,hr6,hh⟩:=ah hh
   try simp only[er,seval,Zj1,hr4,hr5,hr6]
   refine bt (by kernel_rfl) ?_
   cases hh
   try simp only[seval]
 ·clear hh
  have hh:=ho2
  try simp only[er,seval]
  apply sp aN hh<;>intro _ hh
  ·cases hh
   try simp only[er,seval]
   rw[an]
   refine⟨_,rfl,?_⟩
   refine⟨0,?_⟩
   and_intros<;>first|rfl|(simp only[er,seval,hr1]<;>rfl)
  ·obtain⟨r8,hr8,hh⟩:=ah hh
   try simp only[er,seval,hr8]
   apply sp aN hh<;>intro _ hh
   ·cases hh
    try simp only[er,seval]
    rw[an]
    refine⟨_,rfl,?_⟩
    refine⟨0,?_⟩
    and_intros<;>first|rfl|(simp only[er,seval,hr1,hr8]<;>rfl)
   ·cases hh
    try simp only[er,seval]
    rw[an]
    refine⟨_,rfl,?_⟩
    refine⟨0,?_⟩
    and_intros<;>first|rfl|(simp only[er,seval,hr1,hr8]<;>rfl)
theorem Ki:bP prog 87 sJ:=bP.gr (mode := .clean) tok JX mixed func87 (by kernel_rfl) (fun _=>by kernel_rfl) (fun x r h=>NX x r h)
def yV:=fb (jO (bM dx) (eU (bM dx))) (fun x:ak×ak=>rM x.1 x.2) (fun r:ak×Int =>.clean (.tup [.agg [.int .i64 r.1.ae,.sl false false r.1.aa.length (ab (eI .i64) r.1.aa)],.int .i64 r.2]))
theorem Ip (p0_0:Int) (p0_1:(List Int)) (p1_0:Int) (p1_1:(List Int)):yV none [.agg [.int .i64 p0_0,.sl false false p0_1.length (ab (eI .i64) p0_1)],.agg [.int .i64 p1_0,.sl false false p1_1.length (ab (eI .i64) p1_1)]]=(rM (ak.mk p0_0 p0_1) (ak.mk p1_0 p1_1)).map fun r:ak×Int=>(.clean (.tup [.agg [.int .i64 r.1.ae,.sl false false r.1.aa.length (ab (eI .i64) r.1.aa)],.int .i64 r.2]),none):=aJ _ _ _ ((ak.mk p0_0 p0_1),(ak.mk p1_0 p1_1))
def uT:Env:=(Am.ext (Am.ext (Am.ext a7 144 false eO) 156 false iF) 201 false oK)
theorem Qx:bA prog uT:=(((bA.none.add fu false).add ku false).add yf false)
theorem jn:type_of% (ai @w<|ai @ch<|ai @ff<|ai @mw<|@uT.eq_1):=⟨@w,@ch,@ff,@mw,@uT.eq_1⟩
theorem VH (p0:ak) (p1:ak) (r:ak×Int) (hh:rM p0 p1=some r):aW .clean tab uT FU Tryz.f163 none [.agg [.int .i64 p0.ae,.sl false false p0.aa.length (ab (eI .i64) p0.aa)],.agg [.int .i64 p1.ae,.sl false false p1.aa.length (ab (eI .i64) p1.aa)]]=some (.clean (.tup [.agg [.int .i64 r.1.ae,.sl false false r.1.aa.length (ab (eI .i64) r.1.aa)],.int .i64 r.2]),none):=by
 apply aB rfl ntmps163 results163
 unfold rM at hh
 obtain⟨r1,hr1,hh⟩:=ah hh
 try simp only[jn,seval,hr1]
 obtain⟨o2,ho2,hh⟩:=ah hh
 refine bs 0 (fun s t H e=>match s with|s13j1=>∃v2j1:Nat,∃v3j1:Nat,∃v4j1:Nat,t 2=.ptr 2 v2j1 0∧t 3=.ptr 3 v3j1 0∧t 4=.ptr 4 v4j1 0∧t 13=.bool s13j1∧H 2=some ⟨v2j1,40,[.int .i64 p0.ae,.sl false false p0.aa.length (ab (eI .i64) p0.aa)],false,false,false⟩∧H 3=some ⟨v3j1,40,[.int .i64 p1.ae,.sl false false p1.aa.length (ab (eI .i64) p1.aa)],false,false,false⟩∧H 4=some ⟨v4j1,40,[.int .i64 0,.sl true true 0 []],false,false,false⟩) (fun s=>s=o2) ?_ ?_
 ·rintro s13j1 t H e ⟨v2j1,v3j1,v4j1,Zj1⟩ rfl
  try dsimp only at hh
  try simp only[jn,seval,Zj1]
  apply sp al hh<;>intro _ hh
  ·cases hh
   try simp only[jn,seval,Zj1]
  ·obtain⟨r4,hr4,hh⟩:=ah hh
   obtain⟨r5,hr5,hh⟩:=ah hh
   try simp only[jn,seval,Zj1,hr4,hr5]
   refine bt (by kernel_rfl) ?_
   cases hh
   try simp only[seval]
 ·clear hh
  have hh:=ho2
  try simp only[jn,seval]
  apply sp aN hh<;>intro _ hh
  ·cases hh
   try simp only[jn,seval]
   rw[an]
   refine⟨_,rfl,?_⟩
   refine⟨0,0,0,?_⟩
   and_intros<;>first|rfl|(simp only[jn,seval,hr1]<;>rfl)
  ·obtain⟨r7,hr7,hh⟩:=ah hh
   cases hh
   try simp only[jn,seval,hr7]
   rw[an]
   refine⟨_,rfl,?_⟩
   refine⟨0,0,0,?_⟩
   and_intros<;>first|rfl|(simp only[jn,seval,hr1,hr7]<;>rfl)
theorem Rb:bP prog 163 yV:=bP.gr (mode := .clean) tok Qx mixed func163 (by kernel_rfl) (fun _=>by kernel_rfl) (fun x r h=>VH x.1 x.2 r h)
def yT:=fb (jO (bM dx) (eU (bM dx))) (fun x:ak×ak=>yo x.1 x.2) (fun r:ak×Int =>.clean (.tup [.agg [.int .i64 r.1.ae,.sl false false r.1.aa.length (ab (eI .i64) r.1.aa)],.int .i64 r.2]))
theorem Im (p0_0:Int) (p0_1:(List Int)) (p1_0:Int) (p1_1:(List Int)):yT none [.agg [.int .i64 p0_0,.sl false false p0_1.length (ab (eI .i64) p0_1)],.agg [.int .i64 p1_0,.sl false false p1_1.length (ab (eI .i64) p1_1)]]=(yo (ak.mk p0_0 p0_1) (ak.mk p1_0 p1_1)).map fun r:ak×Int=>(.clean (.tup [.agg [.int .i64 r.1.ae,.sl false false r.1.aa.length (ab (eI .i64) r.1.aa)],.int .i64 r.2]),none):=aJ _ _ _ ((ak.mk p0_0 p0_1),(ak.mk p1_0 p1_1))
def uQ:Env:=(Am.ext (Am.ext (Am.ext (Am.ext (Am.ext a7 144 false eO) 156 false iF) 195 false nK) 198 false qA) 199 false l8)
theorem Qu:bA prog uQ:=(((((bA.none.add fu false).add ku false).add tJ false).add AI false).add rE false)
theorem cw:type_of% (ai @w<|ai @ch<|ai @ff<|ai @lE<|ai @oA<|ai @kz<|@uQ.eq_1):=⟨@w,@ch,@ff,@lE,@oA,@kz,@uQ.eq_1⟩
theorem VD (p0:ak) (p1:ak) (r:ak×Int) (hh:yo p0 p1=some r):aW .clean tab uQ FU Tryz.f164 none [.agg [.int .i64 p0.ae,.sl false false p0.aa.length (ab (eI .i64) p0.aa)],.agg [.int .i64 p1.ae,.sl false false p1.aa.length (ab (eI .i64) p1.aa)]]=some (.clean (.tup [.agg [.int .i64 r.1.ae,.sl false false r.1.aa.length (ab (eI .i64) r.1.aa)],.int .i64 r.2]),none):=by
 apply aB rfl ntmps164 results164
 unfold yo at hh
 obtain⟨r1,hr1,hh⟩:=ah hh
 try simp only[cw,seval,hr1]
 obtain⟨o2,ho2,hh⟩:=ah hh
 refine bs 0 (fun s t H e=>match s with|s13j1=>∃v2j1:Nat,∃v3j1:Nat,∃v4j1:Nat,t 2=.ptr 2 v2j1 0∧t 3=.ptr 3 v3j1 0∧t 4=.ptr 4 v4j1 0∧t 13=.bool s13j1∧H 2=some ⟨v2j1,40,[.int .i64 p0.ae,.sl false false p0.aa.length (ab (eI .i64) p0.aa)],false,false,false⟩∧H 3=some ⟨v3j1,40,[.int .i64 p1.ae,.sl false false p1.aa.length (ab (eI .i64) p1.aa)],false,false,false⟩∧H 4=some ⟨v4j1,40,[.int .i64 0,.sl true true 0 []],false,false,false⟩) (fun s=>s=o2) ?_ ?_
 ·rintro s13j1 t H e ⟨v2j1,v3j1,v4j1,Zj1⟩ rfl
  try dsimp only at hh
  try simp only[cw,seval,Zj1]
  apply sp al hh<;>intro _ hh
  ·cases hh
   try simp only[cw,seval,Zj1]
  ·try simp only[cw,seval,Zj1]
   obtain⟨o4,ho4,hh⟩:=ah hh
   refine bs 0 (fun s t H e=>match s with|s29j2=>∃v2j2:Nat,∃v3j2:Nat,∃v4j2:Nat,t 2=.ptr 2 v2j2 0∧t 3=.ptr 3 v3j2 0∧t 4=.ptr 4 v4j2 0∧t 29=.bool s29j2∧H 2=some ⟨v2j2,40,[.int .i64 p0.ae,.sl false false p0.aa.length (ab (eI .i64) p0.aa)],false,false,false⟩∧H 3=some ⟨v3j2,40,[.int .i64 p1.ae,.sl false false p1.aa.length (ab (eI .i64) p1.aa)],false,false,false⟩∧H 4=some ⟨v4j2,40,[.int .i64 0,.sl true true 0 []],false,false,false⟩) (fun s=>s=o4) ?_ ?_
   ·rintro s29j2 t H e ⟨v2j2,v3j2,v4j2,Zj2⟩ rfl
    try dsimp only at hh
    try simp only[cw,seval,Zj2]
    apply sp al hh<;>intro _ hh
    ·obtain⟨r6,hr6,hh⟩:=ah hh
     obtain⟨r7,hr7,hh⟩:=ah hh
     try simp only[cw,seval,Zj2,hr6,hr7]
     refine bt (by kernel_rfl) ?_
     cases hh
     try simp only[seval]
    ·obtain⟨r8,hr8,hh⟩:=ah hh
     try simp only[cw,seval,Zj2,hr8]
     apply sp al hh<;>intro _ hh
     ·obtain⟨r10,hr10,hh⟩:=ah hh
      obtain⟨r11,hr11,hh⟩:=ah hh
      try simp only[cw,seval,Zj2,hr10,hr11]
      refine bt (by kernel_rfl) ?_
      cases hh
      try simp only[seval]
     ·obtain⟨r12,hr12,hh⟩:=ah hh
      obtain⟨r13,hr13,hh⟩:=ah hh
      try simp only[cw,seval,Zj2,hr12,hr13]
      refine bt (by kernel_rfl) ?_
      cases hh
      try simp only[seval]
   ·clear hh
    have hh:=ho4
    try simp only[cw,seval]
    apply sp aN hh<;>intro _ hh
    ·cases hh
     try simp only[cw,seval]
     rw[an]
     refine⟨_,rfl,?_⟩
     refine⟨v2j1,v3j1,v4j1,?_⟩
     and_intros<;>first|rfl|(simp only[cw,seval,Zj1]<;>rfl)
    ·try simp only[cw,seval,Zj1]
     apply sp aN hh<;>intro _ hh
     ·cases hh
      try simp only[cw,seval]
      rw[an]
      refine⟨_,rfl,?_⟩
      refine⟨v2j1,v3j1,v4j1,?_⟩
      and_intros<;>first|rfl|(simp only[cw,seval,Zj1]<;>rfl)
     ·cases hh
      try simp only[cw,seval,Zj1]
      rw[an]
      refine⟨_,rfl,?_⟩
      refine⟨v2j1,v3j1,v4j1,?_⟩
      and_intros<;>first|rfl|(simp only[cw,seval,Zj1]<;>rfl)
 ·clear hh
  have hh:=ho2
  try simp only[cw,seval]
  apply sp aN hh<;>intro _ hh
  ·cases hh
   try simp only[cw,seval]
   rw[an]
   refine⟨_,rfl,?_⟩
   refine⟨0,0,0,?_⟩
   and_intros<;>first|rfl|(simp only[cw,seval,hr1]<;>rfl)
  ·obtain⟨r17,hr17,hh⟩:=ah hh
   cases hh
   try simp only[cw,seval,hr17]
   rw[an]
   refine⟨_,rfl,?_⟩
   refine⟨0,0,0,?_⟩
   and_intros<;>first|rfl|(simp only[cw,seval,hr1,hr17]<;>rfl)
theorem Q9:bP prog 164 yT:=bP.gr (mode := .clean) tok Qu mixed func164 (by kernel_rfl) (fun _=>by kernel_rfl) (fun x r h=>VD x.1 x.2 r h)
def yW:=fb (jO (bM dx) (eU (bM dx))) (fun x:ak×ak=>yr x.1 x.2) (fun r:ak×Int =>.clean (.tup [.agg [.int .i64 r.1.ae,.sl false false r.1.aa.length (ab (eI .i64) r.1.aa)],.int .i64 r.2]))
theorem Iq (p0_0:Int) (p0_1:(List Int)) (p1_0:Int) (p1_1:(List Int)):yW none [.agg [.int .i64 p0_0,.sl false false p0_1.length (ab (eI .i64) p0_1)],.agg [.int .i64 p1_0,.sl false false p1_1.length (ab (eI .i64) p1_1)]]=(yr (ak.mk p0_0 p0_1) (ak.mk p1_0 p1_1)).map fun r:ak×Int=>(.clean (.tup [.agg [.int .i64 r.1.ae,.sl false false r.1.aa.length (ab (eI .i64) r.1.aa)],.int .i64 r.2]),none):=aJ _ _ _ ((ak.mk p0_0 p0_1),(ak.mk p1_0 p1_1))
def uV:Env:=(Am.ext (Am.ext (Am.ext a7 144 false eO) 154 false ug) 164 false yT)
theorem Qz:bA prog uV:=(((bA.none.add fu false).add Ee false).add Q9 false)
theorem zH:type_of% (ai @w<|ai @ch<|ai @vb<|ai @Im<|@uV.eq_1):=⟨@w,@ch,@vb,@Im,@uV.eq_1⟩
theorem VJ (p0:ak) (p1:ak) (r:ak×Int) (hh:yr p0 p1=some r):aW .clean tab uV FU Tryz.f172 none [.agg [.int .i64 p0.ae,.sl false false p0.aa.length (ab (eI .i64) p0.aa)],.agg [.int .i64 p1.ae,.sl false false p1.aa.length (ab (eI .i64) p1.aa)]]=some (.clean (.tup [.agg [.int .i64 r.1.ae,.sl false false r.1.aa.length (ab (eI .i64) r.1.aa)],.int .i64 r.2]),none):=by
 apply aB rfl ntmps172 results172
 unfold yr at hh
 obtain⟨r1,hr1,hh⟩:=ah hh
 try simp only[zH,seval,hr1]
 apply sp al hh<;>intro _ hh
 ·cases hh
  try simp only[zH,seval]
 ·obtain⟨r3,hr3,hh⟩:=ah hh
  obtain⟨r4,hr4,hh⟩:=ah hh
  try simp only[zH,seval,hr3,hr4]
  refine bt (by kernel_rfl) ?_
  cases hh
  try simp only[seval]
theorem Rc:bP prog 172 yW:=bP.gr (mode := .clean) tok Qz mixed func172 (by kernel_rfl) (fun _=>by kernel_rfl) (fun x r h=>VJ x.1 x.2 r h)
def yY:=fb (jO (bM aC) (eU (bM aC))) (fun x:ao×ao=>yw x.1 x.2) (fun r:ao×Int =>.clean (.tup [.agg [.int .i64 r.1.aZ.ae,.sl false false r.1.aZ.aa.length (ab (eI .i64) r.1.aZ.aa),.int .i64 r.1.aY.ae,.sl false false r.1.aY.aa.length (ab (eI .i64) r.1.aY.aa)],.int .i64 r.2]))
theorem Is (p0_0:Int) (p0_1:(List Int)) (p0_2:Int) (p0_3:(List Int)) (p1_0:Int) (p1_1:(List Int)) (p1_2:Int) (p1_3:(List Int)):yY none [.agg [.int .i64 p0_0,.sl false false p0_1.length (ab (eI .i64) p0_1),.int .i64 p0_2,.sl false false p0_3.length (ab (eI .i64) p0_3)],.agg [.int .i64 p1_0,.sl false false p1_1.length (ab (eI .i64) p1_1),.int .i64 p1_2,.sl false false p1_3.length (ab (eI .i64) p1_3)]]=(yw (ao.mk (ak.mk p0_0 p0_1) (ak.mk p0_2 p0_3)) (ao.mk (ak.mk p1_0 p1_1) (ak.mk p1_2 p1_3))).map fun r:ao×Int=>(.clean (.tup [.agg [.int .i64 r.1.aZ.ae,.sl false false r.1.aZ.aa.length (ab (eI .i64) r.1.aZ.aa),.int .i64 r.1.aY.ae,.sl false false r.1.aY.aa.length (ab (eI .i64) r.1.aY.aa)],.int .i64 r.2]),none):=aJ _ _ _ ((ao.mk (ak.mk p0_0 p0_1) (ak.mk p0_2 p0_3)),(ao.mk (ak.mk p1_0 p1_1) (ak.mk p1_2 p1_3)))
def uY:Env:=(Am.ext (Am.ext (Am.ext (Am.ext a7 87 false sJ) 94 false ui) 163 false yV) 172 false yW)
theorem QC:bA prog uY:=((((bA.none.add Ki false).add Eg false).add Rb false).add Rc false)
theorem jo:type_of% (ai @w<|ai @AP<|ai @vd<|ai @Ip<|ai @Iq<|@uY.eq_1):=⟨@w,@AP,@vd,@Ip,@Iq,@uY.eq_1⟩
theorem VN (p0:ao) (p1:ao) (r:ao×Int) (hh:yw p0 p1=some r):aW .clean tab uY FU Tryz.f125 none [.agg [.int .i64 p0.aZ.ae,.sl false false p0.aZ.aa.length (ab (eI .i64) p0.aZ.aa),.int .i64 p0.aY.ae,.sl false false p0.aY.aa.length (ab (eI .i64) p0.aY.aa)],.agg [.int .i64 p1.aZ.ae,.sl false false p1.aZ.aa.length (ab (eI .i64) p1.aZ.aa),.int .i64 p1.aY.ae,.sl false false p1.aY.aa.length (ab (eI .i64) p1.aY.aa)]]=some (.clean (.tup [.agg [.int .i64 r.1.aZ.ae,.sl false false r.1.aZ.aa.length (ab (eI .i64) r.1.aZ.aa),.int .i64 r.1.aY.ae,.sl false false r.1.aY.aa.length (ab (eI .i64) r.1.aY.aa)],.int .i64 r.2]),none):=by
 apply aB rfl ntmps125 results125
 unfold yw at hh
 obtain⟨r1,hr1,hh⟩:=ah hh
 try simp only[jo,seval,hr1]
 obtain⟨o2,ho2,hh⟩:=ah hh
 refine bs 0 (fun s t H e=>match s with|s21j1=>∃v2j1:Nat,∃v3j1:Nat,∃v4j1:Nat,t 2=.ptr 2 v2j1 0∧t 3=.ptr 3 v3j1 0∧t 4=.ptr 4 v4j1 0∧t 21=.bool s21j1∧H 2=some ⟨v2j1,42,[.int .i64 p0.aZ.ae,.sl false false p0.aZ.aa.length (ab (eI .i64) p0.aZ.aa),.int .i64 p0.aY.ae,.sl false false p0.aY.aa.length (ab (eI .i64) p0.aY.aa)],false,false,false⟩∧H 3=some ⟨v3j1,42,[.int .i64 p1.aZ.ae,.sl false false p1.aZ.aa.length (ab (eI .i64) p1.aZ.aa),.int .i64 p1.aY.ae,.sl false false p1.aY.aa.length (ab (eI .i64) p1.aY.aa)],false,false,false⟩∧H 4=some ⟨v4j1,42,[.int .i64 0,.sl true true 0 [],.int .i64 0,.sl true true 0 []],false,false,false⟩) (fun s=>s=o2) ?_ ?_
 ·rintro s21j1 t H e ⟨v2j1,v3j1,v4j1,Zj1⟩ rfl
  try dsimp only at hh
  try simp only[jo,seval,Zj1]
  apply sp al hh<;>intro _ hh
  ·cases hh
   try simp only[jo,seval,Zj1]
  ·obtain⟨r4,hr4,hh⟩:=ah hh
   obtain⟨r5,hr5,hh⟩:=ah hh
   obtain⟨r6,hr6,hh⟩:=ah hh
   obtain⟨r7,hr7,hh⟩:=ah hh
   obtain⟨r8,hr8,hh⟩:=ah hh
   cases hh
   try simp only[jo,seval,Zj1,hr4,hr5,hr6,hr7,hr8]
 ·clear hh
  have hh:=ho2
  try simp only[jo,seval]
  apply sp aN hh<;>intro _ hh
  ·cases hh
   try simp only[jo,seval]
   rw[an]
   refine⟨_,rfl,?_⟩
   refine⟨0,0,0,?_⟩
   and_intros<;>first|rfl|(simp only[jo,seval,hr1]<;>rfl)
  ·obtain⟨r10,hr10,hh⟩:=ah hh
   cases hh
   try simp only[jo,seval,hr10]
   rw[an]
   refine⟨_,rfl,?_⟩
   refine⟨0,0,0,?_⟩
   and_intros<;>first|rfl|(simp only[jo,seval,hr1,hr10]<;>rfl)
theorem Rf:bP prog 125 yY:=bP.gr (mode := .clean) tok QC mixed func125 (by kernel_rfl) (fun _=>by kernel_rfl) (fun x r h=>VN x.1 x.2 r h)
def pt:=fb (jO (aI .i64) (eU (bM aC))) (fun x:Int×ao=>iJ x.1 x.2) (fun r:fA =>.clean (.agg [.sl false false r.bg.length (ab (eI .i64) r.bg),.sl false false r.aT.length (ab cq r.aT)]))
theorem vX (p0:Int) (p1_0:Int) (p1_1:(List Int)) (p1_2:Int) (p1_3:(List Int)):pt none [.int .i64 p0,.agg [.int .i64 p1_0,.sl false false p1_1.length (ab (eI .i64) p1_1),.int .i64 p1_2,.sl false false p1_3.length (ab (eI .i64) p1_3)]]=(iJ p0 (ao.mk (ak.mk p1_0 p1_1) (ak.mk p1_2 p1_3))).map fun r:fA=>(.clean (.agg [.sl false false r.bg.length (ab (eI .i64) r.bg),.sl false false r.aT.length (ab cq r.aT)]),none):=aJ _ _ _ (p0,(ao.mk (ak.mk p1_0 p1_1) (ak.mk p1_2 p1_3)))
def lQ:Env:=(Am.ext (Am.ext a7 34 false uh) 125 false yY)
theorem Dd:bA prog lQ:=((bA.none.add Ef false).add Rf false)
theorem F1:type_of% (ai @w<|ai @vc<|ai @Is<|@lQ.eq_1):=⟨@w,@vc,@Is,@lQ.eq_1⟩
theorem FD (p0:Int) (p1:ao) (r:fA) (hh:iJ p0 p1=some r):aW .clean tab lQ FU Tryz.f68 none [.int .i64 p0,.agg [.int .i64 p1.aZ.ae,.sl false false p1.aZ.aa.length (ab (eI .i64) p1.aZ.aa),.int .i64 p1.aY.ae,.sl false false p1.aY.aa.length (ab (eI .i64) p1.aY.aa)]]=some (.clean (.agg [.sl false false r.bg.length (ab (eI .i64) r.bg),.sl false false r.aT.length (ab cq r.aT)]),none):=by
 apply aB rfl ntmps68 results68
 unfold iJ at hh
 obtain⟨r1,hr1,hh⟩:=ah hh
 obtain⟨r2,hr2,hh⟩:=ah hh
 cases hh
 try simp only[F1,seval,hr1,hr2]
theorem D8:bP prog 68 pt:=bP.gr (mode := .clean) tok Dd mixed func68 (by kernel_rfl) (fun _=>by kernel_rfl) (fun x r h=>FD x.1 x.2 r h)
def fV:=fb (jO (aI .i64) (jO (aI .i64) (eU (aI .i64)))) (fun x:Int×Int×Int=>da x.1 x.2.1 x.2.2) (fun r:Bool =>.clean (.bool r))
theorem dJ (p0:Int) (p1:Int) (p2:Int):fV none [.int .i64 p0,.int .i64 p1,.int .i64 p2]=(da p0 p1 p2).map fun r:Bool=>(.clean (.bool r),none):=aJ _ _ _ (p0,p1,p2)
theorem J7 (p0:Int) (p1:Int) (p2:Int) (r:Bool) (hh:da p0 p1 p2=some r):aW .clean tab a7 FU Tryz.f71 none [.int .i64 p0,.int .i64 p1,.int .i64 p2]=some (.clean (.bool r),none):=by
 apply aB rfl ntmps71 results71
 unfold da at hh
 try simp only[w,seval]
 apply sp cY hh<;>intro _ hh
 ·cases hh
  try simp only[w,seval]
 ·cases hh
  try simp only[w,seval]
theorem ir:bP prog 71 fV:=bP.gr (mode := .clean) tok bA.none mixed func71 (by kernel_rfl) (fun _=>by kernel_rfl) (fun x r h=>J7 x.1 x.2.1 x.2.2 r h)
def jY:=fb (eU (pE (eI .i64))) (fun x:(List Int)=>dN x) (fun r:(List Int) =>.clean (.sl false false r.length (ab (eI .i64) r)))
theorem fe (p0:(List Int)):jY none [.sl false false p0.length (ab (eI .i64) p0)]=(dN p0).map fun r:(List Int)=>(.clean (.sl false false r.length (ab (eI .i64) r)),none):=aJ _ _ _ (p0)
theorem QI (p0:(List Int)) (r:(List Int)) (hh:dN p0=some r):aW .clean tab a7 FU Tryz.f196 none [.sl false false p0.length (ab (eI .i64) p0)]=some (.clean (.sl false false r.length (ab (eI .i64) r)),none):=by
 apply aB rfl ntmps196 results196
 unfold dN at hh
 try simp only[w,seval]
 obtain⟨o4,ho4,hh⟩:=ah hh
 refine ay (fun s t H e=>match s with|s3a=>t 0=.sl false false p0.length (ab (eI .i64) p0)∧t 3=.int .i64 s3a) (fun o x t H e=>match o with|s3ax=>x=.exit 0∧t 0=.sl false false p0.length (ab (eI .i64) p0)∧t 3=.int .i64 s3ax) ho4 ?_ ?_ ?_
 ·and_intros<;>first|rfl|(simp only[w,seval]<;>rfl)
 ·rintro s3a t H e Za c hh
  simp only[ma]at hh
  try simp only[w,seval,Za]
  apply sp cY hh<;>intro _ hh
  ·obtain⟨x6,hx6,hh⟩:=ah hh
   have ax6:=bm (eI .i64) hx6
   simp only[bN]at ax6
   try simp only[w,seval,Za,ax6]
   apply sp al hh<;>intro _ hh
   ·cases hh
    try simp only[w,seval,Za]
    apply gL
    and_intros<;>first|rfl|(simp only[w,seval,Za]<;>rfl)
   ·cases hh
    try simp only[w,seval]
    apply jr
    refine⟨rfl,?_⟩
    and_intros<;>first|rfl|(simp only[w,seval,Za]<;>rfl)
  ·cases hh
   try simp only[w,seval]
   apply jr
   refine⟨rfl,?_⟩
   and_intros<;>first|rfl|(simp only[w,seval,Za]<;>rfl)
 ·rintro x t H e hx
  obtain⟨s3ax,rfl⟩:∃z,z=o4:=⟨_,rfl⟩
  dsimp only at hx hh
  obtain⟨rfl,Zax⟩:=hx
  obtain⟨x8,hx8,hh⟩:=ah hh
  obtain⟨q9a,q9b,q9c,q9d,q9e⟩:=Kx (eI .i64) hx8
  simp only[bN]at q9e
  cases hh
  try simp only[w,seval,Zax,q9a,q9c,q9d,q9e]
theorem mu:bP prog 196 jY:=bP.gr (mode := .clean) tok bA.none mixed func196 (by kernel_rfl) (fun _=>by kernel_rfl) (fun x r h=>QI x r h)
def qp:=mkE 3 (eI .i64) (as0) (fun (l:(List Int)) (x:Unit)=>dN l)
theorem Kr (pre post:List D) (p0:(List Int)):qp (some (.buf 0 0 1 pre.length p0.length,⟨0,3,pre++(ab (eI .i64) p0++post),false,true,false⟩)) []=(dN p0).map fun r=>(.fresh 3 1 r.length (ab (eI .i64) r),none):=acw _ _ _ _ pre post p0 ()
theorem J1 (pre post:List D) (p0:(List Int)) (r:(List Int)) (hh:dN p0=some r):aW (.fresh 3 1) tab a7 FU Tryz.f196 (some (.buf 0 0 1 pre.length p0.length,⟨0,3,pre++(ab (eI .i64) p0++post),false,true,false⟩)) []=some (.fresh 3 1 r.length (ab (eI .i64) r),none):=by
 apply E8 rfl ntmps196 results196
 unfold dN at hh
 try simp only[w,seval]
 obtain⟨o4,ho4,hh⟩:=ah hh
 refine ay (fun s t H e=>match s with|s3a=>∃v0a:Nat,t 0=.buf 0 v0a 1 pre.length (p0).length∧t 3=.int .i64 s3a∧H 0=some ⟨v0a,3,pre++(ab (eI .i64) p0++post),false,true,false⟩) (fun o x t H e=>match o with|s3ax=>x=.exit 0∧∃v0ax:Nat,t 0=.buf 0 v0ax 1 pre.length (p0).length∧t 3=.int .i64 s3ax∧H 0=some ⟨v0ax,3,pre++(ab (eI .i64) p0++post),false,true,false⟩) ho4 ?_ ?_ ?_
 ·refine⟨0,?_⟩
  and_intros<;>first|rfl|(simp only[w,seval]<;>rfl)
 ·rintro s3a t H e ⟨v0a,Za⟩ c hh
  simp only[ma]at hh
  try simp only[w,seval,Za]
  apply sp cY hh<;>intro _ hh
  ·obtain⟨x6,hx6,hh⟩:=ah hh
   have ax6:=M3 (pre:=pre) (post:=post) (eI .i64) hx6
   simp only[bN]at ax6
   try simp only[w,seval,Za,ax6]
   apply sp al hh<;>intro _ hh
   ·cases hh
    try simp only[w,seval,Za]
    apply gL
    refine⟨v0a,?_⟩
    and_intros<;>first|rfl|(simp only[w,seval,Za]<;>rfl)
   ·cases hh
    try simp only[w,seval]
    apply jr
    refine⟨rfl,⟨v0a,?_⟩⟩
    and_intros<;>first|rfl|(simp only[w,seval,Za]<;>rfl)
  ·cases hh
   try simp only[w,seval]
   apply jr
   refine⟨rfl,⟨v0a,?_⟩⟩
   and_intros<;>first|rfl|(simp only[w,seval,Za]<;>rfl)
 ·rintro x t H e hx
  obtain⟨s3ax,rfl⟩:∃z,z=o4:=⟨_,rfl⟩
  dsimp only at hx hh
  obtain⟨rfl,⟨v0ax,Zax⟩⟩:=hx
  obtain⟨x8,hx8,hh⟩:=ah hh
  obtain⟨q9a,q9b,q9c,q9d,q9e⟩:=Kx (eI .i64) hx8
  simp only[bN]at q9e
  obtain⟨q9f,q9g⟩:=aaX (pre:=pre) (post:=post) (eI .i64) hx8
  simp only[bN]at q9f q9g
  cases hh
  try simp only[w,seval,Zax,q9a,q9c,q9f,q9g,q9d]
theorem FK:bP prog 196 qp:=bP.adE tok bA.none mixed func196 (by kernel_rfl) ⟨by kernel_rfl,by kernel_rfl⟩ (fun _=>ahB (by kernel_rfl)) (fun pre post l x r h=>J1 pre post l r h)
def fU:=fb (jO (aI .i64) (eU (pE (eI .i64)))) (fun x:Int×(List Int)=>cy x.1 x.2) (fun r:ak =>.clean (.agg [.int .i64 r.ae,.sl false false r.aa.length (ab (eI .i64) r.aa)]))
theorem dI (p0:Int) (p1:(List Int)):fU none [.int .i64 p0,.sl false false p1.length (ab (eI .i64) p1)]=(cy p0 p1).map fun r:ak=>(.clean (.agg [.int .i64 r.ae,.sl false false r.aa.length (ab (eI .i64) r.aa)]),none):=aJ _ _ _ (p0,p1)
def mZ:Env:=(Am.ext a7 196 false jY)
theorem Fs:bA prog mZ:=(bA.none.add mu false)
theorem rV:type_of% (ai @w<|ai @fe<|@mZ.eq_1):=⟨@w,@fe,@mZ.eq_1⟩
theorem J0 (p0:Int) (p1:(List Int)) (r:ak) (hh:cy p0 p1=some r):aW .clean tab mZ FU Tryz.f147 none [.int .i64 p0,.sl false false p1.length (ab (eI .i64) p1)]=some (.clean (.agg [.int .i64 r.ae,.sl false false r.aa.length (ab (eI .i64) r.aa)]),none):=by
 apply aB rfl ntmps147 results147
 unfold cy at hh
 obtain⟨r1,hr1,hh⟩:=ah hh
 try simp only[rV,seval,hr1]
 apply sp al hh<;>intro _ hh
 ·cases hh
  try simp only[rV,seval]
 ·cases hh
  try simp only[rV,seval]
theorem im:bP prog 147 fU:=bP.gr (mode := .clean) tok Fs mixed func147 (by kernel_rfl) (fun _=>by kernel_rfl) (fun x r h=>J0 x.1 x.2 r h)
def wZ:=fb (eU (aI .i64)) (fun x:Int=>pF x) (fun r:ak =>.clean (.agg [.int .i64 r.ae,.sl false false r.aa.length (ab (eI .i64) r.aa)]))
theorem yh (p0:Int):wZ none [.int .i64 p0]=(pF p0).map fun r:ak=>(.clean (.agg [.int .i64 r.ae,.sl false false r.aa.length (ab (eI .i64) r.aa)]),none):=aJ _ _ _ (p0)
def xF:Env:=(Am.ext a7 147 false fU)
theorem U8:bA prog xF:=(bA.none.add im false)
theorem gm:type_of% (ai @w<|ai @dI<|@xF.eq_1):=⟨@w,@dI,@xF.eq_1⟩
theorem Ye (p0:Int) (r:ak) (hh:pF p0=some r):aW .clean tab xF FU Tryz.f109 none [.int .i64 p0]=some (.clean (.agg [.int .i64 r.ae,.sl false false r.aa.length (ab (eI .i64) r.aa)]),none):=by
 apply aB rfl ntmps109 results109
 unfold pF at hh
 try simp only[gm,seval,-Int.reduceToNat]
 obtain⟨o1,ho1,hh⟩:=ah hh
 refine jN 0 (fun s t H e=>match s with|(s3j1,s4j1)=>∃v2j1:Nat,t 2=.ptr 2 v2j1 0∧t 3=.int .i64 s3j1∧t 4=.int .u64 s4j1∧H 2=some ⟨v2j1,40,[.int .i64 0,.sl true true 0 []],false,false,false⟩) (fun s=>s=o1) ?_ ?_
 ·rintro⟨s3j1,s4j1⟩ t H e ⟨v2j1,Zj1⟩ rfl
  try dsimp only at hh
  try simp only[gm,seval,-Int.reduceToNat]
  obtain⟨o7,ho7,hh⟩:=ah hh
  refine ay (fun s t H e=>match s with|(s4b,l5b)=>∃v2b:Nat,∃v5b:Nat,t 2=.ptr 2 v2b 0∧t 3=.int .i64 s3j1∧t 4=.int .u64 s4b∧t 5=.buf 5 v5b 1 0 (l5b).length∧H 2=some ⟨v2b,40,[.int .i64 0,.sl true true 0 []],false,false,false⟩∧H 5=some ⟨v5b,3,ab (eI .i64) l5b,false,true,false⟩) (fun o x t H e=>match o with|l5bx=>x=.exit 0∧∃v2bx:Nat,∃v5bx:Nat,t 2=.ptr 2 v2bx 0∧t 3=.int .i64 s3j1∧t 5=.buf 5 v5bx 1 0 (l5bx).length∧H 2=some ⟨v2bx,40,[.int .i64 0,.sl true true 0 []],false,false,false⟩∧H 5=some ⟨v5bx,3,ab (eI .i64) l5bx,false,true,false⟩) ho7 ?_ ?_ ?_
  ·refine⟨v2j1,e,?_⟩
   and_intros<;>first|rfl|(simp only[gm,seval,-Int.reduceToNat,Zj1]<;>rfl)
  ·rintro⟨s4b,l5b⟩ t H e ⟨v2b,v5b,Zb⟩ c hh
   simp only[uq]at hh
   try simp only[gm,seval,-Int.reduceToNat,Zb]
   apply sp al hh<;>intro _ hh
   ·obtain⟨x9,hx9,hh⟩:=ah hh
    obtain⟨q10a,q10b,q10c,q10d⟩:=gV (eI .i64) hx9
    simp only[bN]at q10b
    obtain⟨x11,hx11,hh⟩:=ah hh
    have q12:=lY hx11
    cases hh
    try simp only[gm,seval,-Int.reduceToNat,Zb,q10a,q10b,q10c,q10d,q12]
    apply gL
    refine⟨v2b,e+1,?_⟩
    and_intros<;>first|rfl|(simp only[gm,seval,-Int.reduceToNat,Zb]<;>rfl)
   ·cases hh
    try simp only[gm,seval,-Int.reduceToNat]
    apply jr
    refine⟨rfl,⟨v2b,v5b,?_⟩⟩
    and_intros<;>first|rfl|(simp only[gm,seval,-Int.reduceToNat,Zb]<;>rfl)
  ·rintro x t H e hx
   obtain⟨l5bx,rfl⟩:∃z,z=o7:=⟨_,rfl⟩
   dsimp only at hx hh
   obtain⟨rfl,⟨v2bx,v5bx,Zbx⟩⟩:=hx
   obtain⟨r13,hr13,hh⟩:=ah hh
   cases hh
   try simp only[gm,seval,-Int.reduceToNat,Zbx,hr13]
 ·clear hh
  have hh:=ho1
  try simp only[gm,seval,-Int.reduceToNat]
  apply sp al hh<;>intro _ hh
  ·cases hh
   try simp only[gm,seval,-Int.reduceToNat]
   rw[an]
   refine⟨_,rfl,?_⟩
   refine⟨0,?_⟩
   and_intros<;>first|rfl|(simp only[gm,seval,-Int.reduceToNat]<;>rfl)
  ·cases hh
   try simp only[gm,seval,-Int.reduceToNat]
   rw[an]
   refine⟨_,rfl,?_⟩
   refine⟨0,?_⟩
   and_intros<;>first|rfl|(simp only[gm,seval,-Int.reduceToNat]<;>rfl)
theorem H6:bP prog 109 wZ:=bP.gr (mode := .clean) tok U8 mixed func109 (by kernel_rfl) (fun _=>by kernel_rfl) (fun x r h=>Ye x r h)
def qt:=fb (eU (aI .i64)) (fun x:Int=>jH x) (fun r:ao =>.clean (.agg [.int .i64 r.aZ.ae,.sl false false r.aZ.aa.length (ab (eI .i64) r.aZ.aa),.int .i64 r.aY.ae,.sl false false r.aY.aa.length (ab (eI .i64) r.aY.aa)]))
theorem rI (p0:Int):qt none [.int .i64 p0]=(jH p0).map fun r:ao=>(.clean (.agg [.int .i64 r.aZ.ae,.sl false false r.aZ.aa.length (ab (eI .i64) r.aZ.aa),.int .i64 r.aY.ae,.sl false false r.aY.aa.length (ab (eI .i64) r.aY.aa)]),none):=aJ _ _ _ (p0)
def qW:Env:=(Am.ext a7 109 false wZ)
theorem MB:bA prog qW:=(bA.none.add H6 false)
theorem RZ:type_of% (ai @w<|ai @yh<|@qW.eq_1):=⟨@w,@yh,@qW.eq_1⟩
theorem QK (p0:Int) (r:ao) (hh:jH p0=some r):aW .clean tab qW FU Tryz.f52 none [.int .i64 p0]=some (.clean (.agg [.int .i64 r.aZ.ae,.sl false false r.aZ.aa.length (ab (eI .i64) r.aZ.aa),.int .i64 r.aY.ae,.sl false false r.aY.aa.length (ab (eI .i64) r.aY.aa)]),none):=by
 apply aB rfl ntmps52 results52
 unfold jH at hh
 obtain⟨r1,hr1,hh⟩:=ah hh
 obtain⟨r2,hr2,hh⟩:=ah hh
 cases hh
 try simp only[RZ,seval,hr1,hr2]
theorem AF:bP prog 52 qt:=bP.gr (mode := .clean) tok MB mixed func52 (by kernel_rfl) (fun _=>by kernel_rfl) (fun x r h=>QK x r h)
section
variable {P:Program} {T:Nat->Option Ty} {N F:Nat} {M:Nat->Prop} {L:iB} {w0:World} {blk:Nat->Option (Nat×Nat)} {t:Nat->D} {h:Nat->Option Row} {a:Act} {w:World} {e:Nat} {Γ:Env} {done:List Nat}
theorem Dq (hI:qD N M L w0 blk e done t h a w):Holds N M L w0 ⟨t,h,e+1⟩ a w:=by
 refine⟨blk,hI.inv.weaken fun x v hx =>?_,fun x r ty s nv cs k1 k2 k3 k4 =>?_⟩
 ·rcases hx with⟨hn,hx|⟨hx,_⟩⟩|⟨hn,h2,h3,h4⟩
  ·exact .inl ⟨hn,.inl (by simp only;omega)⟩
  ·exact .inl ⟨hn,.inl (by simp only;omega)⟩
  ·exact .inr ⟨hn,by simp only;omega,fun _=>by simp only;omega,h4⟩
 ·have:=hI.nv x r ty s nv cs k1 k2 k3 k4
  exact⟨by simp only;omega,fun _=>by simp only;omega⟩
theorem ED (hT:gz P T) (hΓ:bA P Γ) {ops l:List Oper} {K:(Nat->D)->(Nat->Option Row)->Prop} {Q:Exit->Act->World->Prop} (hI:qD N M L w0 blk e done t h a w) (hnd:(l.filterMap (·.dst)).Nodup) (hd:∀o∈l,∀d,o.dst=some d->d∉done)
  (hk:jy T Γ N F ops l [] (fun _ t h _=>K t h) t h e) (hQ:∀t' h' a' w',K t' h'->Holds N M L w0 ⟨t',h',e+1⟩ a' w'->Q .normal a' w'):wpList P ops.toArray Q l a w:=by
 obtain⟨t',h',fs,h1,h2⟩:=yz (T:=T) (Γ:=Γ) (N:=N) (e:=e) (ops:=ops.toArray) l t h hk
 exact wT hT hΓ h1 hnd hd hI fun a' w' blk' done' hI'=>hQ t' h' a' w' h2 (Dq hI')
theorem XX (hT:gz P T) (hΓ:bA P Γ) {ops l:List Oper} {o:Oper} {K:(Nat->D)->(Nat->Option Row)->Prop} {Q:Exit->Act->World->Prop} (hI:qD N M L w0 blk e done t h a w) (hd:∀d,o.dst=some d->d∉done)
  (hk:jy T Γ N F ops [o] [] (fun _ t h _=>K t h) t h e) (hQ:∀t' h' a' w' blk',K t' h'->qD N M L w0 blk' e (o.dst.toList++done) t' h' a' w'->wpList P ops.toArray Q l a' w'):wpList P ops.toArray Q (o::l) a w:=by
 obtain⟨t',h',fs,h1,h2⟩:=yz (T:=T) (Γ:=Γ) (N:=N) (e:=e) (ops:=ops.toArray) [o] t h hk
 simp only[zr]at h1
 split at h1
 ·rename_i t1 hh1 f hs
  simp only[af0,Prod.mk.injEq]at h1
  obtain⟨rfl,rfl,_⟩:=h1
  unfold wpList
  exact Kz hT hΓ hI hs hd fun a' w' blk' hI'=>hQ _ _ _ _ blk' h2 hI'
 ·cases h1
theorem xf (hT:gz P T) (hΓ:bA P Γ) (hm:P.follows .mixedOrders=true) {c:Code} {K:Kt} {Q:Exit->Act->World->Prop} (hH:Holds N M L w0 ⟨t,h,e⟩ a w) (hok:codeOk c=true) (hk:cA T Γ N F [.code c] K .normal t h e)
  (hQ:∀x t' h' e' a' w',K x t' h' e'->Holds N M L w0 ⟨t',h',e'⟩ a' w'->Q (C5 x) a' w'):c.wp P Q a w:=by
 obtain⟨x,s',h1,h2⟩:=KM c t h e K hk
 exact gT hT hΓ hm c ⟨t,h,e⟩ x s' Q a w h1 hok hH fun a' w' hH'=>hQ x s'.t s'.h s'.e a' w' h2 hH'
theorem fW.maps {h':Nat->Option Row} (hh:∀x,h' x=h x∨∃v ty ks vs fz lst,h' x=some ⟨v,ty,[.mpc ks vs],fz,lst,true⟩):fW e h h':=by
 intro x r' ty' s' nv' cs' k1 k2 k3 k4
 rcases hh x with hx|⟨v,ty,ks,vs,fz,lst,hx⟩
 ·rw[hx]at k1
  exact⟨r',ty',s',nv',cs',k1,k2,k3,.inl rfl⟩
 ·rw[hx]at k1
  cases k1
  cases k3
theorem XO {d:Nat} (hd:d<N) (hn:N<=PK) (h0:d∉done):hX N (VE N e done h) d e where
 no:=by
  rintro (⟨_,hx|⟨_,hx⟩⟩|⟨hx,_⟩)
  ·exact absurd hx (Nat.lt_irrefl _)
  ·exact h0 hx
  ·have:=bZ;omega
 lt:=hd
end
theorem map_eraseIdx {α β:Type} (f:α->β):∀(l:List α) (j:Nat),(l.map f).eraseIdx j=(l.eraseIdx j).map f
 | [],_=>rfl
 | a::l,0=>rfl
 | a::l,j+1=>by simp[map_eraseIdx f l j]
theorem xP {α:Type} : ∀m:List ((Int×Int)×α),dm m=m.map fun q=>wX.k q.1
 | []=>rfl
 | (k,v)::m=>by simp[dm,xP m]
theorem DL {α:Type} (A:Arg α):∀m:List ((Int×Int)×α),fa A m=m.map fun q=>A.d q.2
 | []=>rfl
 | (k,v)::m=>by simp[fa,DL A m]
theorem Ej {α:Type} : ∀ {l:List α} {j:Nat} {q:α},l[j]? = some q->l.Perm (q::l.eraseIdx j)
 | [],_,_,h=>by simp at h
 | a::l,0,q,h=>by simp only[List.getElem?_cons_zero,af0]at h;subst h;exact ahT _
 | a::l,j+1,q,h=>by
  simp only[List.getElem?_cons_succ]at h
  exact ((Ej h).cons a).trans (List.Perm.swap q a _)
def sB (q:(Int×Int)×ao):bJ:=bJ.mk q.1.1 q.1.2 q.2
def adl (r:cu×Int) (t:Nat->D) (h:Nat->Option Row) (e:Nat):Prop:=∃(m:List ((Int×Int)×ao)) (ports:Int) (v21 v9 v2 nv:Nat),t 6=.mp 21 v21∧h 21=some ⟨v21,114,[.mpc (dm m) (fa (bM aC) m)],false,true,true⟩ ∧
 t 9=.ptr 9 v9 0∧h 9=some ⟨v9,28,[.nr 63 6 nv [.int .i64 ports,.nx 0 []]],false,false,true⟩∧t 2=.ptr 2 v2 0∧h 2=some ⟨v2,28,[.int .i64 0,.sl true true 0 []],false,false,false⟩∧nv<=4*e∧Kb ports m=some r
def BP:=mkW 63 aM (eU (aFn 79)) (fun (l:List bJ) (_:Unit)=>AZ (js bJ.bT bJ.gA) l) (fun _:Unit =>.clean (.tup []))
theorem YP (pre post:List D) (p0:List bJ):BP (some (.buf 0 0 6 pre.length p0.length,⟨0,63,pre++(ab aM p0++post),false,true,false⟩)) [.fn 79]=(AZ (js bJ.bT bJ.gA) p0).map fun r=>(.clean (.tup []),some ⟨0,63,pre++(ab aM r.1++post),false,true,false⟩):=Yn _ _ _ _ _ pre post p0 ()
theorem VW:bP prog 78 BP:=Kj s9 (fun x=>by rw[mW];rfl) (fun x=>by rw[mW];rfl) 63
def Qh:Env:=(Am.vE 9 (63,6,1) (Am.ext a7 78 true BP))
theorem pc:bA prog Qh:=bA.vE (bA.none.add VW true) 9 (63,6,1)
theorem tW:type_of% (ai @w<|@Qh.eq_1):=⟨@w,@Qh.eq_1⟩
def R5 (m:List ((Int×Int)×ao)) (ports:Int) (mr:List ((Int×Int)×ao)) (t:Nat->D) (h:Nat->Option Row) (e:Nat):Prop:=∃(ks:List bV) (vs:List D) (acc:List bJ) (vI ty v9 v2 nv:Nat),
 t 44=.ptr 44 vI 0∧h 44=some ⟨vI,ty,[.mpc ks vs],false,true,true⟩∧900000<=ty∧ks.drop (ty-900000)=dm mr∧vs.drop (ty-900000)=fa (bM aC) mr ∧
 t 9=.ptr 9 v9 0∧h 9=some ⟨v9,28,[.nr 63 6 nv [.int .i64 ports,.nx acc.length (ab aM acc)]],false,false,true⟩∧t 2=.ptr 2 v2 0∧h 2=some ⟨v2,28,[.int .i64 0,.sl true true 0 []],false,false,false⟩∧nv<=4*e∧(acc++mr.map sB).Perm (m.map sB)
theorem aaN {m:List ((Int×Int)×ao)} {ports:Int} (hc:m.length<=8000∧(m.map (·.1)).Nodup) {t:Nat->D} {h:Nat->Option Row} {e:Nat} {w0:World} {M:Nat->Prop} {a:Act} {w:World} (hJ:R5 m ports [] t h e) (hH:Holds 65 M none w0 ⟨t,h,e⟩ a w) :
  (zA 0 (zA 5 (WW Tryz.f21))).wp prog (bodyPost prog Tryz.f21 fun e w'=>∃v,e=.returned v∧Below w0.heap.size w0 w'∧sK w0 w' M (fun _=>False) v (.clean (.tup [.agg [.int .i64 ports,.sl false false (od (js bJ.bT bJ.gA) (m.map sB)).length (ab aM (od (js bJ.bT bJ.gA) (m.map sB)))],.int .i64 0]))) a w:=by
 obtain⟨ks,vs,acc,vI,ty,v9,v2,nv,i1,i2,i3,i4,i5,i6,i7,i8,i9,i10,i11⟩:=hJ
 rw[agG,ahI]at i11
 have hkey:∀x∈acc,∀y∈acc,js bJ.bT bJ.gA x y=0->x=y:=by
  intro x hx y hy h0
  obtain⟨p,hp,rfl⟩:=afQ.1 (i11.mem_iff.1 hx)
  obtain⟨q,hq,rfl⟩:=afQ.1 (i11.mem_iff.1 hy)
  obtain⟨k1,k2⟩:=Rv.1 h0
  have hk:p.1=q.1:=Prod.ext k1 k2
  have:p=q:=by
   obtain⟨i,hi,rfl⟩:=List.getElem_of_mem hp
   obtain⟨j,hj,rfl⟩:=List.getElem_of_mem hq
   have:=(List.getElem_inj (h₀:=by simpa using hi) (h₁:=by simpa using hj) hc.2).1 (by simpa using hk)
   subst this;rfl
  rw[this]
 have hiso:od (js bJ.bT bJ.gA) acc=od (js bJ.bT bJ.gA) (m.map sB):=by
  refine pL (((kc _ acc).trans i11).trans (kc _ _).symm) (fun x hx y hy h1 h2=>hkey x ((kc _ acc).mem_iff.1 hx) y ((kc _ acc).mem_iff.1 hy) ?_) (np (tT _ _) _) (np (tT _ _) _)
  have:=(tT bJ.bT bJ.gA).neg x y
  have:=(tT bJ.bT bJ.gA).neg y x
  omega
 have hlen:acc.length=m.length:=by rw[i11.length_eq,agm]
 have hs:AZ (js bJ.bT bJ.gA) acc=some (od (js bJ.bT bJ.gA) (m.map sB),()):=by
  unfold AZ
  rw[if_pos ⟨by omega,hkey⟩,hiso]
 have hsl:(od (js bJ.bT bJ.gA) (m.map sB)).length=acc.length:=by rw[nB,agm,hlen]
 generalize od (js bJ.bT bJ.gA) (m.map sB)=srt at hs hsl ⊢
 have iq:=YP [] [] acc
 simp only[List.nil_append,ahI,List.length_nil,bN]at iq
 refine (show (Code.seq (Code.region _ _ _) (Code.seq (Code.region _ _ _) Code.ret)).wp _ _ _ _ from ?_)
 refine xf (F:=FU) tok pc mixed hH (by kernel_rfl) (K:=fun x t h e=>x=.ret∧eR .clean tab none [.cell 2 28,.tmp 3] ⟨t,EH h,e⟩=some (.clean (.tup [.agg [.int .i64 ports,.sl false false srt.length (ab aM srt)],.int .i64 0]),none)) ?_ ?_
 ·simp only[tW,seval,i6,i7,i8,i9,iq,hs,hsl]
 ·rintro x t' h' e' a' w' ⟨rfl,hr⟩ hH'
  have hH'':Holds Tryz.f21.ntmps M none w0 ⟨t',h',e'⟩ a' w':=by rw[ntmps21];exact hH'
  exact He tok hH'' (by rw[results21];exact hr)
theorem Yt (r:cu×Int):KU prog Tryz.f21 (zA 5 (WW Tryz.f21)) (.clean (.tup [.agg [.int .i64 r.1.az,.sl false false r.1.av.length (ab aM r.1.av)],.int .i64 r.2])) (adl r):=by
 intro w0 M s a w hJ hH
 obtain⟨t0,h0,e0⟩:=s
 obtain⟨m,ports,v21,v9,v2,nv,j1,j2,j3,j4,j5,j6,j7,hr⟩:=hJ
 dsimp only at j1 j2 j3 j4 j5 j6 j7
 unfold Kb at hr
 by_cases hc:m.length<=8000∧(m.map (·.1)).Nodup
 rotate_left
 ·rw[if_neg hc]at hr;cases hr
 rw[if_pos hc]at hr
 cases hr
 rw[ntmps21]at hH
 apply wp_seq
 apply wp_seq
 obtain⟨blk,hI⟩:=hH
 apply wp_region_lit
 refine XX (F:=FU) tok pc hI (fun d _=>by simp) (K:=fun t h=>t=bB t0 43 (.mp 21 v21)∧h=h0) (by simp only[tW,seval,j1,j2]) ?_
 rintro t1 h1 a1 w1 blk1 ⟨rfl,rfl⟩ hI1
 refine y5 rfl hI1 (by decide) (K:=fun t h=>t=bB (bB t0 43 (.mp 21 v21)) 44 (.ptr 44 e0 0)∧h=bB (bB h1 21 (some ⟨v21,114,[.mpc (dm m) (fa (bM aC) m)],true,true,true⟩)) 44 (some ⟨e0,900000,[.mpc (dm m) (fa (bM aC) m)],false,true,true⟩)) ?_ ?_
 ·refine dA.mono (P3 tok hI1.inv (e:=e0) (ty:=114) (d:=44) (k:=117) (el:=42) (x:=21) (v:=v21) (v':=v21) (m := .tmp 43) rfl rfl (XO (by decide) (by rw[bZ];decide) (by simp)) underlying114 (by simp[ev,aq]) j2 (by decide) (by rw[bZ];decide) (by decide)) fun v w' hA=>⟨_,⟨rfl,rfl⟩,uo hI1 (fun d hd =>?_) (fW.maps fun x =>?_) hA⟩
  ·cases hd;exact⟨by simp,by decide⟩
  ·show bB (bB h1 21 _) 44 _ x=_∨_
   by_cases h44:x=44
   ·subst h44;rw[aq];exact .inr ⟨_,_,_,_,_,_,rfl⟩
   ·rw[au _ _ h44]
    by_cases h21:x=21
    ·subst h21;rw[aq];exact .inr ⟨_,_,_,_,_,_,rfl⟩
    ·rw[au _ _ h21];exact .inl rfl
 ·rintro t2 h2 a2 w2 blk2 ⟨rfl,rfl⟩ hI2
  have hH2:=Dq hI2
  have hJ2:R5 m ports m (bB (bB t0 43 (.mp 21 v21)) 44 (.ptr 44 e0 0)) (bB (bB h1 21 (some ⟨v21,114,[.mpc (dm m) (fa (bM aC) m)],true,true,true⟩)) 44 (some ⟨e0,900000,[.mpc (dm m) (fa (bM aC) m)],false,true,true⟩)) (e0+1) :=
   ⟨_,_,[],e0,900000,v9,v2,nv,aq _ _ _,aq _ _ _,afR _,by rw[ag3,ahj],by rw[ag3,ahj],by rw[au _ _ (by decide),au _ _ (by decide)];exact j3,by rw[au _ _ (by decide),au _ _ (by decide)];exact j4,by rw[au _ _ (by decide),au _ _ (by decide)];exact j5,by rw[au _ _ (by decide),au _ _ (by decide)];exact j6,by omega,ahT _⟩
  apply wp_block
  refine wp_loop_ghost (fun n a w=>∃(mr:List ((Int×Int)×ao)) (t:Nat->D) (h:Nat->Option Row) (e:Nat),mr.length=n∧R5 m ports mr t h e∧Holds 65 M none w0 ⟨t,h,e⟩ a w) m.length ⟨m,_,_,_,rfl,hJ2,hH2⟩ ?_
  clear hJ2 hH2 hI2 hI1 hI j1 j2 j3 j4 j5 j6 j7
  rintro n a w ⟨mr,t,h,e,hn,⟨ks,vs,acc,vI,ty,v9,v2,nv,i1,i2,i3,i4,i5,i6,i7,i8,i9,i10,i11⟩,blk,hI⟩
  replace hI:qD 65 M none w0 blk e [] t h a w:=hI
  apply wp_seq
  apply wp_region_lit
  refine y5 rfl hI (by decide) (K:=fun t' h'=>(mr=[]∧t'=bB t 45 (.tup [.bool false])∧h'=h)∨∃(k:Int×Int) (x:ao) (mr':List ((Int×Int)×ao)),(mr.map sB).Perm (sB (k,x)::mr'.map sB)∧mr.length=mr'.length+1 ∧
   t'=bB t 45 (.tup [.bool true,.agg [.int .i64 k.1,.int .i64 k.2],.agg [.int .i64 x.aZ.ae,.sl false false x.aZ.aa.length (ab (eI .i64) x.aZ.aa),.int .i64 x.aY.ae,.sl false false x.aY.aa.length (ab (eI .i64) x.aY.aa)]]) ∧
   h'=bB h 44 (some ⟨vI,900001,[.mpc (dm ((k,x)::mr')) (fa (bM aC) ((k,x)::mr'))],false,true,true⟩)) ?_ ?_
  ·refine dA.mono (UZ hI.inv (e:=e) (y:=44) (p := .tmp 44) rfl (by simp[ev,i1]) i2 i3 (by rw[bZ];decide)) ?_
   rintro v w' (⟨q1,q2⟩|⟨j,k,x,q1,q2,q3⟩)
   ·rw[i4,xP]at q1
    have hmr:mr=[]:=List.map_eq_nil_iff.1 q1
    exact⟨_,.inl ⟨hmr,rfl,rfl⟩,uo hI (fun d hd=>by cases hd;exact⟨by simp,by decide⟩) (fW.maps fun x =>.inl rfl) q2⟩
   ·rw[i4,i5]at q3
    rw[i4]at q1
    rw[i5]at q2
    rw[xP]at q1 q3
    rw[DL]at q2 q3
    rw[afO]at q1 q2
    obtain⟨q,hq,rfl⟩:=afP.1 q1
    rw[hq]at q2
    cases q2
    rw[map_eraseIdx,map_eraseIdx,<- xP,<- DL]at q3
    have hp:=Ej hq
    refine⟨_,.inr ⟨q.1,q.2,mr.eraseIdx j,hp.map sB,hp.length_eq,rfl,rfl⟩,uo hI (fun d hd=>by cases hd;exact⟨by simp,by decide⟩) (fW.maps fun x =>?_) q3⟩
    show bB h 44 _ x=_∨_
    by_cases h44:x=44
    ·subst h44;rw[aq];exact .inr ⟨_,_,_,_,_,_,rfl⟩
    ·rw[au _ _ h44];exact .inl rfl
  ·rintro t' h' a' w' blk' (⟨rfl,rfl,rfl⟩|⟨k,x,mr',p1,p2,rfl,rfl⟩) hI'
   ·refine ED (F:=FU) tok pc hI' (by decide) (by simp) (K:=fun t' h''=>t'=bB (bB t 45 (.tup [.bool false])) 46 (.bool false)∧h''=h') (by simp only[tW,seval]) ?_
    rintro t2 h2 a2 w2 ⟨rfl,rfl⟩ hH
    refine (show Code.wp _ (Code.seq (Code.cond _ Code.skip (Code.exit 2)) _) _ a2 w2 from ?_)
    refine xf (F:=FU) tok pc mixed hH (by kernel_rfl) (K:=fun x t' h'' e'=>x=.exit 2∧t'=bB (bB t 45 (.tup [.bool false])) 46 (.bool false)∧h''=h2∧e'=e+1) (by simp only[tW,seval]) ?_
    rintro x t3 h3 e3 a3 w3 ⟨rfl,rfl,rfl,rfl⟩ hH3
    refine aaN hc ⟨ks,vs,acc,vI,ty,v9,v2,nv,?_,i2,i3,i4,i5,?_,i7,?_,i9,by omega,i11⟩ hH3
    ·rw[au _ _ (by decide),au _ _ (by decide)];exact i1
    ·rw[au _ _ (by decide),au _ _ (by decide)];exact i6
    ·rw[au _ _ (by decide),au _ _ (by decide)];exact i8
   ·refine ED (F:=FU) tok pc hI' (by decide) (by simp) (K:=fun t' h''=>t'=bB (bB t 45 (.tup [.bool true,.agg [.int .i64 k.1,.int .i64 k.2],.agg [.int .i64 x.aZ.ae,.sl false false x.aZ.aa.length (ab (eI .i64) x.aZ.aa),.int .i64 x.aY.ae,.sl false false x.aY.aa.length (ab (eI .i64) x.aY.aa)]])) 46 (.bool true)∧h''=bB h 44 (some ⟨vI,900001,[.mpc (dm ((k,x)::mr')) (fa (bM aC) ((k,x)::mr'))],false,true,true⟩)) (by simp only[tW,seval]) ?_
    rintro t2 h2 a2 w2 ⟨rfl,rfl⟩ hH
    refine (show Code.wp _ (Code.seq (Code.cond _ Code.skip (Code.exit 2)) (Code.block 3 (Code.seq (Code.region _ (List.toArray _) false) _))) _ a2 w2 from ?_)
    apply wp_seq
    have hF:∃t h,(t 44=.ptr 44 vI 0∧t 9=.ptr 9 v9 0∧t 2=.ptr 2 v2 0∧h 44=some ⟨vI,900001,[.mpc (dm ((k,x)::mr')) (fa (bM aC) ((k,x)::mr'))],false,true,true⟩∧h 9=some ⟨v9,28,[.nr 63 6 nv [.int .i64 ports,.nx acc.length (ab aM acc)]],false,false,true⟩∧h 2=some ⟨v2,28,[.int .i64 0,.sl true true 0 []],false,false,false⟩∧t 46=.bool true)∧Holds 65 M none w0 ⟨t,h,e+1⟩ a2 w2:=by
     refine⟨_,_,⟨?_,?_,?_,aq _ _ _,?_,?_,aq _ _ _⟩,hH⟩
     ·rw[au _ _ (by decide),au _ _ (by decide)];exact i1
     ·rw[au _ _ (by decide),au _ _ (by decide)];exact i6
     ·rw[au _ _ (by decide),au _ _ (by decide)];exact i8
     ·rw[au _ _ (by decide)];exact i7
     ·rw[au _ _ (by decide)];exact i9
    clear hH hI' hI i1 i2 i3 i4 i5 i6 i7 i8 i9
    clear h t
    obtain⟨t,h,⟨f1,f2,f3,f4,f5,f6,f7⟩,hH⟩:=hF
    refine xf (F:=FU) tok pc mixed hH (by kernel_rfl) (K:=fun x t' h'' e'=>x=.normal∧t'=t∧h''=h∧e'=e+1) (by simp only[tW,seval,f7]) ?_
    rintro x' t3 h3 e3 a3 w3 ⟨rfl,rfl,rfl,rfl⟩ ⟨blk3,hI3⟩
    replace hI3:qD 65 M none w0 blk3 (e+1) [] t3 h3 a3 w3:=hI3
    refine (show Code.wp _ (Code.block 3 (Code.seq (Code.region _ (List.toArray _) false) _)) _ a3 w3 from ?_)
    apply wp_block
    apply wp_seq
    apply wp_region_lit
    refine y5 rfl hI3 (by decide) (K:=fun t' h'=>t'=bB t3 47 (.tup [.agg [.int .i64 k.1,.int .i64 k.2],.agg [.int .i64 x.aZ.ae,.sl false false x.aZ.aa.length (ab (eI .i64) x.aZ.aa),.int .i64 x.aY.ae,.sl false false x.aY.aa.length (ab (eI .i64) x.aY.aa)]])∧h'=h3) ?_ ?_
    ·refine dA.mono (PY hI3.inv (e:=e+1) (y:=44) (p := .tmp 44) (k:=wX.k k) (x:=(bM aC).d x) (ks:=dm mr') (vs:=fa (bM aC) mr') rfl (by simp[ev,f1]) f4 (by rw[bZ];decide)) fun v w' hA=>⟨_,⟨rfl,rfl⟩,uo hI3 (fun d hd=>by cases hd;exact⟨by simp,by decide⟩) (fW.refl _ _) hA⟩
    ·rintro t4 h4 a4 w4 blk4 ⟨rfl,rfl⟩ hI4
     refine ED (F:=FU) tok pc hI4 (by decide) (by simp) (K:=fun t' h'=>t' 44=.ptr 44 vI 0∧t' 9=.ptr 9 v9 0∧t' 2=.ptr 2 v2 0∧t' 10=.ptr 10 (e+1) 0∧t' 11=.ptr 11 (e+1) 0 ∧
      h' 44=some ⟨vI,900001,[.mpc (dm ((k,x)::mr')) (fa (bM aC) ((k,x)::mr'))],false,true,true⟩∧h' 9=some ⟨v9,28,[.nr 63 6 nv [.int .i64 ports,.nx acc.length (ab aM acc)]],false,false,true⟩∧h' 2=some ⟨v2,28,[.int .i64 0,.sl true true 0 []],false,false,false⟩ ∧
      h' 10=some ⟨e+1,117,[.int .i64 k.1,.int .i64 k.2],false,false,false⟩∧h' 11=some ⟨e+1,42,[.int .i64 x.aZ.ae,.sl false false x.aZ.aa.length (ab (eI .i64) x.aZ.aa),.int .i64 x.aY.ae,.sl false false x.aY.aa.length (ab (eI .i64) x.aY.aa)],false,false,false⟩) (by simp only[tW,seval,f1,f2,f3,f4,f5,f6]) ?_
     rintro t5 h5 a5 w5 ⟨g1,g2,g3,g4,g5,g6,g7,g8,g9,g10⟩ hH5
     have hal:acc.length+1+mr'.length=m.length:=by
      have:=i11.length_eq
      simp only[ag1,agm]at this
      omega
     have happ:lu 80 acc [sB (k,x)]=some (acc++[sB (k,x)]):=by
      unfold lu
      have:(17592186044416:Nat)<=maxLen:=by decide
      rw[if_pos ⟨by simp;omega,by simp;omega⟩]
     obtain⟨qa,qb,qc,qd⟩:=gV aM happ
     simp only[bN,sB]at qb
     have bp:bump nv (e+1+1)=some (4*(e+1+1)+1):=Bz (by omega)
     refine (show Code.wp _ (Code.region _ (List.toArray _) false) _ a5 w5 from ?_)
     refine xf (F:=FU) tok pc mixed hH5 (by kernel_rfl) (K:=fun x' t' h' e'=>x'=.normal∧e'=e+1+1+1∧t' 44=.ptr 44 vI 0∧t' 9=.ptr 9 v9 0∧t' 2=.ptr 2 v2 0 ∧
      h' 44=some ⟨vI,900001,[.mpc (dm ((k,x)::mr')) (fa (bM aC) ((k,x)::mr'))],false,true,true⟩∧h' 9=some ⟨v9,28,[.nr 63 6 (4*(e+1+1)+1) [.int .i64 ports,.nx (acc++[sB (k,x)]).length (ab aM (acc++[sB (k,x)]))]],false,false,true⟩∧h' 2=some ⟨v2,28,[.int .i64 0,.sl true true 0 []],false,false,false⟩)
      (by simp only[tW,seval,g1,g2,g3,g4,g5,g6,g7,g8,g9,g10,qa,qb,qc,qd,bp,sB];exact⟨qc,qd⟩) ?_
     rintro x' t6 h6 e6 a6 w6 ⟨rfl,rfl,l1,l2,l3,l4,l5,l6⟩ hH6
     refine (show ∃n',n'<n∧∃(mr:List ((Int×Int)×ao)) (t:Nat->D) (h:Nat->Option Row) (e:Nat),mr.length=n'∧R5 m ports mr t h e∧Holds 65 M none w0 ⟨t,h,e⟩ a6 w6 from ?_)
     refine⟨mr'.length,by omega,mr',t6,h6,_,rfl,⟨_,_,_,vI,900001,v9,v2,_,l1,l4,by decide,?_,?_,l2,l5,l3,l6,by omega,?_⟩,hH6⟩
     ·rw[show 900001-900000=1 from ahf (n:=900000) (m:=1)];rfl
     ·rw[show 900001-900000=1 from ahf (n:=900000) (m:=1)];rfl
     ·rw[ahd]
      exact (List.Perm.append_left acc p1.symm).trans i11
def eN:=fb (eU (bM dx)) (fun x:ak=>cn x) (fun r:Bool =>.clean (.bool r))
theorem cg (p0_0:Int) (p0_1:(List Int)):eN none [.agg [.int .i64 p0_0,.sl false false p0_1.length (ab (eI .i64) p0_1)]]=(cn (ak.mk p0_0 p0_1)).map fun r:Bool=>(.clean (.bool r),none):=aJ _ _ _ ((ak.mk p0_0 p0_1))
theorem NJ (p0:ak) (r:Bool) (hh:cn p0=some r):aW .clean tab a7 FU Tryz.f140 none [.agg [.int .i64 p0.ae,.sl false false p0.aa.length (ab (eI .i64) p0.aa)]]=some (.clean (.bool r),none):=by
 apply aB rfl ntmps140 results140
 unfold cn at hh
 try simp only[w,seval]
 obtain⟨o5,ho5,hh⟩:=ah hh
 refine ay (fun s t H e=>match s with|s12a=>∃v1a:Nat,t 1=.ptr 1 v1a 0∧t 3=.int .i64 (p0.aa.length:Int)∧t 10=.sl false false p0.aa.length (ab (eI .i64) p0.aa)∧t 11=.int .i64 (p0.aa.length:Int)∧t 12=.int .i64 s12a∧H 1=some ⟨v1a,40,[.int .i64 p0.ae,.sl false false p0.aa.length (ab (eI .i64) p0.aa)],false,false,false⟩) (fun o x t H e=>match o with|(.inl _)=>x=.exit 0∧∃v1ax:Nat,t 1=.ptr 1 v1ax 0∧t 3=.int .i64 (p0.aa.length:Int)∧H 1=some ⟨v1ax,40,[.int .i64 p0.ae,.sl false false p0.aa.length (ab (eI .i64) p0.aa)],false,false,false⟩|(.inr r)=>x=.ret∧eR .clean tab none [.tmp 2] ⟨t,EH H,e⟩=some (.clean (.bool r),none)) ho5 ?_ ?_ ?_
 ·refine⟨0,?_⟩
  and_intros<;>first|rfl|(simp only[w,seval]<;>rfl)
 ·rintro s12a t H e ⟨v1a,Za⟩ c hh
  simp only[mS]at hh
  try simp only[w,seval,Za]
  apply sp al hh<;>intro _ hh
  ·obtain⟨x7,hx7,hh⟩:=ah hh
   have ax7:=bm (eI .i64) hx7
   simp only[bN]at ax7
   try simp only[w,seval,Za,ax7]
   apply sp aN hh<;>intro _ hh
   ·cases hh
    try simp only[w,seval]
    refine rz ⟨rfl,?_⟩
    try simp only[w,seval]
   ·try simp only[w,seval]
    apply sp al hh<;>intro _ hh
    ·cases hh
     try simp only[w,seval]
     refine rz ⟨rfl,?_⟩
     try simp only[w,seval]
    ·cases hh
     try simp only[w,seval,Za]
     apply gL
     refine⟨v1a,?_⟩
     and_intros<;>first|rfl|(simp only[w,seval,Za]<;>rfl)
  ·cases hh
   try simp only[w,seval]
   apply jr
   refine⟨rfl,⟨v1a,?_⟩⟩
   and_intros<;>first|rfl|(simp only[w,seval,Za]<;>rfl)
 ·rintro x t H e hx
  rcases o5 with _|ra
  ·dsimp only at hx hh
   obtain⟨rfl,⟨v1ax,Zax⟩⟩:=hx
   try simp only[w,seval,Zax]
   apply sp al hh<;>intro _ hh
   ·cases hh
    try simp only[w,seval,Zax]
   ·try simp only[w,seval,Zax]
    apply sp aN hh<;>intro _ hh
    ·obtain⟨x12,hx12,hh⟩:=ah hh
     have ax12:=bm (eI .i64) hx12
     simp only[bN]at ax12
     cases hh
     try simp only[w,seval,Zax,ax12]
    ·try simp only[w,seval,Zax]
     apply sp cY hh<;>intro _ hh
     ·obtain⟨x14,hx14,hh⟩:=ah hh
      have ax14:=bm (eI .i64) hx14
      simp only[bN]at ax14
      cases hh
      try simp only[w,seval,Zax,ax14]
     ·cases hh
      try simp only[w,seval]
  ·dsimp only at hx hh
   obtain⟨rfl,hE⟩:=hx
   cases hh
   try simp only[aU,bd,b7,b5]
   exact hE
theorem fp:bP prog 140 eN:=bP.gr (mode := .clean) tok bA.none mixed func140 (by kernel_rfl) (fun _=>by kernel_rfl) (fun x r h=>NJ x r h)
def jB:=fb (jO ado (eU (bM dx))) (fun x:Bool×ak=>dM x.1 x.2) (fun r:ak×Int =>.clean (.tup [.agg [.int .i64 r.1.ae,.sl false false r.1.aa.length (ab (eI .i64) r.1.aa)],.int .i64 r.2]))
theorem eM (p0:Bool) (p1_0:Int) (p1_1:(List Int)):jB none [.bool p0,.agg [.int .i64 p1_0,.sl false false p1_1.length (ab (eI .i64) p1_1)]]=(dM p0 (ak.mk p1_0 p1_1)).map fun r:ak×Int=>(.clean (.tup [.agg [.int .i64 r.1.ae,.sl false false r.1.aa.length (ab (eI .i64) r.1.aa)],.int .i64 r.2]),none):=aJ _ _ _ (p0,(ak.mk p1_0 p1_1))
theorem FA (p0:Bool) (p1:ak) (r:ak×Int) (hh:dM p0 p1=some r):aW .clean tab a7 FU Tryz.f148 none [.bool p0,.agg [.int .i64 p1.ae,.sl false false p1.aa.length (ab (eI .i64) p1.aa)]]=some (.clean (.tup [.agg [.int .i64 r.1.ae,.sl false false r.1.aa.length (ab (eI .i64) r.1.aa)],.int .i64 r.2]),none):=by
 apply aB rfl ntmps148 results148
 unfold dM at hh
 try simp only[w,seval]
 apply sp al hh<;>intro _ hh
 ·cases hh
  try simp only[w,seval]
 ·cases hh
  try simp only[w,seval]
theorem ou:bP prog 148 jB:=bP.gr (mode := .clean) tok bA.none mixed func148 (by kernel_rfl) (fun _=>by kernel_rfl) (fun x r h=>FA x.1 x.2 r h)
theorem tA (r:(List Int)) (hh:bH []=some r):aW (.fresh 3 1) tab a7 FU Tryz.f106 none [.sl true true 0 []]=some (.fresh 3 1 r.length (ab (eI .i64) r),none):=by
 unfold bH at hh
 obtain⟨qa,qb,qc⟩:=Bx hh
 subst qa
 apply aB rfl ntmps106 results106
 simp only[w,seval,Nat.lt_irrefl]
theorem tB (r:(List Int)) (hh:bH []=some r):aW (.fresh 3 1) tab a7 FU Tryz.f106 none [.sl true false 0 []]=some (.fresh 3 1 r.length (ab (eI .i64) r),none):=by
 unfold bH at hh
 obtain⟨qa,qb,qc⟩:=Bx hh
 subst qa
 apply aB rfl ntmps106 results106
 simp only[w,seval,Nat.lt_irrefl]
theorem tC (p0 r:(List Int)) (hp:0<p0.length) (hh:bH p0=some r):aW (.fresh 3 1) tab a7 FU Tryz.f106 none [.sl false false p0.length (ab (eI .i64) p0)]=some (.fresh 3 1 r.length (ab (eI .i64) r),none):=by
 unfold bH at hh
 have hz:¬p0.length=0:=by omega
 obtain⟨qa,qb,qc⟩:=Bx hh
 subst qa
 apply aB rfl ntmps106 results106
 simp only[w,seval,hp,qb,qc]
def eA:=fb (eU (pE (eI .i64))) (fun x:(List Int)=>bH x) (fun r:(List Int) =>.fresh 3 1 r.length (ab (eI .i64) r))
theorem db (p0:(List Int)):eA none [.sl false false p0.length (ab (eI .i64) p0)]=(bH p0).map fun r:(List Int)=>(.fresh 3 1 r.length (ab (eI .i64) r),none):=aJ _ _ _ p0
theorem gD:bP prog 106 eA:=bP.adH (mode:=(.fresh 3 1)) tok bA.none mixed func106 (by kernel_rfl) ⟨by kernel_rfl,by kernel_rfl⟩ (ahB (by kernel_rfl)) tA tB tC
def sH:=fb (eU (aI .i64)) (fun x:Int=>lv x) (fun r:Bool =>.clean (.bool r))
theorem AN (p0:Int):sH none [.int .i64 p0]=(lv p0).map fun r:Bool=>(.clean (.bool r),none):=aJ _ _ _ (p0)
theorem NM (p0:Int) (r:Bool) (hh:lv p0=some r):aW .clean tab a7 FU Tryz.f190 none [.int .i64 p0]=some (.clean (.bool r),none):=by
 apply aB rfl ntmps190 results190
 unfold lv at hh
 cases hh
 try simp only[w,seval]
theorem Kg:bP prog 190 sH:=bP.gr (mode := .clean) tok bA.none mixed func190 (by kernel_rfl) (fun _=>by kernel_rfl) (fun x r h=>NM x r h)
def jD:=fb (jO (aI .i64) (eU (aI .i64))) (fun x:Int×Int=>eQ x.1 x.2) (fun r:Int =>.clean (.int .i64 r))
theorem iw (p0:Int) (p1:Int):jD none [.int .i64 p0,.int .i64 p1]=(eQ p0 p1).map fun r:Int=>(.clean (.int .i64 r),none):=aJ _ _ _ (p0,p1)
def lP:Env:=(Am.ext a7 190 false sH)
theorem Dc:bA prog lP:=(bA.none.add Kg false)
theorem dF:type_of% (ai @w<|ai @AN<|@lP.eq_1):=⟨@w,@AN,@lP.eq_1⟩
theorem FC (p0:Int) (p1:Int) (r:Int) (hh:eQ p0 p1=some r):aW .clean tab lP FU Tryz.f139 none [.int .i64 p0,.int .i64 p1]=some (.clean (.int .i64 r),none):=by
 apply aB rfl ntmps139 results139
 unfold eQ at hh
 obtain⟨r1,hr1,hh⟩:=ah hh
 obtain⟨r2,hr2,hh⟩:=ah hh
 try simp only[dF,seval,hr1,hr2]
 apply sp al hh<;>intro _ hh
 ·try simp only[dF,seval]
  apply sp al hh<;>intro _ hh
  ·cases hh
   try simp only[dF,seval]
  ·cases hh
   try simp only[dF,seval]
 ·try simp only[dF,seval]
  apply sp al hh<;>intro _ hh
  ·cases hh
   try simp only[dF,seval]
  ·try simp only[dF,seval]
   apply sp al hh<;>intro _ hh
   ·cases hh
    try simp only[dF,seval]
   ·try simp only[dF,seval]
    apply sp al hh<;>intro _ hh
    ·cases hh
     try simp only[dF,seval]
    ·cases hh
     try simp only[dF,seval]
theorem ow:bP prog 139 jD:=bP.gr (mode := .clean) tok Dc mixed func139 (by kernel_rfl) (fun _=>by kernel_rfl) (fun x r h=>FC x.1 x.2 r h)
def jC:=fb (jO (pE (eI .i64)) (eU (pE (eI .i64)))) (fun x:(List Int)×(List Int)=>eP x.1 x.2) (fun r:Int =>.clean (.int .i64 r))
theorem iu (p0:(List Int)) (p1:(List Int)):jC none [.sl false false p0.length (ab (eI .i64) p0),.sl false false p1.length (ab (eI .i64) p1)]=(eP p0 p1).map fun r:Int=>(.clean (.int .i64 r),none):=aJ _ _ _ (p0,p1)
def lO:Env:=(Am.ext a7 139 false jD)
theorem Db:bA prog lO:=(bA.none.add ow false)
theorem ct:type_of% (ai @w<|ai @iw<|@lO.eq_1):=⟨@w,@iw,@lO.eq_1⟩
theorem FB (p0:(List Int)) (p1:(List Int)) (r:Int) (hh:eP p0 p1=some r):aW .clean tab lO FU Tryz.f150 none [.sl false false p0.length (ab (eI .i64) p0),.sl false false p1.length (ab (eI .i64) p1)]=some (.clean (.int .i64 r),none):=by
 apply aB rfl ntmps150 results150
 unfold eP at hh
 try simp only[ct,seval]
 apply sp al hh<;>intro _ hh
 ·obtain⟨r2,hr2,hh⟩:=ah hh
  cases hh
  try simp only[ct,seval,hr2]
 ·try simp only[ct,seval]
  obtain⟨o8,ho8,hh⟩:=ah hh
  refine ay (fun s t H e=>match s with|s5a=>t 0=.sl false false p0.length (ab (eI .i64) p0)∧t 1=.sl false false p1.length (ab (eI .i64) p1)∧t 5=.int .i64 s5a) (fun o x t H e=>match o with|(.inl _)=>x=.exit 0|(.inr r)=>x=.ret∧eR .clean tab none [.tmp 4] ⟨t,EH H,e⟩=some (.clean (.int .i64 r),none)) ho8 ?_ ?_ ?_
  ·and_intros<;>first|rfl|(simp only[ct,seval]<;>rfl)
  ·rintro s5a t H e Za c hh
   simp only[kL]at hh
   try simp only[ct,seval,Za]
   apply sp al hh<;>intro _ hh
   ·obtain⟨x10,hx10,hh⟩:=ah hh
    have ax10:=bm (eI .i64) hx10
    simp only[bN]at ax10
    obtain⟨x11,hx11,hh⟩:=ah hh
    have ax11:=bm (eI .i64) hx11
    simp only[bN]at ax11
    try simp only[ct,seval,Za,ax10,ax11]
    refine bt (by kernel_rfl) ?_
    try simp only[ct,seval,Za,ax10,ax11]
    apply sp al hh<;>intro _ hh
    ·have ax10:=bm (eI .i64) hx10
     simp only[bN]at ax10
     have ax11:=bm (eI .i64) hx11
     simp only[bN]at ax11
     obtain⟨r13,hr13,hh⟩:=ah hh
     try simp only[ct,seval,Za,ax10,ax11,hr13]
     refine bt (by kernel_rfl) ?_
     cases hh
     try simp only[ct,seval,Za,ax10,ax11,ax10,ax11,hr13]
     refine rz ⟨rfl,?_⟩
     try simp only[ct,seval]
    ·cases hh
     try simp only[ct,seval,Za]
     apply gL
     and_intros<;>first|rfl|(simp only[ct,seval,Za]<;>rfl)
   ·cases hh
    try simp only[ct,seval]
    apply jr
    exact rfl
  ·rintro x t H e hx
   rcases o8 with _|ra
   ·dsimp only at hx hh
    subst hx
    cases hh
    try simp only[ct,seval]
   ·dsimp only at hx hh
    obtain⟨rfl,hE⟩:=hx
    cases hh
    try simp only[aU,bd,b7,b5]
    exact hE
theorem ov:bP prog 150 jC:=bP.gr (mode := .clean) tok Db mixed func150 (by kernel_rfl) (fun _=>by kernel_rfl) (fun x r h=>FB x.1 x.2 r h)
def sG:=fb (jO (pE (eI .i64)) (eU (aI .i64))) (fun x:(List Int)×Int=>kn x.1 x.2) (fun r:(List Int)×Int =>.clean (.tup [.sl false false r.1.length (ab (eI .i64) r.1),.int .i64 r.2]))
theorem AM (p0:(List Int)) (p1:Int):sG none [.sl false false p0.length (ab (eI .i64) p0),.int .i64 p1]=(kn p0 p1).map fun r:(List Int)×Int=>(.clean (.tup [.sl false false r.1.length (ab (eI .i64) r.1),.int .i64 r.2]),none):=aJ _ _ _ (p0,p1)
def oS:Env:=(Am.ext a7 196 false jY)
theorem JO:bA prog oS:=(bA.none.add mu false)
theorem gU:type_of% (ai @w<|ai @fe<|@oS.eq_1):=⟨@w,@fe,@oS.eq_1⟩
theorem NL (p0:(List Int)) (p1:Int) (r:(List Int)×Int) (hh:kn p0 p1=some r):aW .clean tab oS FU Tryz.f215 none [.sl false false p0.length (ab (eI .i64) p0),.int .i64 p1]=some (.clean (.tup [.sl false false r.1.length (ab (eI .i64) r.1),.int .i64 r.2]),none):=by
 apply aB rfl ntmps215 results215
 unfold kn at hh
 obtain⟨x1,hx1,hh⟩:=ah hh
 obtain⟨q2a,q2b,q2c,q2d,q2e⟩:=mk_one (eI .i64) hx1
 simp only[bN]at q2d
 try simp only[gU,seval,-Int.reduceToNat,q2a,q2b,q2c,q2d,q2e]
 obtain⟨o13,ho13,hh⟩:=ah hh
 refine ay (fun s t H e=>match s with|(s7a,s8a,l6a)=>∃v6a:Nat,t 0=.sl false false p0.length (ab (eI .i64) p0)∧t 1=.int .i64 p1∧t 6=.buf 6 v6a 1 0 (l6a).length∧t 7=.int .i64 s7a∧t 8=.int .i64 s8a∧H 6=some ⟨v6a,3,ab (eI .i64) l6a,false,true,false⟩) (fun o x t H e=>match o with|(s7ax,l6ax)=>x=.exit 0∧∃v6ax:Nat,t 6=.buf 6 v6ax 1 0 (l6ax).length∧t 7=.int .i64 s7ax∧H 6=some ⟨v6ax,3,ab (eI .i64) l6ax,false,true,false⟩) ho13 ?_ ?_ ?_
 ·refine⟨1,?_⟩
  and_intros<;>first|rfl|(simp only[gU,seval,-Int.reduceToNat,q2a,q2b,q2c,q2d,q2e]<;>rfl)
 ·rintro⟨s7a,s8a,l6a⟩ t H e ⟨v6a,Za⟩ c hh
  simp only[mU]at hh
  try simp only[gU,seval,-Int.reduceToNat,Za]
  apply sp al hh<;>intro _ hh
  ·obtain⟨x15,hx15,hh⟩:=ah hh
   have q16:=BK hx15
   obtain⟨x17,hx17,hh⟩:=ah hh
   have ax17:=bm (eI .i64) hx17
   simp only[bN]at ax17
   obtain⟨x18,hx18,hh⟩:=ah hh
   have q19:=qU hx18
   obtain⟨x20,hx20,hh⟩:=ah hh
   have ax20:=bm (eI .i64) hx20
   simp only[bN]at ax20
   have p21:=eZ (eI .i64) (x':=x18) (fo:=0) (cs:=[.int .i64 x18]) hx20 rfl (ahB rfl)
   simp only[bN,Nat.add_zero]at p21
   have up21:=p21
   simp only[putCells,List.length_cons,List.length_nil,agF]at up21
   obtain⟨x22,hx22,hh⟩:=ah hh
   have q23:=xS hx22
   cases hh
   try simp only[gU,seval,-Int.reduceToNat,Za,q16,ax17,q19,ax20,up21,q23]
   apply gL
   refine⟨v6a,?_⟩
   and_intros<;>first|rfl|(simp only[gU,seval,-Int.reduceToNat,Za]<;>rfl)
  ·cases hh
   try simp only[gU,seval,-Int.reduceToNat]
   apply jr
   refine⟨rfl,⟨v6a,?_⟩⟩
   and_intros<;>first|rfl|(simp only[gU,seval,-Int.reduceToNat,Za]<;>rfl)
 ·rintro x t H e hx
  rcases o13 with⟨s7ax,l6ax⟩
  dsimp only at hx hh
  obtain⟨rfl,⟨v6ax,Zax⟩⟩:=hx
  obtain⟨r24,hr24,hh⟩:=ah hh
  cases hh
  try simp only[gU,seval,-Int.reduceToNat,Zax,hr24]
theorem Kf:bP prog 215 sG:=bP.gr (mode := .clean) tok JO mixed func215 (by kernel_rfl) (fun _=>by kernel_rfl) (fun x r h=>NL x.1 x.2 r h)
def uc:=fb (jO (pE (eI .i64)) (eU (pE (eI .i64)))) (fun x:(List Int)×(List Int)=>mT x.1 x.2) (fun r:(List Int) =>.fresh 3 1 r.length (ab (eI .i64) r))
theorem nD (p0:(List Int)) (p1:(List Int)):uc none [.sl false false p0.length (ab (eI .i64) p0),.sl false false p1.length (ab (eI .i64) p1)]=(mT p0 p1).map fun r:(List Int)=>(.fresh 3 1 r.length (ab (eI .i64) r),none):=aJ _ _ _ (p0,p1)
def uM:Env:=(Am.ext a7 196 true qp)
theorem Qq:bA prog uM:=(bA.none.add FK true)
theorem eG:type_of% (ai @w<|@uM.eq_1):=⟨@w,@uM.eq_1⟩
theorem Vz (p0:(List Int)) (p1:(List Int)) (r:(List Int)) (hh:mT p0 p1=some r):aW (.fresh 3 1) tab uM FU Tryz.f197 none [.sl false false p0.length (ab (eI .i64) p0),.sl false false p1.length (ab (eI .i64) p1)]=some (.fresh 3 1 r.length (ab (eI .i64) r),none):=by
 apply aB rfl ntmps197 results197
 unfold mT at hh
 obtain⟨x1,hx1,hh⟩:=ah hh
 obtain⟨q2a,q2b,q2c,q2d,q2e⟩:=mk_one (eI .i64) hx1
 simp only[bN]at q2d
 try simp only[eG,seval,-Int.reduceToNat,q2a,q2b,q2c,q2d,q2e]
 obtain⟨o20,ho20,hh⟩:=ah hh
 refine ay (fun s t H e=>match s with|(s20a,l5a)=>∃v5a:Nat,t 1=.sl false false p1.length (ab (eI .i64) p1)∧t 5=.buf 5 v5a 1 0 (l5a).length∧t 18=.sl false false p0.length (ab (eI .i64) p0)∧t 19=.int .i64 (p0.length:Int)∧t 20=.int .i64 s20a∧H 5=some ⟨v5a,3,ab (eI .i64) l5a,false,true,false⟩) (fun o x t H e=>match o with|l5ax=>x=.exit 0∧∃v5ax:Nat,t 5=.buf 5 v5ax 1 0 (l5ax).length∧H 5=some ⟨v5ax,3,ab (eI .i64) l5ax,false,true,false⟩) ho20 ?_ ?_ ?_
 ·refine⟨1,?_⟩
  and_intros<;>first|rfl|(simp only[eG,seval,-Int.reduceToNat,q2a,q2b,q2c,q2d,q2e]<;>rfl)
 ·rintro⟨s20a,l5a⟩ t H e ⟨v5a,Za⟩ c hh
  simp only[qO]at hh
  try simp only[eG,seval,-Int.reduceToNat,Za]
  apply sp al hh<;>intro _ hh
  ·obtain⟨x22,hx22,hh⟩:=ah hh
   have ax22:=bm (eI .i64) hx22
   simp only[bN]at ax22
   try simp only[eG,seval,-Int.reduceToNat,Za,ax22]
   obtain⟨o29,ho29,hh⟩:=ah hh
   refine ay (fun s t H e=>match s with|(s8c,s27c,l5c)=>∃v5c:Nat,t 1=.sl false false p1.length (ab (eI .i64) p1)∧t 5=.buf 5 v5c 1 0 (l5c).length∧t 6=.int .i64 s20a∧t 7=.int .i64 x22∧t 8=.int .i64 s8c∧t 18=.sl false false p0.length (ab (eI .i64) p0)∧t 19=.int .i64 (p0.length:Int)∧t 20=.int .i64 s20a∧t 25=.sl false false p1.length (ab (eI .i64) p1)∧t 26=.int .i64 (p1.length:Int)∧t 27=.int .i64 s27c∧H 5=some ⟨v5c,3,ab (eI .i64) l5c,false,true,false⟩) (fun o x t H e=>match o with|(s8cx,l5cx)=>x=.exit 2∧∃v5cx:Nat,t 1=.sl false false p1.length (ab (eI .i64) p1)∧t 5=.buf 5 v5cx 1 0 (l5cx).length∧t 6=.int .i64 s20a∧t 8=.int .i64 s8cx∧t 18=.sl false false p0.length (ab (eI .i64) p0)∧t 19=.int .i64 (p0.length:Int)∧t 20=.int .i64 s20a∧H 5=some ⟨v5cx,3,ab (eI .i64) l5cx,false,true,false⟩) ho29 ?_ ?_ ?_
   ·refine⟨v5a,?_⟩
    and_intros<;>first|rfl|(simp only[eG,seval,-Int.reduceToNat,Za]<;>rfl)
   ·rintro⟨s8c,s27c,l5c⟩ t H e ⟨v5c,Zc⟩ c hh
    simp only[qP]at hh
    try simp only[eG,seval,-Int.reduceToNat,Zc]
    apply sp al hh<;>intro _ hh
    ·obtain⟨x31,hx31,hh⟩:=ah hh
     have ax31:=bm (eI .i64) hx31
     simp only[bN]at ax31
     obtain⟨x32,hx32,hh⟩:=ah hh
     have ax32:=bm (eI .i64) hx32
     simp only[bN]at ax32
     obtain⟨x33,hx33,hh⟩:=ah hh
     have q34:=lY hx33
     have ax32:=bm (eI .i64) hx32
     simp only[bN]at ax32
     have p35:=eZ (eI .i64) (x':=gn .and .i64 (IntKind.i64.wrap ((IntKind.i64.wrap (x32+(IntKind.i64.wrap (x22*x31))))+s8c)) 1048575) (fo:=0) (cs:=[.int .i64 (gn .and .i64 (IntKind.i64.wrap ((IntKind.i64.wrap (x32+(IntKind.i64.wrap (x22*x31))))+s8c)) 1048575)]) hx32 rfl (ahB rfl)
     simp only[bN,Nat.add_zero]at p35
     have up35:=p35
     simp only[putCells,List.length_cons,List.length_nil,agF]at up35
     cases hh
     try simp only[eG,seval,-Int.reduceToNat,Zc,ax31,q34,ax32,up35]
     apply gL
     refine⟨v5c,?_⟩
     and_intros<;>first|rfl|(simp only[eG,seval,-Int.reduceToNat,Zc]<;>rfl)
    ·cases hh
     try simp only[eG,seval,-Int.reduceToNat]
     apply jr
     refine⟨rfl,⟨v5c,?_⟩⟩
     and_intros<;>first|rfl|(simp only[eG,seval,-Int.reduceToNat,Zc]<;>rfl)
   ·rintro x t H e hx
    rcases o29 with⟨s8cx,l5cx⟩
    dsimp only at hx hh
    obtain⟨rfl,⟨v5cx,Zcx⟩⟩:=hx
    obtain⟨x36,hx36,hh⟩:=ah hh
    have ax36:=bm (eI .i64) hx36
    simp only[bN]at ax36
    have ax36:=bm (eI .i64) hx36
    simp only[bN]at ax36
    have p37:=eZ (eI .i64) (x':=IntKind.i64.wrap (x36+s8cx)) (fo:=0) (cs:=[.int .i64 (IntKind.i64.wrap (x36+s8cx))]) hx36 rfl (ahB rfl)
    simp only[bN,Nat.add_zero]at p37
    have up37:=p37
    simp only[putCells,List.length_cons,List.length_nil,agF]at up37
    cases hh
    try simp only[eG,seval,-Int.reduceToNat,Zcx,ax36,up37]
    apply gL
    refine⟨v5cx,?_⟩
    and_intros<;>first|rfl|(simp only[eG,seval,-Int.reduceToNat,Zcx]<;>rfl)
  ·cases hh
   try simp only[eG,seval,-Int.reduceToNat]
   apply jr
   refine⟨rfl,⟨v5a,?_⟩⟩
   and_intros<;>first|rfl|(simp only[eG,seval,-Int.reduceToNat,Za]<;>rfl)
 ·rintro x t H e hx
  obtain⟨l5ax,rfl⟩:∃z,z=o20:=⟨_,rfl⟩
  dsimp only at hx hh
  obtain⟨rfl,⟨v5ax,Zax⟩⟩:=hx
  have i38:=Kr [] [] l5ax
  try simp only[List.nil_append,ahI,List.length_nil]at i38
  obtain⟨r39,hr39,hh⟩:=ah hh
  cases hh
  try simp only[eG,seval,-Int.reduceToNat,Zax,i38,hr39]
end Go.Proofs.YtmcncjgbkobjnaaGreat.Am
