/- Part of a proof. -/
import Derived.Test.YtmcncjgbkobjnaaGreatId
set_option linter.unusedSimpArgs false
set_option linter.unusedVariables false
noncomputable section
namespace Go.Proofs.YtmcncjgbkobjnaaGreat.P
def nT {α:Type} (c:α->α->Int):List α->List α
 | []=>[]
 | x::l=>UZ c x (nT c l)
theorem y3 {α:Type} (c:α->α->Int) (x:α):∀l:List α,(UZ c x l).Perm (x::l)
 | []=>ahx _
 | y::l=>by
  unfold UZ
  split
  ·exact ahx _
  ·exact ((y3 c x l).cons y).trans (List.Perm.swap x y l)
theorem jU {α:Type} (c:α->α->Int):∀l:List α,(nT c l).Perm l
 | []=>ahx _
 | x::l=>(y3 c x _).trans ((jU c l).cons x)
theorem nf {α:Type} (c:α->α->Int) (l:List α):(nT c l).length=l.length:=(jU c l).length_eq
structure WO {α:Type} (c:α->α->Int):Prop where
 total:∀x y,c x y<=0∨c y x<=0
 neg:∀x y,c x y<0↔0<c y x
 trans:∀x y z,c x y<=0->c y z<=0->c x z<=0
theorem Ai {α:Type} {c:α->α->Int} (h:WO c) (x:α):∀l:List α,l.Pairwise (fun x y=>c x y<=0)->(UZ c x l).Pairwise (fun x y=>c x y<=0)
 | [],_=>List.pairwise_singleton _ _
 | y::l,hs=>by
  unfold UZ
  obtain⟨h1,h2⟩:=ag9.1 hs
  split
  ·rename_i hc
   refine ag9.2 ⟨fun z hz =>?_,hs⟩
   rcases afC.1 hz with rfl|hz
   ·exact hc
   ·exact h.trans _ _ _ hc (h1 z hz)
  ·rename_i hc
   have hyx:c y x<=0:=(h.total x y).resolve_left hc
   refine ag9.2 ⟨fun z hz =>?_,Ai h x l h2⟩
   rcases afC.1 ((y3 c x l).mem_iff.1 hz) with rfl|hz
   ·exact hyx
   ·exact h1 z hz
theorem mV {α:Type} {c:α->α->Int} (h:WO c):∀l:List α,(nT c l).Pairwise (fun x y=>c x y<=0)
 | []=>List.Pairwise.nil
 | x::l=>Ai h x _ (mV h l)
theorem pB {α:Type} {c:α->α->Int} : ∀ {l m:List α},l.Perm m->(∀x∈l,∀y∈l,c x y<=0->c y x<=0->x=y)->l.Pairwise (fun x y=>c x y<=0)->m.Pairwise (fun x y=>c x y<=0)->l=m
 | [],m,hp,_,_,_=>(List.Perm.nil_eq hp)
 | x::l,[],hp,_,_,_=>absurd hp.symm (by intro h;have:=h.length_eq;simp at this)
 | x::l,y::m,hp,ha,hl,hm=>by
  obtain⟨l1,l2⟩:=ag9.1 hl
  obtain⟨m1,m2⟩:=ag9.1 hm
  have hxy:x=y:=by
   by_cases he:x=y
   ·exact he
   ·have hy:y∈l:=by
     have:y∈x::l:=hp.mem_iff.2 ag2
     rcases afC.1 this with h|h
     ·exact absurd h.symm he
     ·exact h
    have hx:x∈m:=by
     have:x∈y::m:=hp.mem_iff.1 ag2
     rcases afC.1 this with h|h
     ·exact absurd h he
     ·exact h
    exact ha x ag2 y (ag3 _ hy) (l1 y hy) (m1 x hx)
  subst hxy
  rw[pB ((List.perm_cons x).1 hp) (fun a h1 b h2=>ha a (ag3 _ h1) b (ag3 _ h2)) l2 m2]
open Classical in
def AO {α:Type} (c:α->α->Int) (l:List α):Option (List α×Unit):=if l.length<4611686018427387904∧∀x∈l,∀y∈l,c x y=0->x=y then some (nT c l,()) else none
end Go.Proofs.YtmcncjgbkobjnaaGreat.P
namespace Go.Proofs.YtmcncjgbkobjnaaGreat.Am
open Go.RowKit Go.Proofs.YtmcncjgbkobjnaaGreat.P
def Wr (ag:Bool) (us:List Value):Value:=if ag then .agg us.toArray else us.getD 0 undef
def IsV {α:Type} (E:gY α) (w:World) (M:Nat->Prop) (x:α) (us:List Value):Prop:=us.length=E.size∧∀j d,(E.cells x)[j]? = some d->aS d=true∧RP w M d (us.getD j undef)
def ac0 {α:Type} (P:Program) (g:FuncId) (ag:Bool) (E:gY α) (c:α->α->Int):Prop:=∀(w:World) (M:Nat->Prop) (x y:α) (ux uy:List Value),(∀b,M b->b<w.heap.size)->IsV E w M x ux->IsV E w M y uy ->
 Calls P g #[Wr ag ux,Wr ag uy] w fun e w'=>e=.returned (.int .i64 (c x y))∧∃q os,w'=Go.Sort.grow (w.drewN q) os
def aa0 (P:Program) (f g:FuncId) (ag:Bool) (k:Nat):Prop:=∀(β:Type) (_:Inhabited β) (enc:β->List Value) (cf:β->β->Int),(∀x,(enc x).length=k)->(∀x,∀v∈enc x,v.oneCell'=true)->Go.Sort.SWO (ltOf cf)->∀(blk off cap:Nat) (d:Array β) (w:World),
 (∀(m:Nat) (os:Array Obj) (dk:Array β),dk.size=d.size->∀x y:β,Calls P g #[Wr ag (enc x),Wr ag (enc y)] (sortWorldK enc k w blk off m dk os) fun e w'=>e=.returned (.int .i64 (cf x y))∧∃q os',w'=Go.Sort.grow ((sortWorldK enc k w blk off m dk os).drewN q) os') ->
 Go.Sort.HoldsK enc k w blk off d->blk<w.heap.size->d.size<4611686018427387904 ->
 Calls P f #[.slice (some ⟨blk,off,none⟩) d.size cap,.func (.func g) #[] #[]] w fun e w'=>e=.returned (.tuple #[])∧∃d' n os,Go.Sort.PermIn 0 d.size d d'∧Go.Sort.SortedIn (ltOf cf) 0 d.size d'∧w'=sortWorldK enc k w blk off n d' os
theorem SH {α:Type} (E:gY α) {l:List α} {i j:Nat} {x:α} (hi:l[i]? = some x) (hj:j<E.size):(ab E l)[i*E.size+j]? = (E.cells x)[j]?:=by
 have h1:((ab E l).drop (i*E.size))[j]? = (ab E l)[i*E.size+j]?:=afM
 have h2:l.drop i=x::l.drop (i+1):=by
  obtain⟨hlt,rfl⟩:=afY.1 hi
  exact ahq hlt
 rw[<- h1,ue,h2,bn,af9 (by rw[E.len];exact hj)]
section
variable {β:Type} [Inhabited β] {enc:β->List Value} {k:Nat}
theorem Kd {w:World} {b off:Nat} {d:Array β} {cs:Array Value} {ty:Nat} {fr:Nat×Nat} (h:w.heap[b]? = some (.cells cs ty fr)):(Go.Sort.putRowK enc k w b off d).heap[b]? = some (.cells (Go.Sort.putCells id off (Go.Sort.flatK enc k d) cs) ty fr):=by
 simp[Go.Sort.putRowK,Go.Sort.putRow,Go.Sort.mapBlock,afF,h,Go.Sort.onCells]
theorem Bg {w:World} {b c off:Nat} {d:Array β} (h:c≠b):(Go.Sort.putRowK enc k w b off d).heap[c]? = w.heap[c]?:=by
 simp[Go.Sort.putRowK,Go.Sort.putRow,Go.Sort.mapBlock,afF,Ne.symm h]
theorem vT {w:World} {b c off m:Nat} {d:Array β} {os:Array Obj} (hc:c<w.heap.size) (h:c≠b):(sortWorldK enc k w b off m d os).heap[c]? = w.heap[c]?:=by
 unfold sortWorldK
 rw[Go.Sort.heap_grow_old _ _ (by simpa [Go.Sort.putRowK,Go.Sort.ahead] using hc),Bg h]
 rfl
theorem mB {w:World} {b off m:Nat} {d:Array β} {os:Array Obj} : w.heap.size<=(sortWorldK enc k w b off m d os).heap.size:=by
 simp[sortWorldK,Go.Sort.putRowK,Go.Sort.ahead]
theorem FJ {w:World} {b off m:Nat} {d:Array β} {os:Array Obj} {cs:Array Value} {ty:Nat} {fr:Nat×Nat} (h:w.heap[b]? = some (.cells cs ty fr)):(sortWorldK enc k w b off m d os).heap[b]? = some (.cells (Go.Sort.putCells id off (Go.Sort.flatK enc k d) cs) ty fr):=by
 have hb:=(afz.1 h).1
 unfold sortWorldK
 rw[Go.Sort.heap_grow_old _ _ (by simpa [Go.Sort.putRowK,Go.Sort.ahead] using hb)]
 exact Kd h
theorem FG {off:Nat} {d:Array β} {cs:Array Value} {j:Nat} (hj:j<cs.size):(Go.Sort.putCells id off (Go.Sort.flatK enc k d) cs).getD j undef=if off<=j∧j<off+d.size*k then (enc d[(j-off) / k]!)[(j-off) % k]! else cs.getD j undef:=by
 have h1:(Go.Sort.putCells id off (Go.Sort.flatK enc k d) cs)[j]? = some (if off<=j∧j<off+d.size*k then (enc d[(j-off) / k]!)[(j-off) % k]! else cs[j]):=by
  simp only[Go.Sort.putCells,Array.getElem?_mapIdx,agG hj,Option.map_some,Go.Sort.size_flatK]
  congr 1
  split
  ·rename_i hc
   rw[Go.Sort.get_flatK _ _ _ _ (by omega)]
   rfl
  ·rfl
 rw[afA,h1]
 simp[afA,hj]
end
theorem acz {α β:Type} {c:α->α->Int} (h:WO c) (f:β->α):Go.Sort.SWO (ltOf fun x y=>c (f x) (f y)) where
 irrefl x:=by
  simp only[ltOf,decide_eq_false_iff_not]
  intro hx
  have:=(h.neg _ _).1 hx
  omega
 trans x y z h1 h2:=by
  simp only[ltOf,decide_eq_true_eq]at h1 h2 ⊢
  by_cases h3:c (f x) (f z)<0
  ·exact h3
  ·have q1:c (f z) (f x)<=0:=by
    have:=(h.neg (f z) (f x));rcases ahy (c (f z) (f x)) 0 with q|q|q
    ·omega
    ·omega
    ·exact absurd ((h.neg (f x) (f z)).2 q) h3
   have q2:=h.trans _ _ _ q1 (Int.le_of_lt h1)
   have q3:=(h.neg _ _).1 h2
   omega
 ntrans x y z h1 h2:=by
  simp only[ltOf,decide_eq_false_iff_not]at h1 h2 ⊢
  intro h3
  have q1:c (f y) (f x)<=0:=by
   by_cases q:0<c (f y) (f x)
   ·exact absurd ((h.neg _ _).2 q) h1
   ·omega
  have q2:c (f z) (f y)<=0:=by
   by_cases q:0<c (f z) (f y)
   ·exact absurd ((h.neg _ _).2 q) h2
   ·omega
  have q3:=h.trans _ _ _ q2 q1
  have q4:=(h.neg _ _).1 h3
  omega
theorem Ec {β:Type} [Inhabited β] {d d':Array β} (h:Go.Sort.PermIn 0 d.size d d'):d'.toList.Perm d.toList:=by
 obtain⟨h1,-,h2⟩:=h
 have e1:(d.extract 0 d.size)=d:=by simp
 have e2:(d'.extract 0 d.size)=d':=by rw[<- h1];simp
 rwa [e1,e2]at h2
theorem YL {α:Type} {E:gY α} {c:α->α->Int} {P:Program} {f g:FuncId} {fn:Func} {ag:Bool} {ty:Nat} {F:List α->Option (List α×Unit)} (hf:P.funcs[f]? = some fn) (hc:(fn.name == "runtime.NumGoroutine")=false∧fn.body.isNone=false)
  (hF:∀l,F l=AO c l) (h0:∀p cap w,Calls P f #[.slice p 0 cap,.func (.func g) #[] #[]] w fun e w'=>e=.returned (.tuple #[])∧w'=w) (hO:WO c) (hcmp:ac0 P g ag E c) (hS:aa0 P f g ag E.size) :
  bP P f (mkW ty E (eQ (aFn g)) (fun l (_:Unit)=>F l) (fun _:Unit =>.clean (.tup []))) where
 callable:=⟨fn,hf,hc⟩
 calls lent la rk out hg:=by
  obtain⟨pre,l,post,a,l',r,rfl,rfl,hr,rfl,rfl⟩:=NT hg
  rw[hF]at hr
  unfold AO at hr
  by_cases hcond:l.length<4611686018427387904∧∀x∈l,∀y∈l,c x y=0->x=y
  ·rw[if_pos hcond]at hr
   obtain⟨hlen,hanti⟩:=hcond
   obtain rfl:nT c l=l':=congrArg Prod.fst (Option.some.inj hr)
   intro w M go u0 vs hM hgoM hz hmp hrow hlv hargs
   have hvs:vs = #[.func (.func g) #[] #[]]:=by
    have h1:=hargs.1
    have h2:=hargs.2 0 (.fn g) rfl
    have h3:vs.size=1:=h1
    cases hv:vs.getD 0 undef<;>rw[hv]at h2<;>cases h2
    apply Array.ext
    ·simp[h3]
    ·intro i i1 i2
     have:i=0:=by omega
     subst this
     simpa [Array.getD,h3] using hv
   subst hvs
   by_cases hl:l=[]
   ·subst hl
    have hu:∃p cp,u0=.slice p 0 cp:=by
     rcases hlv.2 ⟨0,0,[],false,false,false⟩ rfl rfl with⟨g',o',cp,N,t,k0,k1,k2,k3,k4,k5⟩|k0
     ·exact⟨_,_,k1⟩
     ·obtain⟨_,_,A,k1⟩:=k0
      exact⟨_,_,k1⟩
    obtain⟨p,cp,rfl⟩:=hu
    refine (h0 p cp w).mono fun e w' ⟨he,hw⟩ =>?_
    subst hw
    exact⟨.tuple #[],he,⟨rfl,rfl,rfl,afv _,fun _ _ _=>rfl⟩,⟨rfl,rfl,⟨rfl,rfl⟩,fun g' hg'=>rfl,hrow⟩,.tup [] [] rfl (fun j x hj=>by simp at hj)⟩
   ·have hk:=E.pos
    have hpos:0<l.length:=ahl.2 hl
    cases go with
    | none =>
     have hce:pre++(ab E l++post)=[]:=hrow
     have:=congrArg List.length hce
     rw[agF,agF,bu,afW]at this
     have:=Nat.mul_pos hpos hk
     omega
    | some go =>
     obtain⟨cs,h1,h2,h3⟩:=hrow
     simp only[agF,bu]at h2
     generalize hM':(fun b=>M b∨sf (some go) b)=M' at h3 hargs ⊢
     have hMgo:M' go.1:=by rw[<- hM'];exact .inr ⟨go,rfl,rfl⟩
     have hlt:go.1<w.heap.size:=(afz.1 h1).1
     have hM'lt:∀b,M' b->b<w.heap.size:=by
      intro b hb
      rw[<- hM']at hb
      rcases hb with hb|⟨g',hg',rfl⟩
      ·exact hM b hb
      ·cases hg';exact hlt
     rcases hlv.2 ⟨0,0,[],false,false,false⟩ rfl rfl with⟨g',o',cp,N,t,k0,k1,k2,k3,k4,k5⟩|⟨k0,_⟩
     rotate_left
     ·cases k0
     cases k0
     obtain⟨rfl,k6⟩:=k2 (.inl (by omega))
     subst k1
     have hfit:∀i,i<l.length->i*E.size+E.size<=l.length*E.size:=by
      intro i hi
      have:=agi E.size (show i+1<=l.length from hi)
      rwa [ags]at this
     have hcell:∀i (hi:i<l.length),IsV E w M' l[i] ((List.range E.size).map fun j=>cs.getD (go.2+pre.length+(i*E.size+j)) undef):=by
      intro i hi
      refine⟨by simp,fun j d hj =>?_⟩
      have hjs:j<E.size:=by
       have:=(afY.1 hj).1
       rwa [E.len]at this
      have hd:(pre++(ab E l++post))[pre.length+(i*E.size+j)]? = some d:=by
       have:=hfit i hi
       rw[aga (by omega),agT,af9 (by rw[bu];omega),SH E (afI hi) hjs,hj]
      have:=h3 _ _ hd
      rw[<- afQ]at this
      simpa [List.getD,hjs] using this
     let β:={ p:α×List Value // IsV E w M' p.1 p.2 }
     let enc:β->List Value:=fun p=>p.1.2
     let dl:List β:=List.ofFn fun i:Fin l.length=>(⟨(l[i.1],_),hcell i.1 i.2⟩:β)
     have hdl:dl.length=l.length:=by simp[dl]
     have hdi:∀i (hi:i<l.length),dl[i]? = some ⟨(l[i],_),hcell i hi⟩:=by
      intro i hi
      simp[dl,hi]
     have hinh:Inhabited β:=⟨⟨(l[0],_),hcell 0 hpos⟩⟩
     have hmap:dl.map (fun p=>p.1.1)=l:=by
      apply ahz
      intro i
      by_cases hi:i<l.length
      ·rw[afs,hdi i hi,afI hi];rfl
      ·rw[ag7 (by simp[hdl];omega),ag7 (by omega)]
     have henc:∀x:β,(enc x).length=E.size:=fun x=>x.2.1
     have hone:∀x:β,∀v∈enc x,v.oneCell'=true:=by
      intro x v hv
      obtain⟨j,hj⟩:=afR hv
      have hjl:=(afY.1 hj).1
      rw[henc]at hjl
      obtain⟨p1,p2⟩:=x.2.2 j _ (afI (by rw[E.len];exact hjl))
      have:x.1.2.getD j undef=v:=by simp only[af8];rw[show x.1.2[j]? = some v from hj];rfl
      rw[this]at p2
      exact p2.oW p1
     have hkeep:∀ {m:Nat} {dk:Array β} {os:Array Obj} {d:D} {u:Value},RP w M' d u->RP (sortWorldK enc E.size w go.1 (go.2+pre.length) m dk os) M' d u:=by
      intro m dk os d u hu
      refine hu.keep fun b q1 q2=>⟨afy q1 mB,q2,?_⟩
      exact vT q1 (fun e=>q2 (e ▸ hMgo))
     have hH:Go.Sort.HoldsK enc E.size w go.1 (go.2+pre.length) dl.toArray:=by
      intro j hj
      simp only[Go.Sort.size_flatK,agP,hdl]at hj
      refine⟨?_,by simp[World.frozen?,h1]⟩
      have hq:j / E.size<l.length:=Nat.div_lt_of_lt_mul (by rwa [agt])
      have hmod:j % E.size<E.size:=Nat.mod_lt _ hk
      have hjj:j / E.size*E.size+j % E.size=j:=by rw[agt];exact Nat.div_add_mod j E.size
      rw[Go.Sort.get_flatK _ _ _ _ (by simpa [hdl] using hj),aK h1 (j:=go.2+pre.length+j) (by omega)]
      have e1:(dl.toArray)[j / E.size]! = ⟨(l[j / E.size],_),hcell _ hq⟩:=by
       have h5:=hdi _ hq
       rw[getElem!_pos dl.toArray (j / E.size) (by simpa [hdl] using hq)]
       have:=(afY.1 h5).2
       simpa using this
      rw[e1]
      show some _=some (((List.range E.size).map fun j'=>cs.getD (go.2+pre.length+(j / E.size*E.size+j')) undef)[j % E.size]!)
      rw[getElem!_pos _ _ (by simpa using hmod)]
      simp[hjj]
     have hwo:=acz hO (fun p:β=>p.1.1)
     have hcall:=hS β hinh enc (fun x y=>c x.1.1 y.1.1) henc hone hwo go.1 (go.2+pre.length) cp dl.toArray w (fun m os dk hdk x y=>hcmp _ M' x.1.1 y.1.1 x.1.2 y.1.2 (fun b hb=>afy (hM'lt b hb) mB) ⟨x.2.1,fun j d hj=>⟨(x.2.2 j d hj).1,hkeep (x.2.2 j d hj).2⟩⟩ ⟨y.2.1,fun j d hj=>⟨(y.2.2 j d hj).1,hkeep (y.2.2 j d hj).2⟩⟩) hH hlt (by simpa [hdl] using hlen)
     have hsz:dl.toArray.size=l.length:=by simp[hdl]
     rw[hsz]at hcall
     refine hcall.mono fun e w' ⟨he,d',n,os,hperm,hsort,hw⟩ =>?_
     subst hw
     have hperm':=Ec (by rw[hsz];exact hperm)
     have hd's:d'.size=l.length:=by have:=hperm.1;rw[this,hsz]
     have hl':d'.toList.map (fun p=>p.1.1)=nT c l:=by
      have hp1:(d'.toList.map (fun p=>p.1.1)).Perm l:=by
       have:=hperm'.map (fun p:β=>p.1.1)
       rwa [show dl.toArray.toList.map (fun p:β=>p.1.1)=l from hmap]at this
      refine pB (hp1.trans (jU c l).symm) (fun x hx y hy h4 h5=>hanti x (hp1.mem_iff.1 hx) y (hp1.mem_iff.1 hy) ?_) ?_ (mV hO l)
      ·have:=hO.neg x y
       have:=hO.neg y x
       omega
      ·rw[List.pairwise_map]
       rw[ahA]
       intro i j hi hj hij
       simp only[Array.length_toList]at hi hj
       have:=hsort i j (afw _) hij (by omega)
       simp only[ltOf,decide_eq_false_iff_not]at this
       rw[getElem!_pos d' j (by omega),getElem!_pos d' i (by omega)]at this
       simp only[Array.getElem_toList]
       have h6:=hO.neg d'[j].1.1 d'[i].1.1
       omega
     have hnew:(sortWorldK enc E.size w go.1 (go.2+pre.length) n d' os).heap[go.1]? = some (.cells (Go.Sort.putCells id (go.2+pre.length) (Go.Sort.flatK enc E.size d') cs) ty (0,0)):=FJ h1
     have hcsz:(Go.Sort.putCells id (go.2+pre.length) (Go.Sort.flatK enc E.size d') cs).size=cs.size:=by simp[Go.Sort.putCells]
     refine⟨.tuple #[],he,⟨rfl,rfl,rfl,mB,fun k hk hn=>vT hk (fun e=>hn ⟨go,rfl,e⟩)⟩,⟨rfl,rfl,⟨rfl,rfl⟩,fun g' hg' =>?_,?_⟩,.tup [] [] rfl (fun j x hj=>by simp at hj)⟩
     ·cases hg'
      simp[World.shape?,hnew,h1,hcsz]
     ·refine⟨_,hnew,?_,fun j d hj =>?_⟩
      ·simp only[agF,bu,nf,hcsz];exact h2
      ·have hjl:j<pre.length+(l.length*E.size+post.length):=by
        have:=(afY.1 hj).1
        simpa [bu,nf] using this
       show _∧RP _ (fun b=>M b∨sf (some go) b) d _
       rw[hM',FG (by omega),hd's]
       by_cases hin:pre.length<=j∧j<pre.length+l.length*E.size
       ·rw[if_pos (by omega)]
        have e1:go.2+j-(go.2+pre.length)=j-pre.length:=by omega
        rw[e1]
        have hq:(j-pre.length) / E.size<l.length:=Nat.div_lt_of_lt_mul (by rw[agt];omega)
        have hmod:(j-pre.length) % E.size<E.size:=Nat.mod_lt _ hk
        have hjj:(j-pre.length) / E.size*E.size+(j-pre.length) % E.size=j-pre.length:=by rw[agt];exact Nat.div_add_mod _ _
        rw[aga hin.1,af9 (by rw[bu,nf];omega),<- hjj,<- hl',SH E (x:=(d'[(j-pre.length) / E.size]!).1.1) (by
         rw[afs,afI (by simpa [hd's] using hq),getElem!_pos d' _ (by omega)];simp) hmod]at hj
        obtain⟨p1,p2⟩:=(d'[(j-pre.length) / E.size]!).2.2 _ _ hj
        refine⟨p1,hkeep ?_⟩
        have e2:(enc d'[(j-pre.length) / E.size]!)[(j-pre.length) % E.size]! = (d'[(j-pre.length) / E.size]!).1.2.getD ((j-pre.length) % E.size) undef:=by
         rw[getElem!_pos _ _ (by rw[henc];exact hmod)]
         simp only[af8]
         rw[afI (by have:=(d'[(j-pre.length) / E.size]!).2.1;omega)]
         rfl
        rw[e2]
        exact p2
       ·rw[if_neg (by omega)]
        have hj':(pre++(ab E l++post))[j]? = some d:=by
         by_cases hlo:j<pre.length
         ·rw[af9 hlo]at hj ⊢
          exact hj
         ·rw[aga (by omega),aga (by rw[bu,nf];omega),bu,nf]at hj
          rw[aga (by omega),aga (by rw[bu];omega),bu]
          exact hj
        exact⟨(h3 j d hj').1,hkeep (h3 j d hj').2⟩
  ·rw[if_neg hcond]at hr;cases hr
end Go.Proofs.YtmcncjgbkobjnaaGreat.Am
namespace Go.Proofs.YtmcncjgbkobjnaaGreat.P
def jf {α:Type} (f g:α->Int) (x y:α):Int:=if Go.Lib.compareInt (f x) (f y)≠0 then Go.Lib.compareInt (f x) (f y) else Go.Lib.compareInt (g x) (g y)
theorem zn {α:Type} {f g:α->Int} {x y:α} : jf f g x y<0↔f x<f y∨(f x=f y∧g x<g y):=by
 unfold jf Go.Lib.compareInt
 repeat' split
 all_goals omega
theorem zo {α:Type} {f g:α->Int} {x y:α} : 0<jf f g x y↔f y<f x∨(f x=f y∧g y<g x):=by
 unfold jf Go.Lib.compareInt
 repeat' split
 all_goals omega
theorem EK {α:Type} {f g:α->Int} {x y:α} : jf f g x y<=0↔f x<f y∨(f x=f y∧g x<=g y):=by
 have h1:=@zn α f g x y
 have h2:=@zo α f g x y
 omega
theorem Rj {α:Type} {f g:α->Int} {x y:α} : jf f g x y=0↔f x=f y∧g x=g y:=by
 have h1:=@zn α f g x y
 have h2:=@zo α f g x y
 omega
theorem tE {α:Type} (f g:α->Int):WO (jf f g) where
 total x y:=by rw[EK,EK];omega
 neg x y:=by rw[zn,zo];omega
 trans x y z h1 h2:=by rw[EK]at *;omega
end Go.Proofs.YtmcncjgbkobjnaaGreat.P
namespace Go.Proofs.YtmcncjgbkobjnaaGreat.Am
open Go.RowKit Go.Lib Go.Sort Go.Shelf Go.Proofs.YtmcncjgbkobjnaaGreat.P
theorem aaw (x:Int) (w:World):Calls Tryz.prog 190 #[.int .i64 x] w fun e w'=>e=.returned (.bool false)∧w'=w:=by
 go_enter Tryz.func190,Tryz.ntmps190
 go_wp2
 go_ret
 exact⟨by simp,rfl⟩
theorem Lx (x y:Int) (w:World):Calls Tryz.prog 139 #[.int .i64 x,.int .i64 y] w fun e w'=>e=.returned (.int .i64 (Lib.compareInt x y))∧w'=w:=by
 go_enter Tryz.func139,Tryz.ntmps139
 go_wp2_with (go_at_call 190;refine (aaw _ _).mono ?_;rintro e w' ⟨rfl,hw⟩;rw[hw])
 all_goals (go_ret;refine⟨?_,rfl⟩;unfold Lib.compareInt;(repeat' split)<;>first|rfl|(exfalso;omega))
theorem acj (b off cap:Nat) (x y r:Int) (hr:r=if x≠0 then x else y) (w:World) (h0:w.cell? ⟨b,off,none⟩=some (.int .i64 x)) (h1:w.cell? ⟨b,off+1,none⟩=some (.int .i64 y)):Calls Tryz.prog 138 #[.slice (some ⟨b,off,none⟩) 2 cap] w fun e w'=>e=.returned (.int .i64 r)∧w'=w:=by
 go_enter Tryz.func138,Tryz.ntmps138
 go_wp2
 refine wp_loop_rounds 3 ?_
 repeat any_goals (rw[rounds_succ];go_wp2)
 all_goals (go_ret;refine⟨?_,rfl⟩;subst hr;simp_all)
theorem EW (W:World) (A B:Obj) (q:Nat):({ ((W.alloc A).alloc B) with drawn:=q } : World).heap[W.heap.size]? = some A∧({ ((W.alloc A).alloc B) with drawn:=q } : World).heap[W.heap.size+1]? = some B:=by
 constructor
 ·show ((W.heap.push A).push B)[W.heap.size]? = some A
  simp[Array.getElem?_push]
 ·show ((W.heap.push A).push B)[W.heap.size+1]? = some B
  rw[Array.getElem?_push,if_pos (by simp)]
theorem Wq (w:World) (x y:Value) (t:TypeId):(w.alloc (.cells #[x,y] t)).cell? ⟨w.heap.size,0,none⟩=some x∧(w.alloc (.cells #[x,y] t)).cell? ⟨w.heap.size,0+1,none⟩=some y:=by
 have h:(w.alloc (.cells #[x,y] t)).heap[w.heap.size]? = some (.cells #[x,y] t):=by
  show (w.heap.push _)[w.heap.size]? = _
  simp
 exact⟨aK h (j:=0) (by simp),aK h (j:=0+1) (by simp)⟩
theorem ZK (W:World) (A B:Obj):({ ((W.alloc A).alloc B) with drawn:=((W.alloc A).alloc B).drawn+1 } : World)=grow (W.drewN 1) #[A,B]:=by
 rw[alloc_eq_grow,alloc_eq_grow,grow_grow];rfl
theorem OD {P:Program} {id:Nat} {Q:Exit->Act->World->Prop} {a:Act} {w w1:World} {l:List Oper} (n:Nat) (hw:w1 = { w with drawn:=w.drawn+1 }) (hm:P.follows .mixedOrders=true) (hB:Region.lexTailB .any l.toArray n=true)
  (h:wpStill P l.toArray w1 (fun a'=>wpList P l.toArray Q (l.drop n) a' w1) (l.take n) a):(Code.region id l.toArray true).wp P Q a w:=by
 subst hw
 exact wp_region_still_tail n hm hB h
set_option maxRecDepth 100000 in
theorem KS (f1 t1 f2 t2:Int) (a b c d a' b' c' d':Value) (W:World) (h1:∀v∈[a,b,c,d],v.oneCell'=true) (h2:∀v∈[a',b',c',d'],v.oneCell'=true) :
  Calls Tryz.prog 79 #[.agg #[.int .i64 f1,.int .i64 t1,a,b,c,d],.agg #[.int .i64 f2,.int .i64 t2,a',b',c',d']] W fun e w'=>e=.returned (.int .i64 (if Lib.compareInt f1 f2≠0 then Lib.compareInt f1 f2 else Lib.compareInt t1 t2))∧∃q os',w'=grow (W.drewN q) os':=by
 have hcon:=fun x y W'=>Lx x y W'
 have hor:=fun b off cap x y r hr W' h0 h1=>acj b off cap x y r hr W' h0 h1
 generalize hr:(if Lib.compareInt f1 f2≠0 then Lib.compareInt f1 f2 else Lib.compareInt t1 t2)=r
 obtain⟨w1,hw1⟩:∃w1:World,w1 = { ((W.alloc (Obj.cells #[.int .i64 f1,.int .i64 t1,a,b,c,d] 63)).alloc (Obj.cells #[.int .i64 f2,.int .i64 t2,a',b',c',d'] 63)) with drawn:=((W.alloc (Obj.cells #[.int .i64 f1,.int .i64 t1,a,b,c,d] 63)).alloc (Obj.cells #[.int .i64 f2,.int .i64 t2,a',b',c',d'] 63)).drawn+1 }:=⟨_,rfl⟩
 have hg:∃q os,w1=grow (W.drewN q) os:=⟨_,_,hw1.trans (ZK _ _ _)⟩
 have hA:w1.heap[W.heap.size]? = some (Obj.cells #[.int .i64 f1,.int .i64 t1,a,b,c,d] 63):=by rw[hw1];exact (EW _ _ _ _).1
 have hB:w1.heap[W.heap.size+1]? = some (Obj.cells #[.int .i64 f2,.int .i64 t2,a',b',c',d'] 63):=by rw[hw1];exact (EW _ _ _ _).2
 have c1:w1.cell? ⟨W.heap.size,0,none⟩=some (.int .i64 f1):=aK hA (j:=0) (by simp)
 have c2:w1.cell? ⟨W.heap.size,1,none⟩=some (.int .i64 t1):=aK hA (j:=1) (by simp)
 have c3:w1.cell? ⟨W.heap.size+1,0,none⟩=some (.int .i64 f2):=aK hB (j:=0) (by simp)
 have c4:w1.cell? ⟨W.heap.size+1,1,none⟩=some (.int .i64 t2):=aK hB (j:=1) (by simp)
 clear hA hB
 go_enter Tryz.func79,Tryz.ntmps79
 go_wp2
 refine OD 10 hw1 (by kernel_rfl) (by kernel_rfl) ?_
 clear hw1
 simp only[List.take_succ_cons,List.take_zero,aho,agX]
 iterate 4 still_step
 still_call (hcon _ _ _)
 iterate 4 still_step
 still_call (hcon _ _ _)
 apply wpStill_nil
 generalize Lib.compareInt f1 f2=r1 at *
 generalize Lib.compareInt t1 t2=r2 at *
 go_wp2_with (go_at_call 138;refine (hor _ _ _ _ _ _ hr.symm _ (Wq _ _ _ _).1 (Wq _ _ _ _).2).mono ?_;rintro e w' ⟨rfl,rfl⟩)
 go_ret
 obtain⟨q,os,hq⟩:=hg
 exact⟨rfl,q,_,by rw[hq,alloc_eq_grow,grow_grow]⟩
theorem YG {α:Type} {E:gY α} (h6:E.size=6) {f g:α->Int} (h0:∀x,(E.cells x)[0]? = some (.int .i64 (f x))) (h1:∀x,(E.cells x)[1]? = some (.int .i64 (g x))) {w:World} {M:Nat->Prop} {x:α} {us:List Value} (h:IsV E w M x us) :
  ∃a b c d,us=[.int .i64 (f x),.int .i64 (g x),a,b,c,d]∧∀v∈[a,b,c,d],v.oneCell'=true:=by
 obtain⟨hl,hc⟩:=h
 rw[h6]at hl
 match us,hl with
 | [a0,a1,a2,a3,a4,a5],_ =>
  have e0:a0=.int .i64 (f x):=by
   have:=(hc 0 _ (h0 x)).2
   simp at this
   cases this;rfl
  have e1:a1=.int .i64 (g x):=by
   have:=(hc 1 _ (h1 x)).2
   simp at this
   cases this;rfl
  have hlen:=E.len x
  rw[h6]at hlen
  have hone:∀j,j<6->([a0,a1,a2,a3,a4,a5].getD j undef).oneCell'=true:=fun j hj=>by
   obtain⟨p1,p2⟩:=hc j _ (afI (by omega))
   exact p2.oW p1
  subst e0 e1
  refine⟨a2,a3,a4,a5,rfl,fun v hv =>?_⟩
  simp only[afC,agC,or_false]at hv
  rcases hv with rfl|rfl|rfl|rfl
  ·exact hone 2 (by decide)
  ·exact hone 3 (by decide)
  ·exact hone 4 (by decide)
  ·exact hone 5 (by decide)
theorem UC {α:Type} {E:gY α} (h6:E.size=6) {f g:α->Int} (h0:∀x,(E.cells x)[0]? = some (.int .i64 (f x))) (h1:∀x,(E.cells x)[1]? = some (.int .i64 (g x))):ac0 Tryz.prog 79 true E (jf f g):=by
 intro w M x y ux uy hM hx hy
 obtain⟨a,b,c,d,rfl,p⟩:=YG h6 h0 h1 hx
 obtain⟨a',b',c',d',rfl,q⟩:=YG h6 h0 h1 hy
 exact KS _ _ _ _ a b c d a' b' c' d' w p q
theorem VK {P:Program} {ρ:Go.Shelf.Ren} (L:SlLaysF0.n6 P ρ) {k g:Nat} (aE:∀w,(isAgg (ρ.t 24)).run P w=.ok true w) (zE:∀w,(Go.sizeOf (ρ.t 24)).run P w=.ok k w) (eg:∀args w,(callFunc g args).run P w=.ok (.enter g args) w):aa0 P (ρ.f 6) g true k :=
 fun β inh enc cf hk h1 hO blk off cap d w hcmp hH hblk hsz=>AnyQ.slices_SortFunc L k aE zE enc hk h1 cf hO g #[] blk off cap d w eg (fun m os dk hdk x y=>by simpa [Wr] using hcmp m os dk hdk x y) hH hblk hsz
theorem J7 {α:Type} {E:gY α} (h6:E.size=6) {f g:α->Int} (h0:∀x,(E.cells x)[0]? = some (.int .i64 (f x))) (h1:∀x,(E.cells x)[1]? = some (.int .i64 (g x))) (ty:Nat) :
  bP Tryz.prog 78 (mkW ty E (eQ (aFn 79)) (fun l (_:Unit)=>AO (jf f g) l) (fun _:Unit =>.clean (.tup []))) :=
 YL (F:=AO (jf f g)) Tryz.func78 ⟨rfl,rfl⟩ (fun _=>rfl) (fun p cap w=>AnyF.slices_SortFunc_none Tryz.YM p cap _ w) (tE f g) (UC h6 h0 h1)
  (by rw[h6];exact VK Tryz.YM Tryz.isAgg63 Tryz.sizeOf63 (enters_of Tryz.func79 (by kernel_rfl) rfl))
end Go.Proofs.YtmcncjgbkobjnaaGreat.Am
namespace Go.Proofs.YtmcncjgbkobjnaaGreat.Am
open Go.RowKit Go.Proofs.YtmcncjgbkobjnaaGreat.P
def jF:Nat->Code->Code
 | 0,.seq a _=>a
 | k+1,.seq a b =>.seq a (jF k b)
 | _,c=>c
def zm:Nat->Code->Code
 | 0,.seq _ b=>b
 | k+1,.seq _ b=>zm k b
 | _,_ =>.skip
def spine:Nat->Code->Bool
 | 0,.seq _ _=>true
 | k+1,.seq _ b=>spine k b
 | _,_=>false
def WB (fn:Func):Code:=match fn.body with|some c=>c|none =>.skip
theorem JA (a b:Code):jF 0 (.seq a b)=a:=rfl
theorem Jz (k:Nat) (a b:Code):jF (k+1) (.seq a b)=.seq a (jF k b):=rfl
section
variable {P:Program} {T:Nat->Option Ty} {N:Nat} {M:Nat->Prop} {L:ik} {w0:World} {Γ:Env}
theorem Ah (hT:gm P T) (hΓ:bA P Γ) (hm:P.follows .mixedOrders=true) {F:Nat} {Q:Exit->Act->World->Prop} : ∀(k:Nat) (c:Code) (s:St) (x:Ex) (s':St) (a:Act) (w:World),spine k c=true->fi T Γ N F (jF k c) s=some (x,s')->codeOk (jF k c)=true->Holds N M L w0 s a w ->
  (x=.normal->∀a' w',Holds N M L w0 s' a' w'->(zm k c).wp P Q a' w')->(x ≠ .normal->∀a' w',Holds N M L w0 s' a' w'->Q (CY x) a' w')->c.wp P Q a w
 | 0,.seq b c,s,x,s',a,w,_,hv,hok,hH,h1,h2=>by
  refine wp_seq (gJ hT hΓ hm b s x s' _ a w hv hok hH fun a' w' hH' =>?_)
  cases x with
  | normal=>exact h1 rfl a' w' hH'
  | exit n=>exact h2 (by intro h;cases h) a' w' hH'
  | ret=>exact h2 (by intro h;cases h) a' w' hH'
 | k+1,.seq b c,s,x,s',a,w,hs,hv,hok,hH,h1,h2=>by
  simp only[jF,codeOk,af6]at hok
  simp only[jF,fi,acR]at hv
  apply wp_seq
  split at hv
  ·rename_i s1 hv1
   exact gJ hT hΓ hm b s .normal s1 _ a w hv1 hok.1 hH fun a' w' hH'=>Ah hT hΓ hm k c s1 x s' a' w' hs hv hok.2 hH' h1 h2
  ·rename_i r hne
   refine gJ hT hΓ hm b s x s' _ a w hv hok.1 hH fun a' w' hH' =>?_
   cases x with
   | normal=>exact absurd hv (fun h=>hne s' h)
   | exit n=>exact h2 (by intro h;cases h) a' w' hH'
   | ret=>exact h2 (by intro h;cases h) a' w' hH'
end
def wx (T:Nat->Option Ty) (rs:List ResultVar) (r:RK×Option Row) (J:(Nat->D)->(Nat->Option Row)->Nat->Prop):Kt:=fun x t h e =>
 match x with
 | .normal=>J t h e
 | .ret=>eZ .clean T none rs ⟨t,EH h,e⟩=some r
 | .exit _=>False
section
variable {T:Nat->Option Ty} {Γ:Env} {n F k:Nat} {rs:List ResultVar} {r:RK×Option Row} {J:(Nat->D)->(Nat->Option Row)->Nat->Prop} {t:Nat->D} {h:Nat->Option Row} {e:Nat}
theorem Ff:wx T rs r J .normal t h e=J t h e:=ah6
theorem C0:wx T rs r J .ret t h e=(eZ .clean T none rs ⟨t,EH h,e⟩=some r):=ah6
def RB (T:Nat->Option Ty) (Γ:Env) (F k:Nat) (fn:Func) (args:List D) (K:Kt):Prop:=∃c,fn.body=some c∧∃x s,fi T Γ fn.ntmps F (jF k c) (bM none args)=some (x,s)∧K x s.t s.h s.e
theorem V0 {fn:Func} {c:Code} {args:List D} (hb:fn.body=some c) (hn:fn.ntmps=n) (hr:fn.results=rs.toArray) (hw:cA T Γ n F [.code (jF k c)] (wx T rs r J) .normal (E7 args) Tn 0):RB T Γ F k fn args (wx T fn.results.toList r J):=by
 obtain⟨x,s,h1,h2⟩:=KA _ _ _ _ _ (show Pu T Γ n F (jF k c) (E7 args) Tn 0 (wx T rs r J) from hw)
 refine⟨c,hb,x,s,?_,?_⟩
 ·rw[hn];exact h1
 ·rw[hr];exact h2
end
section
variable {P:Program} {T:Nat->Option Ty} {Γ:Env}
theorem Pe {n:Nat} {args:List D} {w:World} {M:Nat->Prop} {vs:Array Value} (hM:∀b,M b->b<w.heap.size) (hargs:wQ w M args vs) (hn:args.length<=n) (hbig:n<=PK):Holds n M none w (bM none args) { tmps:=vs++Array.replicate (n-vs.size) undef,defers:=[] } w:=by
 have hI:Inv n M none w (fun _=>none) (fun x v=>x<n∧v<0) (bM none args).t (bM none args).h { tmps:=vs++Array.replicate (n-vs.size) undef,defers:=[] } w:={
  tab:=fun b hb=>(hargs.tab b hb).less fun b hb=>by
   rcases hb with hb|⟨x,r,g,hx,_⟩
   ·exact hb
   ·cases hx
  below:=dJ.refl _ _
  mlt:=hM
  lent:=fun b hb=>absurd hb oB
  pin:=fun go hg=>by cases hg
  defers:=rfl
  tsz:=by have:=hargs.1;simp;omega
  slots:=fun i=>by
   simp only[bM]
   rcases tD (n:=n) (i:=i) hargs.1 with he|he
   ·rw[he]
    by_cases hi:i<args.length
    ·have h1:=hargs.2 i _ (afI hi)
     have e1:args.getD i .und=args[i]:=by simp[List.getD,hi]
     rw[e1]
     exact bo (h1.less fun b hb=>by
      rcases hb with hb|⟨x,r,g,hx,_⟩
      ·exact hb
      ·cases hx)
    ·have e1:args.getD i .und=.und:=by simp[List.getD,ag7 (ahc hi)]
     rw[e1]
     trivial
   ·rw[he];trivial
  rows:=fun x r hx=>by cases hx
  inj:=fun x y r s g g' hx=>by cases hx
  big:=hbig
  pha:=fun y r g hy=>by cases hy
  ali:=fun y r g hy=>by cases hy }
 exact⟨_,⟨(by rw[BE (fun k r hk=>by cases hk)];exact hI.weaken fun x v hx=>absurd hx.2 (Nat.not_lt_zero _)),fun x r ty s nv cs hx=>by cases hx⟩⟩
theorem G2 (hT:gm P T) {fn:Func} {M:Nat->Prop} {w w':World} {s:St} {a':Act} {rk:RK} (hH:Holds fn.ntmps M none w s a' w') (hr:eZ .clean T none fn.results.toList ⟨s.t,EH s.h,s.e⟩=some (rk,none)) :
  a'.defers=[]∧∃v,(results fn a'.tmps).run P w'=.ok v w'∧(∃v',Ending.returned v=.returned v'∧Below w.heap.size w w'∧ss w w' M (fun _=>False) v' rk):=by
 obtain⟨blk',hIE⟩:=hH
 obtain⟨sE,hsE⟩:∃sE:St,sE=⟨s.t,EH s.h,s.e⟩:=⟨_,rfl⟩
 have hI':Inv fn.ntmps M none w blk' (VE fn.ntmps s.e [] s.h) sE.t sE.h a' w':=by rw[hsE];exact hIE.inv
 rw[<- hsE]at hr
 have hbel:Below w.heap.size w w':=hI'.below.below (fun b hb=>absurd hb oB)
 refine⟨hI'.defers,?_⟩
 simp only[eZ,nP,iP]at hr
 split at hr<;>try (cases hr;done)
 rename_i ds fr o hres ho
 split at hr<;>try (cases hr;done)
 simp only[afE,Prod.mk.injEq]at hr
 obtain⟨rfl,_⟩:=hr
 obtain⟨v,hv1,hv2⟩:=oZ (P:=P) hT hI' hres (hI'.abo fr)
 exact⟨v,hv1,v,rfl,hbel,hv2⟩
def KJ (P:Program) (fn:Func) (c:Code) (rk:RK) (J:(Nat->D)->(Nat->Option Row)->Nat->Prop):Prop:=∀(w0:World) (M:Nat->Prop) (s:St) (a:Act) (w:World),J s.t s.h s.e->Holds fn.ntmps M none w0 s a w ->
 c.wp P (bodyPost P fn fun e w'=>∃v,e=.returned v∧Below w0.heap.size w0 w'∧ss w0 w' M (fun _=>False) v rk) a w
theorem bP.front (hT:gm P T) (hΓ:bA P Γ) (hm:P.follows .mixedOrders=true) {α β:Type} {A:jM α} {F:α->Option β} {R:β->RK} {f:FuncId} {fn:Func} {c:Code} {k:Nat} {J:β->(Nat->D)->(Nat->Option Row)->Nat->Prop} (hf:P.funcs[f]? = some fn) (hb:fn.body=some c) (hok:(codeOk (jF k c)&&spine k c)=true)
  (hc:(fn.name == "runtime.NumGoroutine")=false∧fn.body.isNone=false) (hn:∀a,(A.ds a).length<=fn.ntmps) (hpk:fn.ntmps<=1000000) (h:∀a r,F a=some r->RB T Γ FU k fn (A.ds a) (wx T fn.results.toList (R r,none) (J r))) (ht:∀r,KJ P fn (zm k c) (R r) (J r)):bP P f (fc A F R) where
 calls lent la rk out hg:=by
  obtain⟨rfl,rfl,a,r,rfl,hr,rfl⟩:=pP hg
  rw[af6]at hok
  intro w M vs hM hargs
  obtain⟨c',hb',x,s,h1,h2⟩:=h a r hr
  rw[hb]at hb'
  cases hb'
  apply calls_of_wp hf hb
  refine Ah hT hΓ hm k c (bM none (A.ds a)) x s _ _ hok.2 h1 hok.1 (Pe hM hargs (hn a) (by rw[bZ];exact hpk)) ?_ ?_
  ·rintro rfl a' w' hH
   exact ht r w M s a' w' h2 hH
  ·intro hx a' w' hH
   cases x with
   | normal=>exact absurd rfl hx
   | exit n=>exact h2.elim
   | ret=>exact G2 hT hH h2
 callable:=⟨fn,hf,hc⟩
end
end Go.Proofs.YtmcncjgbkobjnaaGreat.Am
namespace Go.Proofs.YtmcncjgbkobjnaaGreat.P
open Go.RowKit
structure aj where
 ae:Int
 aa:(List Int)
structure ao where
 aZ:aj
 aX:aj
structure mF where
 jP:Int
 b5:Int
structure bI where
 bT:Int
 gD:Int
 bR:ao
structure cz where
 aC:Int
 aw:(List bI)
structure BR where
 ji:Int
 gp:Int
 b5:Int
 Jw:ByteArray
structure kA where
 ji:Int
 gp:Int
 b5:Int
structure kz where
 az:(List kA)
 bg:(List BR)
 ba:(List (List ao))
structure gS where
 aF:kz
 cK:(List mF)
 aC:(List Int)
structure fw where
 bd:(List Int)
 aT:(List gS)
structure RZ where
 P5:Int
 ab2:Int
structure KK where
 P6:Int
 sZ:ao
structure tW where
 l7:ao
 Bw:(List KK)
structure Jb where
 b5:Int
 lZ:ao
def AK (p0:(List Int)):(Int)->Option ((Int)⊕((Int)))
 | s3a =>
  if decide (s3a>0) then
   (P.idx p0 (IntKind.i64.wrap (s3a-1))).bind fun x6 =>
   if (x6==0) then
    some (.inl (IntKind.i64.wrap (s3a-1)))
   else
    some (.inr s3a)
  else
   some (.inr s3a)
def iF (p0:(List Int)):Option ((List Int)) :=
 (bf (AK p0) (p0.length:Int)).bind fun s3ax =>
 (Bm p0 0 s3ax).bind fun x8 =>
 (lk 8 [] x8).bind fun _ =>
 some x8
def fD (p0:Int) (p1:(List Int)):Option (aj) :=
 (iF p1).bind fun r1 =>
 if ((r1.length:Int)==0) then
  some (aj.mk 0 ([]))
 else
  some (aj.mk p0 r1)
def Ig:(Int×(List Int))->Option ((Int×(List Int))⊕(((List Int))))
 | (s0b,l4b) =>
  if (s0b != 0) then
   (JX .i64 s0b 1048576).bind fun x17 =>
   if decide (x17<0) then
    (lk 8 l4b [IntKind.i64.wrap (0-x17)]).bind fun x20 =>
    (Cm .i64 s0b 1048576).bind fun x22 =>
    some (.inl (x22,x20))
   else
    (lk 8 l4b [x17]).bind fun x24 =>
    (Cm .i64 s0b 1048576).bind fun x26 =>
    some (.inl (x26,x24))
  else
   some (.inr l4b)
def wI (p0:Int):Option (aj) :=
 if (p0==0) then
  some (aj.mk 0 ([]))
 else
  (if decide (p0<0) then
   some (-1)
  else
   some 1).bind fun s3j1 =>
  (bf (Ig) (p0,[])).bind fun l4bx =>
  (fD s3j1 l4bx).bind fun r28 =>
  some r28
def yf (p0:aj):(Int)->Option ((Int)⊕((Unit)⊕(Bool)))
 | s3a =>
  if decide (s3a<(p0.aa.length:Int)) then
   (P.idx p0.aa s3a).bind fun x7 =>
   if decide (x7<0) then
    some (.inr (.inr false))
   else
    if decide (x7>=1048576) then
     some (.inr (.inr false))
    else
     some (.inl (IntKind.i64.wrap (s3a+1)))
  else
   some (.inr (.inl ()))
def cV (p0:aj):Option (Bool) :=
 (bf (yf p0) 0).bind fun q=>match q with
 | (.inl _) =>
  (if decide (p0.ae<(-1)) then
   some true
  else
   if decide (p0.ae>1) then
    some true
   else
    some (!(((p0.aa.length:Int)==0)==(p0.ae==0)))).bind fun s44j2 =>
  if s44j2 then
   some false
  else
   if ((p0.aa.length:Int)==0) then
    some true
   else
    (P.idx p0.aa (IntKind.i64.wrap ((p0.aa.length:Int)-1))).bind fun x13 =>
    some (x13 != 0)
 | (.inr ra) =>
  some ra
def rD (p0:aj):Option (aj) :=
 (cV p0).bind fun r1 =>
 if (!r1) then
  some (aj.mk 0 ([]))
 else
  (fD (IntKind.i64.wrap (0-p0.ae)) p0.aa).bind fun r3 =>
  some r3
def ie (p0:(List Int)) (p1:Int):Option (Int) :=
 if decide (p1<(p0.length:Int)) then
  (P.idx p0 p1).bind fun x2 =>
  some x2
 else
  some 0
def yj (p0:(List Int)) (p1:(List Int)) (s6a:Int):(Int×Int×(List Int))->Option ((Int×Int×(List Int))⊕(((List Int))))
 | (s7e,s8e,l5e) =>
  (if decide (s8e<(p1.length:Int)) then
   some true
  else
   some (decide (s7e>0))).bind fun s29j7 =>
  if s29j7 then
   (P.idx l5e (IntKind.i64.wrap (s6a+s8e))).bind fun x43 =>
   (P.idx p0 s6a).bind fun x44 =>
   (ie p1 s8e).bind fun r45 =>
   (JX .i64 (IntKind.i64.wrap ((IntKind.i64.wrap (x43+(IntKind.i64.wrap (x44*r45))))+s7e)) 1048576).bind fun x46 =>
   (Cm .i64 (IntKind.i64.wrap ((IntKind.i64.wrap (x43+(IntKind.i64.wrap (x44*r45))))+s7e)) 1048576).bind fun x49 =>
   some (.inl (x49,IntKind.i64.wrap (s8e+1),(l5e.set (IntKind.i64.wrap (s6a+s8e)).toNat x46)))
  else
   some (.inr l5e)
def yi (p0:(List Int)) (p1:(List Int)):(Int×(List Int))->Option ((Int×(List Int))⊕(((List Int))))
 | (s6a,l5a) =>
  if decide (s6a<(p0.length:Int)) then
   (bf (yj p0 p1 s6a) (0,0,l5a)).bind fun l5ex =>
   some (.inl (IntKind.i64.wrap (s6a+1),l5ex))
  else
   some (.inr l5a)
def lz (p0:(List Int)) (p1:(List Int)):Option ((List Int)) :=
 (Fz 8 (IntKind.i64.wrap ((p0.length:Int)+(p1.length:Int))) (IntKind.i64.wrap ((p0.length:Int)+(p1.length:Int))) 0).bind fun x1 =>
 (bf (yi p0 p1) (0,x1)).bind fun l5ax =>
 (iF l5ax).bind fun r52 =>
 some r52
def AG (p0:(List Int)) (p1:(List Int)):(Int)->Option ((Int)⊕((Unit)⊕(Bool)))
 | s5a =>
  if decide (s5a>=0) then
   (ie p0 s5a).bind fun r7 =>
   (ie p1 s5a).bind fun r8 =>
   if (r7 != r8) then
    some (.inr (.inr (decide (r7<r8))))
   else
    some (.inl (IntKind.i64.wrap (s5a-1)))
  else
   some (.inr (.inl ()))
def od (p0:(List Int)) (p1:(List Int)):Option (Bool) :=
 (bf (AG p0 p1) (IntKind.i64.wrap ((if (p1.length:Int)>(p0.length:Int) then (p1.length:Int) else (p0.length:Int))-1))).bind fun q=>match q with
 | (.inl _) =>
  some false
 | (.inr ra) =>
  some ra
def yh (p0:(List Int)) (p1:(List Int)):(Int×Int×(List Int))->Option ((Int×Int×(List Int))⊕(((List Int))))
 | (s6a,s7a,l5a) =>
  if decide (s7a<(p0.length:Int)) then
   (P.idx p0 s7a).bind fun x11 =>
   (ie p1 s7a).bind fun r12 =>
   if decide ((IntKind.i64.wrap ((IntKind.i64.wrap (x11-r12))-s6a))<0) then
    (lk 8 l5a [IntKind.i64.wrap ((IntKind.i64.wrap ((IntKind.i64.wrap (x11-r12))-s6a))+1048576)]).bind fun x14 =>
    some (.inl (1,IntKind.i64.wrap (s7a+1),x14))
   else
    (lk 8 l5a [IntKind.i64.wrap ((IntKind.i64.wrap (x11-r12))-s6a)]).bind fun x16 =>
    some (.inl (0,IntKind.i64.wrap (s7a+1),x16))
  else
   some (.inr l5a)
def km (p0:(List Int)) (p1:(List Int)):Option ((List Int)) :=
 (bf (yh p0 p1) (0,0,[])).bind fun l5ax =>
 (iF l5ax).bind fun r18 =>
 some r18
def AI (p1:(List Int)) (r34:(List Int)):(Int×Int)->Option ((Int×Int)⊕((Int)))
 | (s9c,s10c) =>
  if decide ((IntKind.i64.wrap (s10c-s9c))>1) then
   (Cm .i64 (IntKind.i64.wrap (s9c+s10c)) 2).bind fun x44 =>
   (lz p1 ([x44])).bind fun r47 =>
   (od r34 r47).bind fun r48 =>
   if r48 then
    some (.inl (s9c,x44))
   else
    some (.inl (x44,s10c))
  else
   some (.inr s9c)
def AH (p0:(List Int)) (p1:(List Int)):((List Int)×Int×(List Int))->Option (((List Int)×Int×(List Int))⊕(((List Int)×(List Int))))
 | (s7a,s8a,l6a) =>
  if decide (s8a>=0) then
   (P.idx p0 s8a).bind fun x31 =>
   (lk 8 [x31] s7a).bind fun x32 =>
   (iF x32).bind fun r34 =>
   (bf (AI p1 r34) (0,1048576)).bind fun s9cx =>
   (P.idx l6a s8a).bind fun x50 =>
   (iF ([s9cx])).bind fun r53 =>
   (lz p1 r53).bind fun r54 =>
   (km r34 r54).bind fun r55 =>
   some (.inl (r55,IntKind.i64.wrap (s8a-1),(l6a.set (s8a).toNat s9cx)))
  else
   some (.inr (s7a,l6a))
def pY (p0:(List Int)) (p1:(List Int)):Option ((List Int)×(List Int)) :=
 (Fz 8 (p0.length:Int) (p0.length:Int) 0).bind fun x1 =>
 (bf (AH p0 p1) ([],IntKind.i64.wrap ((p0.length:Int)-1),x1)).bind fun q=>match q with
 | (s7ax,l6ax) =>
  (iF l6ax).bind fun r56 =>
  some (r56,s7ax)
def Ep:((List Int)×(List Int))->Option (((List Int)×(List Int))⊕(((List Int))))
 | (s6b,s7b) =>
  if decide ((s7b.length:Int)>0) then
   (pY s6b s7b).bind fun r8 =>
   some (.inl (s7b,r8.2))
  else
   some (.inr s6b)
def uY (p0:aj) (p1:aj):Option (aj×Int) :=
 (cV p0).bind fun r1 =>
 (if (!r1) then
  some true
 else
  (cV p1).bind fun r11 =>
  some (!r11)).bind fun s17j1 =>
 if s17j1 then
  some ((aj.mk 0 ([])),1)
 else
  (bf (Ep) (p0.aa,p1.aa)).bind fun s6bx =>
  (fD 1 s6bx).bind fun r9 =>
  some (r9,0)
def AJ (p0:(List Int)) (p1:(List Int)):(Int×Int×(List Int))->Option ((Int×Int×(List Int))⊕(((List Int))))
 | (s6a,s7a,l5a) =>
  (if decide (s7a<(p0.length:Int)) then
   some true
  else
   if decide (s7a<(p1.length:Int)) then
    some true
   else
    some (decide (s6a>0))).bind fun s22j3 =>
  if s22j3 then
   (ie p0 s7a).bind fun r16 =>
   (ie p1 s7a).bind fun r17 =>
   (JX .i64 (IntKind.i64.wrap ((IntKind.i64.wrap (r16+r17))+s6a)) 1048576).bind fun x18 =>
   (lk 8 l5a [x18]).bind fun x20 =>
   (Cm .i64 (IntKind.i64.wrap ((IntKind.i64.wrap (r16+r17))+s6a)) 1048576).bind fun x22 =>
   some (.inl (x22,IntKind.i64.wrap (s7a+1),x20))
  else
   some (.inr l5a)
def pZ (p0:(List Int)) (p1:(List Int)):Option ((List Int)) :=
 (bf (AJ p0 p1) (0,0,[])).bind fun l5ax =>
 (iF l5ax).bind fun r26 =>
 some r26
def uX (p0:aj) (p1:aj):Option (aj×aj×Int) :=
 (cV p0).bind fun r1 =>
 (if (!r1) then
  some true
 else
  (cV p1).bind fun r17 =>
  some (!r17)).bind fun s16j1 =>
 if s16j1 then
  some ((aj.mk 0 ([])),(aj.mk 0 ([])),1)
 else
  if (p1.ae==0) then
   some ((aj.mk 0 ([])),(aj.mk 0 ([])),15)
  else
   (pY p0.aa p1.aa).bind fun r5 =>
   (if decide ((IntKind.i64.wrap (p0.ae*p1.ae))>=0) then
    some true
   else
    some ((r5.2.length:Int)==0)).bind fun s42j2 =>
   if s42j2 then
    (fD (IntKind.i64.wrap (p0.ae*p1.ae)) r5.1).bind fun r8 =>
    (fD p0.ae r5.2).bind fun r9 =>
    some (r8,r9,0)
   else
    (pZ r5.1 ([1])).bind fun r11 =>
    (fD (-1) r11).bind fun r12 =>
    (km p1.aa r5.2).bind fun r13 =>
    (fD p1.ae r13).bind fun r14 =>
    some (r12,r14,0)
def u3 (p0:aj) (p1:aj):Option (ao×Int) :=
 (cV p0).bind fun r1 =>
 (if (!r1) then
  some true
 else
  (cV p1).bind fun r13 =>
  some (!r13)).bind fun s21j1 =>
 if s21j1 then
  some ((ao.mk (aj.mk 0 ([])) (aj.mk 0 ([]))),1)
 else
  if (p1.ae==0) then
   some ((ao.mk (aj.mk 0 ([])) (aj.mk 0 ([]))),15)
  else
   (if decide (p1.ae<0) then
    (rD p0).bind fun r10 =>
    (rD p1).bind fun r11 =>
    some (r10.ae,r10.aa,r11.ae,r11.aa)
   else
    some (p0.ae,p0.aa,p1.ae,p1.aa)).bind fun q=>match q with
   | (r2_0j2,r2_1j2,r3_0j2,r3_1j2) =>
    (uY (aj.mk r2_0j2 r2_1j2) (aj.mk r3_0j2 r3_1j2)).bind fun r6 =>
    (uX (aj.mk r2_0j2 r2_1j2) r6.1).bind fun r7 =>
    (uX (aj.mk r3_0j2 r3_1j2) r6.1).bind fun r8 =>
    some ((ao.mk r7.1 r8.1),0)
def zc (p0:Int) (p1:Int):Option (ao×Int) :=
 (wI p0).bind fun r1 =>
 (wI p1).bind fun r2 =>
 (u3 r1 r2).bind fun r3 =>
 some (r3.1,r3.2)
def s8:Option (ao) :=
 (zc 1 2).bind fun r1 =>
 some r1.1
def uZ (p0:Int):Option (ao) :=
 (zc p0 1).bind fun r1 =>
 some r1.1
def AF (p0:aj) (p1:aj):(Int)->Option ((Int)⊕((Unit)⊕(Bool)))
 | s5b =>
  if decide (s5b<(p0.aa.length:Int)) then
   (P.idx p0.aa s5b).bind fun x9 =>
   (P.idx p1.aa s5b).bind fun x10 =>
   if (x9 != x10) then
    some (.inr (.inr false))
   else
    some (.inl (IntKind.i64.wrap (s5b+1)))
  else
   some (.inr (.inl ()))
def tx (p0:aj) (p1:aj):Option (Bool) :=
 (if (p0.ae != p1.ae) then
  some true
 else
  some ((p0.aa.length:Int) != (p1.aa.length:Int))).bind fun s19j1 =>
 if s19j1 then
  some false
 else
  (bf (AF p0 p1) 0).bind fun q=>match q with
  | (.inl _) =>
   some true
  | (.inr rb) =>
   some rb
def ml (p0:aj) (p1:aj):Option (Int) :=
 (cV p0).bind fun r1 =>
 (if (!r1) then
  some true
 else
  (cV p1).bind fun r9 =>
  if (!r9) then
   some true
  else
   (tx p0 p1).bind fun r11 =>
   some r11).bind fun s17j1 =>
 if s17j1 then
  some 0
 else
  if (p0.ae != p1.ae) then
   if decide (p0.ae<p1.ae) then
    some (-1)
   else
    some 1
  else
   (od p0.aa p1.aa).bind fun r6 =>
   if (r6==(decide (p0.ae>0))) then
    some (-1)
   else
    some 1
def nk (p0:ao):Option (Bool) :=
 (cV p0.aZ).bind fun r1 =>
 (if (!r1) then
  some true
 else
  (cV p0.aX).bind fun r8 =>
  if (!r8) then
   some true
  else
   some (decide (p0.aX.ae<1))).bind fun s20j1 =>
 if s20j1 then
  some false
 else
  (uY p0.aZ p0.aX).bind fun r4 =>
  (wI 1).bind fun r5 =>
  (ml r4.1 r5).bind fun r6 =>
  some (r6==0)
def rC (p0:aj) (p1:aj):Option (aj×Int) :=
 (cV p0).bind fun r1 =>
 (if (!r1) then
  some true
 else
  (cV p1).bind fun r7 =>
  some (!r7)).bind fun s13j1 =>
 if s13j1 then
  some ((aj.mk 0 ([])),1)
 else
  (lz p0.aa p1.aa).bind fun r4 =>
  (fD (IntKind.i64.wrap (p0.ae*p1.ae)) r4).bind fun r5 =>
  some (r5,0)
def ye (p0:aj) (p1:aj):Option (aj×Int) :=
 (cV p0).bind fun r1 =>
 (if (!r1) then
  some true
 else
  (cV p1).bind fun r17 =>
  some (!r17)).bind fun s13j1 =>
 if s13j1 then
  some ((aj.mk 0 ([])),1)
 else
  (if (p0.ae==0) then
   some true
  else
   if (p1.ae==0) then
    some true
   else
    some (p0.ae==p1.ae)).bind fun s29j2 =>
  if s29j2 then
   (pZ p0.aa p1.aa).bind fun r6 =>
   (fD (jh .or .i64 p0.ae p1.ae) r6).bind fun r7 =>
   some (r7,0)
  else
   (od p0.aa p1.aa).bind fun r8 =>
   if r8 then
    (km p1.aa p0.aa).bind fun r10 =>
    (fD p1.ae r10).bind fun r11 =>
    some (r11,0)
   else
    (km p0.aa p1.aa).bind fun r12 =>
    (fD p0.ae r12).bind fun r13 =>
    some (r13,0)
def yg (p0:aj) (p1:aj):Option (aj×Int) :=
 (cV p1).bind fun r1 =>
 if (!r1) then
  some ((aj.mk 0 ([])),1)
 else
  (rD p1).bind fun r3 =>
  (ye p0 r3).bind fun r4 =>
  some (r4.1,r4.2)
def yk (p0:ao) (p1:ao):Option (ao×Int) :=
 (nk p0).bind fun r1 =>
 (if (!r1) then
  some true
 else
  (nk p1).bind fun r10 =>
  some (!r10)).bind fun s21j1 =>
 if s21j1 then
  some ((ao.mk (aj.mk 0 ([])) (aj.mk 0 ([]))),1)
 else
  (rC p0.aZ p1.aX).bind fun r4 =>
  (rC p1.aZ p0.aX).bind fun r5 =>
  (rC p0.aX p1.aX).bind fun r6 =>
  (yg r4.1 r5.1).bind fun r7 =>
  (u3 r7.1 r6.1).bind fun r8 =>
  some (r8.1,r8.2)
def iz (p0:Int) (p1:ao):Option (fw) :=
 (uZ 1).bind fun r1 =>
 (yk r1 p1).bind fun r2 =>
 some (fw.mk ([20,10]) ([(gS.mk (kz.mk ([(kA.mk 1 0 0),(kA.mk 0 0 0)]) ([(BR.mk 0 0 0 (ByteArray.mk #[]))]) ([[r1,r1]])) ([(mF.mk 1 p0)]) ([0])),(gS.mk (kz.mk ([(kA.mk 1 0 0)]) ([(BR.mk 0 0 0 (ByteArray.mk #[])),(BR.mk 2 0 0 (ByteArray.mk #[104,101,97,116]))]) ([[p1],[r2.1]])) ([(mF.mk 0 20)]) ([1]))]))
def cZ (p0:Int) (p1:Int) (p2:Int):Option (Bool) :=
 if decide (p0>=p1) then
  some (decide (p0<=p2))
 else
  some false
def lU (p0:(List Int)):(Int)->Option ((Int)⊕((Int)))
 | s3a =>
  if decide (s3a>0) then
   (P.idx p0 (IntKind.i64.wrap (s3a-1))).bind fun x6 =>
   if (x6==0) then
    some (.inl (IntKind.i64.wrap (s3a-1)))
   else
    some (.inr s3a)
  else
   some (.inr s3a)
def dM (p0:(List Int)):Option ((List Int)) :=
 (bf (lU p0) (p0.length:Int)).bind fun s3ax =>
 (Bm p0 0 s3ax).bind fun x8 =>
 some x8
def cw (p0:Int) (p1:(List Int)):Option (aj) :=
 (dM p1).bind fun r1 =>
 if ((r1.length:Int)==0) then
  some (aj.mk 0 ([]))
 else
  some (aj.mk p0 r1)
def tY:(Int×(List Int))->Option ((Int×(List Int))⊕(((List Int))))
 | (s4b,l5b) =>
  if decide (s4b>0) then
   (lk 8 l5b [IntKind.i64.wrap (jh .and .u64 s4b 1048575)]).bind fun x9 =>
   (Bk .u64 s4b 20).bind fun x11 =>
   some (.inl (x11,x9))
  else
   some (.inr l5b)
def pq (p0:Int):Option (aj) :=
 (if decide (p0<0) then
  some ((-1),IntKind.u64.wrap (0-(IntKind.u64.wrap p0)))
 else
  some (1,IntKind.u64.wrap p0)).bind fun q=>match q with
 | (s3j1,s4j1) =>
  (bf (tY) (s4j1,[])).bind fun l5bx =>
  (cw s3j1 l5bx).bind fun r13 =>
  some r13
def jw (p0:Int):Option (ao) :=
 (pq p0).bind fun r1 =>
 (pq 1).bind fun r2 =>
 some (ao.mk r1 r2)
def mH (p0:aj):(Int)->Option ((Int)⊕((Unit)⊕(Bool)))
 | s12a =>
  if decide (s12a<(p0.aa.length:Int)) then
   (P.idx p0.aa s12a).bind fun x7 =>
   if decide (x7<0) then
    some (.inr (.inr false))
   else
    if decide (x7>1048575) then
     some (.inr (.inr false))
    else
     some (.inl (IntKind.i64.wrap (s12a+1)))
  else
   some (.inr (.inl ()))
def ck (p0:aj):Option (Bool) :=
 (bf (mH p0) 0).bind fun q=>match q with
 | (.inl _) =>
  if ((p0.aa.length:Int)==0) then
   some (p0.ae==0)
  else
   if (p0.ae==1) then
    (P.idx p0.aa (IntKind.i64.wrap ((p0.aa.length:Int)-1))).bind fun x12 =>
    some (x12 != 0)
   else
    if (p0.ae==(-1)) then
     (P.idx p0.aa (IntKind.i64.wrap ((p0.aa.length:Int)-1))).bind fun x14 =>
     some (x14 != 0)
    else
     some false
 | (.inr ra) =>
  some ra
def dL (p0:Bool) (p1:aj):Option (aj×Int) :=
 if (!p0) then
  some ((aj.mk 0 ([])),1)
 else
  some (p1,0)
def bG (p0:(List Int)):Option (List Int):=lk 8 [] p0
def ll (p0:Int):Option (Bool) :=
 some (p0 != p0)
def eN (p0:Int) (p1:Int):Option (Int) :=
 (ll p0).bind fun r1 =>
 (ll p1).bind fun r2 =>
 if r1 then
  if r2 then
   some 0
  else
   some (-1)
 else
  if r2 then
   some 1
  else
   if decide (p0<p1) then
    some (-1)
   else
    if decide (p0>p1) then
     some 1
    else
     some 0
def kB (p0:(List Int)) (p1:(List Int)):(Int)->Option ((Int)⊕((Unit)⊕(Int)))
 | s5a =>
  if decide (s5a>=0) then
   (P.idx p0 s5a).bind fun x10 =>
   (P.idx p1 s5a).bind fun x11 =>
   if (x10 != x11) then
    (eN x10 x11).bind fun r13 =>
    some (.inr (.inr r13))
   else
    some (.inl (IntKind.i64.wrap (s5a-1)))
  else
   some (.inr (.inl ()))
def eM (p0:(List Int)) (p1:(List Int)):Option (Int) :=
 if ((p0.length:Int) != (p1.length:Int)) then
  (eN (p0.length:Int) (p1.length:Int)).bind fun r2 =>
  some r2
 else
  (bf (kB p0 p1) (IntKind.i64.wrap ((p0.length:Int)-1))).bind fun q=>match q with
  | (.inl _) =>
   some 0
  | (.inr ra) =>
   some ra
def mJ (p0:(List Int)) (p1:Int):(Int×Int×(List Int))->Option ((Int×Int×(List Int))⊕((Int×(List Int))))
 | (s7a,s8a,l6a) =>
  if decide (s8a>=0) then
   (FI .i64 s7a 20).bind fun x15 =>
   (P.idx p0 s8a).bind fun x17 =>
   (Cm .i64 (jh .or .i64 x15 x17) p1).bind fun x18 =>
   (P.idx l6a s8a).bind fun x20 =>
   (JX .i64 (jh .or .i64 x15 x17) p1).bind fun x22 =>
   some (.inl (x22,IntKind.i64.wrap (s8a-1),(l6a.set (s8a).toNat x18)))
  else
   some (.inr (s7a,l6a))
def kb (p0:(List Int)) (p1:Int):Option ((List Int)×Int) :=
 (Fz 8 (p0.length:Int) (p0.length:Int) 0).bind fun x1 =>
 (bf (mJ p0 p1) (0,IntKind.i64.wrap ((p0.length:Int)-1),x1)).bind fun q=>match q with
 | (s7ax,l6ax) =>
  (dM l6ax).bind fun r24 =>
  some (r24,s7ax)
def qG (p1:(List Int)) (s20a:Int) (x22:Int):(Int×Int×(List Int))->Option ((Int×Int×(List Int))⊕((Int×(List Int))))
 | (s8c,s27c,l5c) =>
  if decide (s27c<(p1.length:Int)) then
   (P.idx p1 s27c).bind fun x31 =>
   (P.idx l5c (IntKind.i64.wrap (s20a+s27c))).bind fun x32 =>
   (Bk .i64 (IntKind.i64.wrap ((IntKind.i64.wrap (x32+(IntKind.i64.wrap (x22*x31))))+s8c)) 20).bind fun x33 =>
   some (.inl (x33,IntKind.i64.wrap (s27c+1),(l5c.set (IntKind.i64.wrap (s20a+s27c)).toNat (jh .and .i64 (IntKind.i64.wrap ((IntKind.i64.wrap (x32+(IntKind.i64.wrap (x22*x31))))+s8c)) 1048575))))
  else
   some (.inr (s8c,l5c))
def qF (p0:(List Int)) (p1:(List Int)):(Int×(List Int))->Option ((Int×(List Int))⊕(((List Int))))
 | (s20a,l5a) =>
  if decide (s20a<(p0.length:Int)) then
   (P.idx p0 s20a).bind fun x22 =>
   (bf (qG p1 s20a x22) (0,0,l5a)).bind fun q=>match q with
   | (s8cx,l5cx) =>
    (P.idx l5cx (IntKind.i64.wrap (s20a+(p1.length:Int)))).bind fun x36 =>
    some (.inl (IntKind.i64.wrap (s20a+1),(l5cx.set (IntKind.i64.wrap (s20a+(p1.length:Int))).toNat (IntKind.i64.wrap (x36+s8cx)))))
  else
   some (.inr l5a)
def mI (p0:(List Int)) (p1:(List Int)):Option ((List Int)) :=
 (Fz 8 (IntKind.i64.wrap ((p0.length:Int)+(p1.length:Int))) (IntKind.i64.wrap ((p0.length:Int)+(p1.length:Int))) 0).bind fun x1 =>
 (bf (qF p0 p1) (0,x1)).bind fun l5ax =>
 (dM l5ax).bind fun r39 =>
 some r39
def jC (p0:(List Int)) (p1:(List Int)) (p2:Int):(Int×Int×(List Int))->Option ((Int×Int×(List Int))⊕((Int×(List Int))))
 | (s7a,s14a,l0a) =>
  if decide (s14a<((p0).length:Int)) then
   (P.idx l0a s14a).bind fun x11 =>
   (if decide (s14a<(p1.length:Int)) then
    (P.idx p1 s14a).bind fun x17 =>
    some (IntKind.i64.wrap ((IntKind.i64.wrap (x11-s7a))-(IntKind.i64.wrap (p2*x17))))
   else
    some (IntKind.i64.wrap (x11-s7a))).bind fun s9j3 =>
   (Bk .i64 s9j3 20).bind fun x14 =>
   some (.inl (IntKind.i64.wrap (0-x14),IntKind.i64.wrap (s14a+1),(l0a.set (s14a).toNat (jh .and .i64 s9j3 1048575))))
  else
   some (.inr (s7a,l0a))
def jD (p1:(List Int)) (l0ax:(List Int)):(Int×Int×(List Int))->Option ((Int×Int×(List Int))⊕(((List Int))))
 | (s10d,s49d,l0d) =>
  if decide (s49d<((l0ax).length:Int)) then
   (P.idx l0d s49d).bind fun x29 =>
   (if decide (s49d<(p1.length:Int)) then
    (P.idx p1 s49d).bind fun x35 =>
    some (IntKind.i64.wrap ((IntKind.i64.wrap (s10d+x29))+x35))
   else
    some (IntKind.i64.wrap (s10d+x29))).bind fun s10j6 =>
   (Bk .i64 s10j6 20).bind fun x32 =>
   some (.inl (x32,IntKind.i64.wrap (s49d+1),(l0d.set (s49d).toNat (jh .and .i64 s10j6 1048575))))
  else
   some (.inr l0d)
def nE (p0:(List Int)) (p1:(List Int)) (p2:Int):Option ((List Int)×(Int)) :=
 (bf (jC p0 p1 p2) (0,0,p0)).bind fun q=>match q with
 | (s7ax,l0ax) =>
  if (s7ax==0) then
   some (l0ax,p2)
  else
   (bf (jD p1 l0ax) (0,0,l0ax)).bind fun l0dx =>
   some (l0dx,IntKind.i64.wrap (p2-1))
def fk (p0:(List Int)) (p1:(List Int)) (p2:Int):Option ((List Int)×(Int)):=(nE p0 p1 p2).bind fun r=>if r.1.length=p0.length then some r else none
theorem y4 {p0:(List Int)} {p1:(List Int)} {p2:Int} {r:(List Int)×(Int)} (h:fk p0 p1 p2=some r):r.1.length=p0.length:=by
 unfold fk at h
 obtain⟨q,hq,h⟩:=ah h
 split at h
 ·cases h;assumption
 ·cases h
def qC (p1:(List Int)):(Int)->Option ((Int)⊕((Int)))
 | s8a =>
  (P.idx p1 (IntKind.i64.wrap ((p1.length:Int)-1))).bind fun x12 =>
  if decide ((IntKind.i64.wrap (x12*s8a))<524288) then
   some (.inl (IntKind.i64.wrap (s8a*2)))
  else
   some (.inr s8a)
def qE (r19:(List Int)) (s13c:Int) (l9c:(List Int)) (x64:Int):(Int×Int)->Option ((Int×Int)⊕((Int)))
 | (s15g,s16g) =>
  (if decide (s15g>=1048576) then
   some true
  else
   if decide (s16g<1048576) then
    (P.idx r19 (IntKind.i64.wrap (((r19).length:Int)-2))).bind fun x83 =>
    (FI .i64 s16g 20).bind fun x84 =>
    (P.idx l9c (IntKind.i64.wrap ((IntKind.i64.wrap (s13c+((r19).length:Int)))-2))).bind fun x86 =>
    some (decide ((IntKind.i64.wrap (s15g*x83))>(jh .or .i64 x84 x86)))
   else
    some false).bind fun s137j9 =>
  if s137j9 then
   some (.inl (IntKind.i64.wrap (s15g-1),IntKind.i64.wrap (s16g+x64)))
  else
   some (.inr s15g)
def qD (r19:(List Int)):(Int×(List Int)×(List Int))->Option ((Int×(List Int)×(List Int))⊕(((List Int)×(List Int))))
 | (s13c,l9c,l12c) =>
  if decide (s13c>=0) then
   (P.idx l9c (IntKind.i64.wrap (s13c+((r19).length:Int)))).bind fun x60 =>
   (FI .i64 x60 20).bind fun x61 =>
   (P.idx l9c (IntKind.i64.wrap ((IntKind.i64.wrap (s13c+((r19).length:Int)))-1))).bind fun x63 =>
   (P.idx r19 (IntKind.i64.wrap (((r19).length:Int)-1))).bind fun x64 =>
   (Cm .i64 (jh .or .i64 x61 x63) x64).bind fun x65 =>
   (JX .i64 (jh .or .i64 x61 x63) x64).bind fun x67 =>
   (bf (qE r19 s13c l9c x64) (x65,x67)).bind fun s15gx =>
   (Bm l9c s13c (IntKind.i64.wrap ((IntKind.i64.wrap (s13c+((r19).length:Int)))+1))).bind fun x87 =>
   (fk x87 r19 s15gx).bind fun r90 =>
   (P.idx l12c s13c).bind fun x92 =>
   some (.inl (IntKind.i64.wrap (s13c-1),(l9c.take (s13c).toNat++(r90.1++l9c.drop (IntKind.i64.wrap ((IntKind.i64.wrap (s13c+((r19).length:Int)))+1)).toNat)),(l12c.set (s13c).toNat r90.2)))
  else
   some (.inr (l9c,l12c))
def oD (p0:(List Int)) (p1:(List Int)):Option ((List Int)×(List Int)) :=
 (eM p0 p1).bind fun r1 =>
 if decide (r1<0) then
  (bG p0).bind fun r3 =>
  some ([],r3)
 else
  if ((p1.length:Int)==1) then
   (P.idx p1 0).bind fun x5 =>
   (kb p0 x5).bind fun r6 =>
   (dM ([r6.2])).bind fun r8 =>
   some (r6.1,r8)
  else
   (bf (qC p1) 1).bind fun s8ax =>
   (mI p0 ([s8ax])).bind fun r15 =>
   (lk 8 r15 [0]).bind fun x16 =>
   (mI p1 ([s8ax])).bind fun r19 =>
   (if (((x16).length:Int)==(p0.length:Int)) then
    (lk 8 x16 [0]).bind fun x98 =>
    some x98
   else
    some x16).bind fun l9j2 =>
   (Fz 8 (IntKind.i64.wrap (((l9j2).length:Int)-((r19).length:Int))) (IntKind.i64.wrap (((l9j2).length:Int)-((r19).length:Int))) 0).bind fun x21 =>
   (bf (qD r19) (IntKind.i64.wrap (((x21).length:Int)-1),l9j2,x21)).bind fun q=>match q with
   | (l9cx,l12cx) =>
    (dM l9cx).bind fun r94 =>
    (kb r94 s8ax).bind fun r95 =>
    (dM l12cx).bind fun r96 =>
    some (r96,r95.1)
def nC:((List Int)×(List Int))->Option (((List Int)×(List Int))⊕(((List Int))))
 | (s6b,s7b) =>
  if decide ((s7b.length:Int)>0) then
   (oD s6b s7b).bind fun r11 =>
   some (.inl (s7b,r11.2))
  else
   some (.inr s6b)
def mG (p0:aj) (p1:aj):Option (aj×Int) :=
 (ck p0).bind fun r1 =>
 (if (!r1) then
  some true
 else
  (ck p1).bind fun r16 =>
  some (!r16)).bind fun s17j1 =>
 if s17j1 then
  (dL false (aj.mk 0 ([]))).bind fun r5 =>
  some (r5.1,r5.2)
 else
  (bG p0.aa).bind fun r6 =>
  (bf (nC) (r6,p1.aa)).bind fun s6bx =>
  (bG s6bx).bind fun r12 =>
  (cw 1 r12).bind fun r13 =>
  (dL true r13).bind fun r14 =>
  some (r14.1,r14.2)
def qA (p0:aj):(Int×Int)->Option ((Int×Int)⊕((Int)⊕(Int×Bool)))
 | (s4b,s19b) =>
  if decide (s19b<(p0.aa.length:Int)) then
   (P.idx p0.aa s19b).bind fun x13 =>
   (if (s19b==3) then
    some (decide (x13>8))
   else
    some false).bind fun s29j4 =>
   if s29j4 then
    some (.inr (.inr (0,false)))
   else
    (FI .u64 (IntKind.u64.wrap x13) (IntKind.i64.wrap (20*s19b))).bind fun x16 =>
    some (.inl (jh .or .u64 s4b x16,IntKind.i64.wrap (s19b+1)))
  else
   some (.inr (.inl s4b))
def qz (p0:aj):Option (Int×Bool) :=
 (ck p0).bind fun r1 =>
 (if (!r1) then
  some true
 else
  some (decide ((p0.aa.length:Int)>4))).bind fun s15j1 =>
 if s15j1 then
  some (0,false)
 else
  (bf (qA p0) (0,0)).bind fun q=>match q with
  | (.inl s4bx) =>
   (if decide (p0.ae<0) then
    some (decide (s4bx<=9223372036854775808))
   else
    some false).bind fun s38j5 =>
   if s38j5 then
    some (IntKind.i64.wrap (IntKind.u64.wrap (0-s4bx)),true)
   else
    if decide (p0.ae>=0) then
     if decide (s4bx<9223372036854775808) then
      some (IntKind.i64.wrap s4bx,true)
     else
      some (0,false)
    else
     some (0,false)
  | (.inr rb) =>
   some rb
def nS (p0:aj):Option (Bool) :=
 (qz p0).bind fun r1 =>
 if r1.2 then
  some (r1.1==1)
 else
  some false
def cy (p0:ao):Option (Bool) :=
 (ck p0.aZ).bind fun r1 =>
 (if (!r1) then
  some true
 else
  (ck p0.aX).bind fun r8 =>
  if (!r8) then
   some true
  else
   some (p0.aX.ae != 1)).bind fun s20j1 =>
 if s20j1 then
  some false
 else
  (mG p0.aZ p0.aX).bind fun r4 =>
  if (r4.2==0) then
   (nS r4.1).bind fun r6 =>
   some r6
  else
   some false
def eT (p0:ao):Option (Int) :=
 (cy p0).bind fun r1 =>
 if (!r1) then
  some 0
 else
  some p0.aZ.ae
def qB (p0:aj) (p1:aj):Option (aj×Int) :=
 (ck p0).bind fun r1 =>
 (if (!r1) then
  some true
 else
  (ck p1).bind fun r10 =>
  some (!r10)).bind fun s13j1 =>
 if s13j1 then
  (dL false (aj.mk 0 ([]))).bind fun r5 =>
  some (r5.1,r5.2)
 else
  (mI p0.aa p1.aa).bind fun r6 =>
  (cw (IntKind.i64.wrap (p0.ae*p1.ae)) r6).bind fun r7 =>
  (dL true r7).bind fun r8 =>
  some (r8.1,r8.2)
def dt (p0:aj) (p1:aj):Option (aj) :=
 (qB p0 p1).bind fun r1 =>
 some r1.1
def ub (p0:(List Int)):(Int)->Option ((Int)⊕((Unit)⊕(Int)))
 | s8a =>
  if decide (s8a<(p0.length:Int)) then
   (P.idx p0 s8a).bind fun x6 =>
   if (x6 != 0) then
    some (.inr (.inr x6))
   else
    some (.inl (IntKind.i64.wrap (s8a+1)))
  else
   some (.inr (.inl ()))
def sK (p0:(List Int)):Option (Int) :=
 (bf (ub p0) 0).bind fun q=>match q with
 | (.inl _) =>
  some 0
 | (.inr ra) =>
  some ra
def nD (s0j1:(List Int)) (s1j1:(List Int)):(Int×Int×(List Int))->Option ((Int×Int×(List Int))⊕((Int×(List Int))))
 | (s6b,s22b,l5b) =>
  if decide (s22b<(s0j1.length:Int)) then
   (P.idx s0j1 s22b).bind fun x15 =>
   (if decide (s22b<(s1j1.length:Int)) then
    (P.idx s1j1 s22b).bind fun x22 =>
    some (IntKind.i64.wrap ((IntKind.i64.wrap (s6b+x15))+x22))
   else
    some (IntKind.i64.wrap (s6b+x15))).bind fun s6j4 =>
   (P.idx l5b s22b).bind fun x17 =>
   (Bk .i64 s6j4 20).bind fun x19 =>
   some (.inl (x19,IntKind.i64.wrap (s22b+1),(l5b.set (s22b).toNat (jh .and .i64 s6j4 1048575))))
  else
   some (.inr (s6b,l5b))
def oC (p0:(List Int)) (p1:(List Int)):Option ((List Int)) :=
 (if decide ((p0.length:Int)<(p1.length:Int)) then
  some (p1,p0)
 else
  some (p0,p1)).bind fun q=>match q with
 | (s0j1,s1j1) =>
  (Fz 8 (IntKind.i64.wrap ((s0j1.length:Int)+1)) (IntKind.i64.wrap ((s0j1.length:Int)+1)) 0).bind fun x2 =>
  (bf (nD s0j1 s1j1) (0,0,x2)).bind fun q=>match q with
  | (s6bx,l5bx) =>
   (P.idx l5bx (s0j1.length:Int)).bind fun x23 =>
   (dM (l5bx.set ((s0j1.length:Int)).toNat s6bx)).bind fun r26 =>
   some r26
def qH (p1:(List Int)) (r1:(List Int)):(Int×Int×(List Int))->Option ((Int×Int×(List Int))⊕(((List Int))))
 | (s6a,s13a,l5a) =>
  if decide (s13a<((r1).length:Int)) then
   (P.idx l5a s13a).bind fun x12 =>
   (if decide (s13a<(p1.length:Int)) then
    (P.idx p1 s13a).bind fun x18 =>
    some (IntKind.i64.wrap ((IntKind.i64.wrap (x12-s6a))-x18))
   else
    some (IntKind.i64.wrap (x12-s6a))).bind fun s8j3 =>
   (Bk .i64 s8j3 20).bind fun x14 =>
   some (.inl (jh .and .i64 x14 1,IntKind.i64.wrap (s13a+1),(l5a.set (s13a).toNat (jh .and .i64 s8j3 1048575))))
  else
   some (.inr l5a)
def mK (p0:(List Int)) (p1:(List Int)):Option ((List Int)) :=
 (bG p0).bind fun r1 =>
 (bf (qH p1 r1) (0,0,r1)).bind fun l5ax =>
 (dM l5ax).bind fun r19 =>
 some r19
def qy (p0:aj) (p1:aj):Option (aj×Int) :=
 (ck p0).bind fun r1 =>
 (if (!r1) then
  some true
 else
  (ck p1).bind fun r21 =>
  some (!r21)).bind fun s13j1 =>
 if s13j1 then
  (dL false (aj.mk 0 ([]))).bind fun r5 =>
  some (r5.1,r5.2)
 else
  if decide ((IntKind.i64.wrap (p0.ae*p1.ae))>=0) then
   (sK ([p0.ae,p1.ae])).bind fun r8 =>
   (oC p0.aa p1.aa).bind fun r9 =>
   (cw r8 r9).bind fun r10 =>
   (dL true r10).bind fun r11 =>
   some (r11.1,r11.2)
  else
   (eM p0.aa p1.aa).bind fun r12 =>
   if decide (r12<0) then
    (mK p1.aa p0.aa).bind fun r14 =>
    (cw p1.ae r14).bind fun r15 =>
    (dL true r15).bind fun r16 =>
    some (r16.1,r16.2)
   else
    (mK p0.aa p1.aa).bind fun r17 =>
    (cw p0.ae r17).bind fun r18 =>
    (dL true r18).bind fun r19 =>
    some (r19.1,r19.2)
def lE (p0:aj):Option (aj) :=
 (ck p0).bind fun r1 =>
 if (!r1) then
  some (aj.mk 0 ([]))
 else
  (bG p0.aa).bind fun r3 =>
  (cw (IntKind.i64.wrap (0-p0.ae)) r3).bind fun r4 =>
  some r4
def lD (p0:aj) (p1:aj):Option (aj×aj×Int) :=
 (ck p0).bind fun r1 =>
 (if (!r1) then
  some true
 else
  (ck p1).bind fun r17 =>
  some (!r17)).bind fun s9j1 =>
 if s9j1 then
  some ((aj.mk 0 ([])),(aj.mk 0 ([])),1)
 else
  if (p1.ae==0) then
   some ((aj.mk 0 ([])),(aj.mk 0 ([])),15)
  else
   (oD p0.aa p1.aa).bind fun r5 =>
   (if decide ((IntKind.i64.wrap (p0.ae*p1.ae))<0) then
    some (decide ((r5.2.length:Int)>0))
   else
    some false).bind fun s44j2 =>
   if s44j2 then
    (oC r5.1 ([1])).bind fun r9 =>
    (cw (-1) r9).bind fun r10 =>
    (mK p1.aa r5.2).bind fun r11 =>
    (cw p1.ae r11).bind fun r12 =>
    some (r10,r12,0)
   else
    (cw (IntKind.i64.wrap (p0.ae*p1.ae)) r5.1).bind fun r13 =>
    (cw p0.ae r5.2).bind fun r14 =>
    some (r13,r14,0)
def kG (p0:aj) (p1:aj):Option (ao×Int) :=
 (ck p0).bind fun r1 =>
 (if (!r1) then
  some true
 else
  (ck p1).bind fun r13 =>
  some (!r13)).bind fun s14j1 =>
 if s14j1 then
  some ((ao.mk (aj.mk 0 ([])) (aj.mk 0 ([]))),1)
 else
  if (p1.ae==0) then
   some ((ao.mk (aj.mk 0 ([])) (aj.mk 0 ([]))),15)
  else
   (if decide (p1.ae<0) then
    (lE p0).bind fun r10 =>
    (lE p1).bind fun r11 =>
    some (r10.ae,r10.aa,r11.ae,r11.aa)
   else
    some (p0.ae,p0.aa,p1.ae,p1.aa)).bind fun q=>match q with
   | (r2_0j2,r2_1j2,r3_0j2,r3_1j2) =>
    (mG (aj.mk r2_0j2 r2_1j2) (aj.mk r3_0j2 r3_1j2)).bind fun r6 =>
    (lD (aj.mk r2_0j2 r2_1j2) r6.1).bind fun r7 =>
    (lD (aj.mk r3_0j2 r3_1j2) r6.1).bind fun r8 =>
    some ((ao.mk r7.1 r8.1),0)
def l9 (p0:ao) (p1:ao):Option (ao×Int) :=
 (cy p0).bind fun r1 =>
 (if (!r1) then
  some true
 else
  (cy p1).bind fun r10 =>
  some (!r10)).bind fun s15j1 =>
 if s15j1 then
  some ((ao.mk (aj.mk 0 ([])) (aj.mk 0 ([]))),1)
 else
  (dt p0.aZ p1.aX).bind fun r4 =>
  (dt p1.aZ p0.aX).bind fun r5 =>
  (qy r4 r5).bind fun r6 =>
  (dt p0.aX p1.aX).bind fun r7 =>
  (kG r6.1 r7).bind fun r8 =>
  some (r8.1,r8.2)
def uN (p0:ao) (p1:ao):Option (ao) :=
 (l9 p0 p1).bind fun r1 =>
 some r1.1
def lT (p0:aj) (p1:aj):Option (Int) :=
 (ck p0).bind fun r1 =>
 (if (!r1) then
  some true
 else
  (ck p1).bind fun r8 =>
  some (!r8)).bind fun s12j1 =>
 if s12j1 then
  some 0
 else
  if (p0.ae != p1.ae) then
   (eN p0.ae p1.ae).bind fun r5 =>
   some r5
  else
   (eM p0.aa p1.aa).bind fun r6 =>
   some (IntKind.i64.wrap (p0.ae*r6))
def kF (p0:ao) (p1:ao):Option (Int) :=
 (cy p0).bind fun r1 =>
 (if (!r1) then
  some true
 else
  (cy p1).bind fun r8 =>
  some (!r8)).bind fun s12j1 =>
 if s12j1 then
  some 0
 else
  (dt p0.aZ p1.aX).bind fun r4 =>
  (dt p1.aZ p0.aX).bind fun r5 =>
  (lT r4 r5).bind fun r6 =>
  some r6
def xQ (p0:(List ao)):(Int×Int×(List Int)×Int×(List Int))->Option ((Int×Int×(List Int)×Int×(List Int))⊕((Int×(List Int)×Int×(List Int))⊕(Bool)))
 | (s9a,r3_0a,r3_1a,r3_2a,r3_3a) =>
  if decide (s9a<(p0.length:Int)) then
   (P.idx p0 s9a).bind fun x11 =>
   (cy x11).bind fun r12 =>
   if (!r12) then
    some (.inr (.inr false))
   else
    (eT x11).bind fun r14 =>
    if decide (r14<0) then
     some (.inr (.inr false))
    else
     (uN (ao.mk (aj.mk r3_0a r3_1a) (aj.mk r3_2a r3_3a)) x11).bind fun r16 =>
     some (.inl (IntKind.i64.wrap (s9a+1),r16.aZ.ae,r16.aZ.aa,r16.aX.ae,r16.aX.aa))
  else
   some (.inr (.inl (r3_0a,r3_1a,r3_2a,r3_3a)))
def pV (p0:(List ao)):Option (Bool) :=
 (jw 0).bind fun r1 =>
 (bf (xQ p0) (0,r1.aZ.ae,r1.aZ.aa,r1.aX.ae,r1.aX.aa)).bind fun q=>match q with
 | (.inl (r3_0ax,r3_1ax,r3_2ax,r3_3ax)) =>
  (jw 1).bind fun r17 =>
  (kF (ao.mk (aj.mk r3_0ax r3_1ax) (aj.mk r3_2ax r3_3ax)) r17).bind fun r18 =>
  some (r18==0)
 | (.inr ra) =>
  some ra
def pS (p0:kz):(Int)->Option ((Int)⊕((Unit)⊕(Bool)))
 | s31b =>
  if decide (s31b<(p0.bg.length:Int)) then
   (P.idx p0.bg s31b).bind fun x12 =>
   (cZ x12.ji 0 3).bind fun r13 =>
   if (!r13) then
    some (.inr (.inr false))
   else
    if decide (x12.gp<0) then
     some (.inr (.inr false))
    else
     (P.idx p0.ba s31b).bind fun x16 =>
     if ((x16.length:Int) != (p0.az.length:Int)) then
      some (.inr (.inr false))
     else
      some (.inl (IntKind.i64.wrap (s31b+1)))
  else
   some (.inr (.inl ()))
def pU (p0:kz) (s61c:Int):(Int×(List ao))->Option ((Int×(List ao))⊕(((List ao))))
 | (s73e,l7e) =>
  if decide (s73e<(p0.bg.length:Int)) then
   (P.idx p0.ba s73e).bind fun x50 =>
   (P.idx x50 s61c).bind fun x51 =>
   (P.idx l7e s73e).bind fun x52 =>
   some (.inl (IntKind.i64.wrap (s73e+1),(l7e.set (s73e).toNat x51)))
  else
   some (.inr l7e)
def pT (p0:kz):(Int)->Option ((Int)⊕((Unit)⊕(Bool)))
 | s61c =>
  if decide (s61c<(p0.az.length:Int)) then
   (P.idx p0.az s61c).bind fun x40 =>
   (Fz 64 (p0.bg.length:Int) (p0.bg.length:Int) (ao.mk (aj.mk 0 ([])) (aj.mk 0 ([])))).bind fun x41 =>
   (bf (pU p0 s61c) (0,x41)).bind fun l7ex =>
   (cZ x40.ji 0 2).bind fun r54 =>
   if (!r54) then
    some (.inr (.inr false))
   else
    if decide (x40.gp<0) then
     some (.inr (.inr false))
    else
     (pV l7ex).bind fun r57 =>
     if (!r57) then
      some (.inr (.inr false))
     else
      some (.inl (IntKind.i64.wrap (s61c+1)))
  else
   some (.inr (.inl ()))
def jz (p0:kz):Option (Bool) :=
 (if decide ((p0.az.length:Int)>100) then
  some true
 else
  if decide ((p0.bg.length:Int)>100) then
   some true
  else
   some ((p0.ba.length:Int) != (p0.bg.length:Int))).bind fun s27j1 =>
 if s27j1 then
  some false
 else
  (bf (pS p0) 0).bind fun q=>match q with
  | (.inl _) =>
   (bf (pT p0) 0).bind fun q=>match q with
   | (.inl _) =>
    some true
   | (.inr rc) =>
    some rc
  | (.inr rb) =>
   some rb
def nW (p0:mF) (p1:Int):Option (Bool) :=
 (cZ p0.jP 0 (IntKind.i64.wrap (p1-1))).bind fun r1 =>
 if (!r1) then
  some true
 else
  (cZ p0.b5 1 1099511627776).bind fun r3 =>
  some (!r3)
def nX (p0:Int) (p1:Int):Option (Bool) :=
 (cZ p0 0 (IntKind.i64.wrap (p1-1))).bind fun r1 =>
 some (!r1)
def pA (p0:(List Int)):Option (List Int):=Ul p0
def dm (p0:(List Int)):Option (List Int):=Kl p0
def tq (r2:(List Int)):(Int)->Option ((Int)⊕((Unit)⊕(Bool)))
 | s13a =>
  if decide (s13a<((r2).length:Int)) then
   (P.idx r2 s13a).bind fun x8 =>
   if (s13a != x8) then
    some (.inr (.inr false))
   else
    some (.inl (IntKind.i64.wrap (s13a+1)))
  else
   some (.inr (.inl ()))
def kf (p0:(List Int)) (p1:Int):Option (Bool) :=
 (pA p0).bind fun r1 =>
 (dm r1).bind fun r2 =>
 (bf (tq r2) 0).bind fun q=>match q with
 | (.inl _) =>
  some (((r2).length:Int)==p1)
 | (.inr ra) =>
  some ra
def fE (p0:(List mF)) (p1c0:Int):(Int)->Option ((Int)⊕((Unit)⊕(Int)))
 | s8a =>
  if decide (s8a<(p0.length:Int)) then
   (P.idx p0 s8a).bind fun x7 =>
   (nW x7 p1c0).bind fun r8 =>
   if r8 then
    some (.inr (.inr s8a))
   else
    some (.inl (IntKind.i64.wrap (s8a+1)))
  else
   some (.inr (.inl ()))
def b9 (p0:(List mF)) (p1c0:Int):Option (Int) :=
 (bf (fE p0 p1c0) 0).bind fun q=>match q with
 | (.inl _) =>
  some (-1)
 | (.inr ra) =>
  some ra
def bW (p0:(List mF)) (p1c0:Int):Option (Bool) :=
 (b9 p0 p1c0).bind fun r1 =>
 some (decide (r1>=0))
def fF (p0:(List Int)) (p1c0:Int):(Int)->Option ((Int)⊕((Unit)⊕(Int)))
 | s8a =>
  if decide (s8a<(p0.length:Int)) then
   (P.idx p0 s8a).bind fun x7 =>
   (nX x7 p1c0).bind fun r8 =>
   if r8 then
    some (.inr (.inr s8a))
   else
    some (.inl (IntKind.i64.wrap (s8a+1)))
  else
   some (.inr (.inl ()))
def ca (p0:(List Int)) (p1c0:Int):Option (Int) :=
 (bf (fF p0 p1c0) 0).bind fun q=>match q with
 | (.inl _) =>
  some (-1)
 | (.inr ra) =>
  some ra
def bX (p0:(List Int)) (p1c0:Int):Option (Bool) :=
 (ca p0 p1c0).bind fun r1 =>
 some (decide (r1>=0))
def Ao (p0:gS):(Int×(List Int))->Option ((Int×(List Int))⊕(((List Int))))
 | (s21a,l5a) =>
  if decide (s21a<(p0.aF.az.length:Int)) then
   (P.idx p0.aF.az s21a).bind fun x10 =>
   if (x10.ji==1) then
    (lk 8 l5a [x10.gp]).bind fun x12 =>
    some (.inl (IntKind.i64.wrap (s21a+1),x12))
   else
    some (.inl (IntKind.i64.wrap (s21a+1),l5a))
  else
   some (.inr l5a)
def Ap (p0:gS):(Int×(List Int))->Option ((Int×(List Int))⊕(((List Int))))
 | (s38b,l6b) =>
  if decide (s38b<(p0.aF.bg.length:Int)) then
   (P.idx p0.aF.bg s38b).bind fun x21 =>
   if (x21.ji==0) then
    (lk 8 l6b [x21.gp]).bind fun x23 =>
    some (.inl (IntKind.i64.wrap (s38b+1),x23))
   else
    some (.inl (IntKind.i64.wrap (s38b+1),l6b))
  else
   some (.inr l6b)
def tp (p0:gS) (p1:Int):Option (Bool) :=
 (jz p0.aF).bind fun r1 =>
 if (!r1) then
  some false
 else
  (bf (Ao p0) (0,[])).bind fun l5ax =>
  (bf (Ap p0) (0,[])).bind fun l6bx =>
  (kf l5ax (p0.cK.length:Int)).bind fun r25 =>
  if r25 then
   (kf l6bx (p0.aC.length:Int)).bind fun r27 =>
   if r27 then
    (bW p0.cK p1).bind fun r29 =>
    if (!r29) then
     (bX p0.aC p1).bind fun r31 =>
     some (!r31)
    else
     some false
   else
    some false
  else
   some false
def xK (p0:fw):(Int)->Option ((Int)⊕((Unit)⊕(Int×Int)))
 | s31b =>
  if decide (s31b<(p0.bd.length:Int)) then
   (P.idx p0.bd s31b).bind fun x9 =>
   (cZ x9 1 1099511627776).bind fun r10 =>
   if (!r10) then
    some (.inr (.inr (3,s31b)))
   else
    some (.inl (IntKind.i64.wrap (s31b+1)))
  else
   some (.inr (.inl ()))
def xM (x39:gS):(Int×(List Int))->Option ((Int×(List Int))⊕(((List Int))))
 | (s67f,l6f) =>
  if decide (s67f<(x39.aC.length:Int)) then
   (P.idx x39.aC s67f).bind fun x48 =>
   (P.idx l6f x48).bind fun x49 =>
   some (.inl (IntKind.i64.wrap (s67f+1),(l6f.set (x48).toNat (IntKind.i64.wrap (x49+1)))))
  else
   some (.inr l6f)
def xN (x39:gS):(Int×(List Int))->Option ((Int×(List Int))⊕(((List Int))))
 | (s81g,l7g) =>
  if decide (s81g<(x39.cK.length:Int)) then
   (P.idx x39.cK s81g).bind fun x57 =>
   (P.idx l7g x57.jP).bind fun x58 =>
   some (.inl (IntKind.i64.wrap (s81g+1),(l7g.set (x57.jP).toNat (if 1099511627777<(IntKind.i64.wrap (x58+x57.b5)) then 1099511627777 else IntKind.i64.wrap (x58+x57.b5)))))
  else
   some (.inr l7g)
def xL (p0:fw):(Int×(List Int)×(List Int))->Option ((Int×(List Int)×(List Int))⊕(((List Int)×(List Int))⊕(Int×Int)))
 | (s52c,l6c,l7c) =>
  if decide (s52c<(p0.aT.length:Int)) then
   (P.idx p0.aT s52c).bind fun x39 =>
   (tp x39 (p0.bd.length:Int)).bind fun r40 =>
   if (!r40) then
    some (.inr (.inr (1,s52c)))
   else
    (bf (xM x39) (0,l6c)).bind fun l6fx =>
    (bf (xN x39) (0,l7c)).bind fun l7gx =>
    some (.inl (IntKind.i64.wrap (s52c+1),l6fx,l7gx))
  else
   some (.inr (.inl (l6c,l7c)))
def xO (l6cx:(List Int)):(Int)->Option ((Int)⊕((Unit)⊕(Int×Int)))
 | s102h =>
  if decide (s102h<((l6cx).length:Int)) then
   (P.idx l6cx s102h).bind fun x66 =>
   if (x66==0) then
    some (.inr (.inr (21,s102h)))
   else
    if decide (x66>1) then
     some (.inr (.inr (5,s102h)))
    else
     some (.inl (IntKind.i64.wrap (s102h+1)))
  else
   some (.inr (.inl ()))
def xP (p0:fw) (l7cx:(List Int)):(Int)->Option ((Int)⊕((Unit)⊕(Int×Int)))
 | s118i =>
  if decide (s118i<((l7cx).length:Int)) then
   (P.idx l7cx s118i).bind fun x75 =>
   (P.idx p0.bd s118i).bind fun x76 =>
   if decide (x75>x76) then
    some (.inr (.inr (25,s118i)))
   else
    some (.inl (IntKind.i64.wrap (s118i+1)))
  else
   some (.inr (.inl ()))
def ng (p0:fw):Option (Int×Int) :=
 (if decide ((p0.bd.length:Int)>2000) then
  some true
 else
  some (decide ((p0.aT.length:Int)>400))).bind fun s27j1 =>
 if s27j1 then
  some (6,0)
 else
  (bf (xK p0) 0).bind fun q=>match q with
  | (.inl _) =>
   (Fz 8 (p0.bd.length:Int) (p0.bd.length:Int) 0).bind fun x12 =>
   (bf (xL p0) (0,x12,x12)).bind fun q=>match q with
   | (.inl (l6cx,l7cx)) =>
    (bf (xO l6cx) 0).bind fun q=>match q with
    | (.inl _) =>
     (bf (xP p0 l7cx) 0).bind fun q=>match q with
     | (.inl _) =>
      some (0,0)
     | (.inr ri) =>
      some ri
    | (.inr rh) =>
     some rh
   | (.inr rc) =>
    some rc
  | (.inr rb) =>
   some rb
def xw (p0:Int) (p1:Int):Option (ao×Int) :=
 (pq p0).bind fun r1 =>
 (pq p1).bind fun r2 =>
 (kG r1 r2).bind fun r3 =>
 some (r3.1,r3.2)
def s5 (p0:ao) (p1:ao):Option (ao×Int) :=
 (cy p0).bind fun r1 =>
 (if (!r1) then
  some true
 else
  (cy p1).bind fun r8 =>
  some (!r8)).bind fun s13j1 =>
 if s13j1 then
  some ((ao.mk (aj.mk 0 ([])) (aj.mk 0 ([]))),1)
 else
  (dt p0.aZ p1.aZ).bind fun r4 =>
  (dt p0.aX p1.aX).bind fun r5 =>
  (kG r4 r5).bind fun r6 =>
  some (r6.1,r6.2)
def pR (p2:gS) (s22a:Int) (x40:mF) (r42:ao×Int):(Int×(List ((Int×Int)×ao)))->Option ((Int×(List ((Int×Int)×ao)))⊕(((List ((Int×Int)×ao)))))
 | (s51e,l0e) =>
  if decide (s51e<(p2.aF.bg.length:Int)) then
   (P.idx p2.aF.bg s51e).bind fun x59 =>
   (if (x59.ji != 0) then
    some true
   else
    (P.idx p2.aF.ba s51e).bind fun x69 =>
    (P.idx x69 s22a).bind fun x70 =>
    (eT x70).bind fun r71 =>
    some (r71==0)).bind fun s71j7 =>
   if s71j7 then
    some (.inl (IntKind.i64.wrap (s51e+1),l0e))
   else
    (P.idx p2.aC x59.gp).bind fun x62 =>
    (P.idx p2.aF.ba s51e).bind fun x63 =>
    (P.idx x63 s22a).bind fun x64 =>
    (s5 r42.1 x64).bind fun r65 =>
    if UX l0e (x40.jP,x62) then
     (uN (ao.mk ((td (ao.mk (aj.mk 0 ([])) (aj.mk 0 ([]))) l0e (x40.jP,x62)).aZ) ((td (ao.mk (aj.mk 0 ([])) (aj.mk 0 ([]))) l0e (x40.jP,x62)).aX)) r65.1).bind fun r67 =>
     some (.inl (IntKind.i64.wrap (s51e+1),(Kc l0e (x40.jP,x62) r67)))
    else
     some (.inl (IntKind.i64.wrap (s51e+1),(Kc l0e (x40.jP,x62) r65.1)))
  else
   some (.inr l0e)
def pQ (p1:(List Int)) (p2:gS):(Int×(List ((Int×Int)×ao)))->Option ((Int×(List ((Int×Int)×ao)))⊕(((List ((Int×Int)×ao)))))
 | (s22a,l0a) =>
  if decide (s22a<(p2.aF.az.length:Int)) then
   (P.idx p2.aF.az s22a).bind fun x38 =>
   if (x38.ji != 1) then
    some (.inl (IntKind.i64.wrap (s22a+1),l0a))
   else
    (P.idx p2.cK x38.gp).bind fun x40 =>
    (P.idx p1 x40.jP).bind fun x41 =>
    (xw x40.b5 x41).bind fun r42 =>
    (bf (pR p2 s22a x40 r42) (0,l0a)).bind fun l0ex =>
    some (.inl (IntKind.i64.wrap (s22a+1),l0ex))
  else
   some (.inr l0a)
def jy (p0:(List ((Int×Int)×ao))) (p1:(List Int)) (p2:gS):Option ((List ((Int×Int)×ao))×(Unit)) :=
 (bf (pQ p1 p2) (0,p0)).bind fun l0ax =>
 some (l0ax,())
def jV (p0:bI) (p1:bI):Option (Int) :=
 (eN p0.bT p1.bT).bind fun r1 =>
 (eN p0.gD p1.gD).bind fun r2 =>
 (sK ([r1,r2])).bind fun r4 =>
 some r4
def JZ (p:Int) (m:List ((Int×Int)×ao)):Option (cz×Int) :=
 if m.length<=8000∧(m.map (·.1)).Nodup then some (cz.mk p (nT (jf bI.bT bI.gD) (m.map fun q=>bI.mk q.1.1 q.1.2 q.2)),0) else none
def HH (p0:fw):(Int×(List ((Int×Int)×ao)))->Option ((Int×(List ((Int×Int)×ao)))⊕(((List ((Int×Int)×ao)))))
 | (s25a,l21a) =>
  if decide (s25a<(p0.aT.length:Int)) then
   (P.idx p0.aT s25a).bind fun x9 =>
   (jy l21a p0.bd x9).bind fun r11 =>
   some (.inl (IntKind.i64.wrap (s25a+1),r11.1))
  else
   some (.inr l21a)
def y6 (p0:fw):Option (cz×Int) :=
 (ng p0).bind fun r1 =>
 if (r1.1 != 0) then
  some ((cz.mk 0 ([])),r1.1)
 else
  (bf (HH p0) (0,([]:(List ((Int×Int)×ao))))).bind fun l21ax =>
  if decide ((l21ax.length:Int)>8000) then
   some ((cz.mk 0 ([])),6)
  else
   JZ (p0.bd.length:Int) l21ax
def tz (p0:aj) (p1:aj):(Int)->Option ((Int)⊕((Unit)⊕(Bool)))
 | s5b =>
  if decide (s5b<(p0.aa.length:Int)) then
   (P.idx p0.aa s5b).bind fun x9 =>
   (P.idx p1.aa s5b).bind fun x10 =>
   if (x9 != x10) then
    some (.inr (.inr false))
   else
    some (.inl (IntKind.i64.wrap (s5b+1)))
  else
   some (.inr (.inl ()))
def kn (p0:aj) (p1:aj):Option (Bool) :=
 (if (p0.ae != p1.ae) then
  some true
 else
  some ((p0.aa.length:Int) != (p1.aa.length:Int))).bind fun s19j1 =>
 if s19j1 then
  some false
 else
  (bf (tz p0 p1) 0).bind fun q=>match q with
  | (.inl _) =>
   some true
  | (.inr rb) =>
   some rb
def p5 (p0:ao) (p1:ao):Option (Bool) :=
 (kn p0.aZ p1.aZ).bind fun r1 =>
 if r1 then
  (kn p0.aX p1.aX).bind fun r3 =>
  some r3
 else
  some false
def AL (p0:cz) (p1:cz):(Int)->Option ((Int)⊕((Unit)⊕(Bool)))
 | s5b =>
  if decide (s5b<(p0.aw.length:Int)) then
   (P.idx p0.aw s5b).bind fun x12 =>
   (P.idx p1.aw s5b).bind fun x13 =>
   if (x12.bT != x13.bT) then
    some (.inr (.inr false))
   else
    if (x12.gD != x13.gD) then
     some (.inr (.inr false))
    else
     (p5 x12.bR x13.bR).bind fun r16 =>
     if (!r16) then
      some (.inr (.inr false))
     else
      some (.inl (IntKind.i64.wrap (s5b+1)))
  else
   some (.inr (.inl ()))
def tA (p0:cz) (p1:cz):Option (Bool) :=
 (if (p0.aC != p1.aC) then
  some true
 else
  some ((p0.aw.length:Int) != (p1.aw.length:Int))).bind fun s19j1 =>
 if s19j1 then
  some false
 else
  (bf (AL p0 p1) 0).bind fun q=>match q with
  | (.inl _) =>
   some true
  | (.inr rb) =>
   some rb
def nR (p0:ao) (p1:ao):Option (ao×Int) :=
 (cy p0).bind fun r1 =>
 (if (!r1) then
  some true
 else
  (cy p1).bind fun r7 =>
  some (!r7)).bind fun s13j1 =>
 if s13j1 then
  some ((ao.mk (aj.mk 0 ([])) (aj.mk 0 ([]))),1)
 else
  (lE p1.aZ).bind fun r4 =>
  (l9 p0 (ao.mk r4 p1.aX)).bind fun r5 =>
  some (r5.1,r5.2)
def kO (x1:(List ao)):(Int×(List ao))->Option ((Int×(List ao))⊕(((List ao))))
 | (s12a,l3a) =>
  if decide (s12a<((x1).length:Int)) then
   (jw 1).bind fun r9 =>
   (P.idx l3a s12a).bind fun x10 =>
   some (.inl (IntKind.i64.wrap (s12a+1),(l3a.set (s12a).toNat r9)))
  else
   some (.inr l3a)
def kP (p0:cz):(Int×(List ao))->Option ((Int×(List ao))⊕(((List ao))))
 | (s23b,l3b) =>
  if decide (s23b<(p0.aw.length:Int)) then
   (P.idx p0.aw s23b).bind fun x19 =>
   (P.idx l3b x19.bT).bind fun x20 =>
   (nR x20 x19.bR).bind fun r21 =>
   some (.inl (IntKind.i64.wrap (s23b+1),(l3b.set (x19.bT).toNat r21.1)))
  else
   some (.inr l3b)
def iU (p0:cz):Option ((List ao)) :=
 (Fz 64 p0.aC p0.aC (ao.mk (aj.mk 0 ([])) (aj.mk 0 ([])))).bind fun x1 =>
 (bf (kO x1) (0,x1)).bind fun l3ax =>
 (bf (kP p0) (0,l3ax)).bind fun l3bx =>
 some l3bx
def ke (p0:ao):Option (Bool) :=
 (eT p0).bind fun r1 =>
 some (decide (r1<0))
def cX (p0:(List ao)):(Int)->Option ((Int)⊕((Unit)⊕(Int)))
 | s8a =>
  if decide (s8a<(p0.length:Int)) then
   (P.idx p0 s8a).bind fun x7 =>
   (ke x7).bind fun r8 =>
   if r8 then
    some (.inr (.inr s8a))
   else
    some (.inl (IntKind.i64.wrap (s8a+1)))
  else
   some (.inr (.inl ()))
def b4 (p0:(List ao)):Option (Int) :=
 (bf (cX p0) 0).bind fun q=>match q with
 | (.inl _) =>
  some (-1)
 | (.inr ra) =>
  some ra
def bC (p0:(List ao)):Option (Bool) :=
 (b4 p0).bind fun r1 =>
 some (decide (r1>=0))
def kN (p0:cz):(Int)->Option ((Int)⊕((Unit)⊕(Bool)))
 | s18b =>
  if decide (s18b<(p0.aw.length:Int)) then
   (P.idx p0.aw s18b).bind fun x21 =>
   (cZ x21.bT 0 (IntKind.i64.wrap (p0.aC-1))).bind fun r22 =>
   (if (!r22) then
    some true
   else
    (cZ x21.gD 0 (IntKind.i64.wrap (p0.aC-1))).bind fun r30 =>
    if (!r30) then
     some true
    else
     (cy x21.bR).bind fun r32 =>
     if (!r32) then
      some true
     else
      (eT x21.bR).bind fun r34 =>
      some (decide (r34<=0))).bind fun s50j4 =>
   if s50j4 then
    some (.inr (.inr false))
   else
    if decide (s18b>0) then
     (P.idx p0.aw (IntKind.i64.wrap (s18b-1))).bind fun x26 =>
     (jV x26 x21).bind fun r27 =>
     if decide (r27>=0) then
      some (.inr (.inr false))
     else
      some (.inl (IntKind.i64.wrap (s18b+1)))
    else
     some (.inl (IntKind.i64.wrap (s18b+1)))
  else
   some (.inr (.inl ()))
def gz (p0:cz):Option (Bool) :=
 (cZ p0.aC 0 2000).bind fun r1 =>
 (if (!r1) then
  some true
 else
  some (decide ((p0.aw.length:Int)>8000))).bind fun s14j1 =>
 if s14j1 then
  some false
 else
  (bf (kN p0) 0).bind fun q=>match q with
  | (.inl _) =>
   (iU p0).bind fun r35 =>
   (bC r35).bind fun r36 =>
   some (!r36)
  | (.inr rb) =>
   some rb
def iQ (p0:cz):(Int×(List (List Int)))->Option ((Int×(List (List Int)))⊕(((List (List Int)))))
 | (s22a,l18a) =>
  if decide (s22a<(p0.aw.length:Int)) then
   (P.idx p0.aw s22a).bind fun x13 =>
   (P.idx l18a x13.gD).bind fun x14 =>
   (lk 8 x14 [x13.bT]).bind fun x15 =>
   some (.inl (IntKind.i64.wrap (s22a+1),(l18a.set (x13.gD).toNat x15)))
  else
   some (.inr l18a)
def iR (r20:(List ao)):(Int×(List Int)×(List Int))->Option ((Int×(List Int)×(List Int))⊕(((List Int)×(List Int))))
 | (s46b,l6b,l7b) =>
  if decide (s46b<(r20.length:Int)) then
   (P.idx r20 s46b).bind fun x33 =>
   (P.idx l6b s46b).bind fun x34 =>
   (eT x33).bind fun r36 =>
   if decide (r36>0) then
    (P.idx (l6b.set (s46b).toNat (-1)) s46b).bind fun x38 =>
    (lk 8 l7b [s46b]).bind fun x40 =>
    some (.inl (IntKind.i64.wrap (s46b+1),((l6b.set (s46b).toNat (-1)).set (s46b).toNat 0),x40))
   else
    some (.inl (IntKind.i64.wrap (s46b+1),(l6b.set (s46b).toNat (-1)),l7b))
  else
   some (.inr (l6b,l7b))
def iT (x66:Int) (x69:(List Int)):(Int×(List Int)×(List Int))->Option ((Int×(List Int)×(List Int))⊕(((List Int)×(List Int))))
 | (s78e,l6e,l7e) =>
  if decide (s78e<((x69).length:Int)) then
   (P.idx x69 s78e).bind fun x80 =>
   (P.idx l6e x80).bind fun x81 =>
   if (x81==(-1)) then
    (P.idx l6e x66).bind fun x83 =>
    (lk 8 l7e [x80]).bind fun x85 =>
    some (.inl (IntKind.i64.wrap (s78e+1),(l6e.set (x80).toNat (IntKind.i64.wrap (x83+1))),x85))
   else
    some (.inl (IntKind.i64.wrap (s78e+1),l6e,l7e))
  else
   some (.inr (l6e,l7e))
def iS (l18ax:(List (List Int))):((List Int)×(List Int))->Option (((List Int)×(List Int))⊕(((List Int))))
 | (l6c,l7c) =>
  if decide (((l7c).length:Int)>0) then
   (P.idx l7c 0).bind fun x66 =>
   (Bm l7c 1 (l7c.length:Int)).bind fun x67 =>
   (P.idx l18ax x66).bind fun x69 =>
   (bf (iT x66 x69) (0,l6c,x67)).bind fun q=>match q with
   | (l6ex,l7ex) =>
    some (.inl (l6ex,l7ex))
  else
   some (.inr l6c)
def gx (p0:cz):Option ((List Int)) :=
 (gz p0).bind fun r1 =>
 if (!r1) then
  some ([])
 else
  (Fz 24 p0.aC p0.aC ([])).bind fun x3 =>
  (bf (iQ p0) (0,x3)).bind fun l18ax =>
  (Fz 8 p0.aC p0.aC 0).bind fun x18 =>
  (iU p0).bind fun r20 =>
  (bf (iR r20) (0,x18,[])).bind fun q=>match q with
  | (l6bx,l7bx) =>
   (bf (iS l18ax) (l6bx,l7bx)).bind fun l6cx =>
   some l6cx
def rW (p0:(List Int)) (p1:(List Int)):(Int)->Option ((Int)⊕((Unit)⊕(Bool)))
 | s5a =>
  if decide (s5a<(p0.length:Int)) then
   (P.idx p0 s5a).bind fun x8 =>
   (P.idx p1 s5a).bind fun x9 =>
   if (x8 != x9) then
    some (.inr (.inr false))
   else
    some (.inl (IntKind.i64.wrap (s5a+1)))
  else
   some (.inr (.inl ()))
def gN (p0:(List Int)) (p1:(List Int)):Option (Bool) :=
 if ((p0.length:Int) != (p1.length:Int)) then
  some false
 else
  (bf (rW p0 p1) 0).bind fun q=>match q with
  | (.inl _) =>
   some true
  | (.inr ra) =>
   some ra
def kM (p0:cz) (p1:Int):Option (ao) :=
 (gz p0).bind fun r1 =>
 if (!r1) then
  some (ao.mk (aj.mk 0 ([])) (aj.mk 0 ([])))
 else
  (cZ p1 0 (IntKind.i64.wrap (p0.aC-1))).bind fun r3 =>
  if (!r3) then
   some (ao.mk (aj.mk 0 ([])) (aj.mk 0 ([])))
  else
   (iU p0).bind fun r5 =>
   (P.idx r5 p1).bind fun x6 =>
   some x6
def tn (r1:(List Int)):(Int×(List Int))->Option ((Int×(List Int))⊕(((List Int))))
 | (s9a,l3a) =>
  if decide (s9a<(r1.length:Int)) then
   (P.idx r1 s9a).bind fun x9 =>
   if (x9==(-1)) then
    (lk 8 l3a [s9a]).bind fun x11 =>
    some (.inl (IntKind.i64.wrap (s9a+1),x11))
   else
    some (.inl (IntKind.i64.wrap (s9a+1),l3a))
  else
   some (.inr l3a)
def mg (p0:cz):Option ((List Int)) :=
 (gx p0).bind fun r1 =>
 (bf (tn r1) (0,[])).bind fun l3ax =>
 some l3ax
def pN:Option (Bool) :=
 (s8).bind fun r1 =>
 (iz 5 r1).bind fun r2 =>
 (y6 r2).bind fun r3 =>
 (if (r3.2 != 0) then
  some true
 else
  (tA r3.1 (cz.mk 2 ([(bI.mk 0 1 r1),(bI.mk 1 0 r1)]))).bind fun r25 =>
  if (!r25) then
   some true
  else
   (gx r3.1).bind fun r27 =>
   (gN r27 ([0,0])).bind fun r29 =>
   if (!r29) then
    some true
   else
    (kM r3.1 1).bind fun r31 =>
    (p5 r31 r1).bind fun r32 =>
    some (!r32)).bind fun s41j1 =>
 if s41j1 then
  some false
 else
  (uZ 1).bind fun r6 =>
  (iz 10 r6).bind fun r7 =>
  (y6 r7).bind fun r8 =>
  (iz 11 r1).bind fun r9 =>
  (ng r9).bind fun r10 =>
  if (r8.2==0) then
   (gx r8.1).bind fun r12 =>
   (gN r12 ([(-1),(-1)])).bind fun r14 =>
   if r14 then
    (mg r8.1).bind fun r16 =>
    (gN r16 ([0,1])).bind fun r18 =>
    if r18 then
     if (r10.1==25) then
      if (r10.2==1) then
       (gz r8.1).bind fun r22 =>
       some r22
      else
       some false
     else
      some false
    else
     some false
   else
    some false
  else
   some false
def rE (p0:ao) (p1:Int):Option (Bool) :=
 if decide ((p0.aZ.aa.length:Int)<=p1) then
  some (decide ((p0.aX.aa.length:Int)<=p1))
 else
  some false
def lP (p0:cz):(Int)->Option ((Int)⊕((Unit)⊕(Bool)))
 | s3a =>
  (if decide (s3a<(p0.aw.length:Int)) then
   some (decide (s3a<40))
  else
   some false).bind fun s12j3 =>
  if s12j3 then
   (P.idx p0.aw s3a).bind fun x10 =>
   (rE x10.bR 6).bind fun r11 =>
   if (!r11) then
    some (.inr (.inr false))
   else
    some (.inl (IntKind.i64.wrap (s3a+1)))
  else
   some (.inr (.inl ()))
def iG (p0:cz):Option (Bool) :=
 (bf (lP p0) 0).bind fun q=>match q with
 | (.inl _) =>
  if decide (p0.aC<=12) then
   some (decide ((p0.aw.length:Int)<=40))
  else
   if decide (p0.aC>2000) then
    some (decide ((p0.aw.length:Int)<=40))
   else
    some false
 | (.inr ra) =>
  some ra
def e7 (p0:cz) (r5:(List Int)):(Int×(List Bool))->Option ((Int×(List Bool))⊕(((List Bool))⊕(Bool)))
 | (s6b,l5b) =>
  if decide (s6b<(p0.aw.length:Int)) then
   (P.idx p0.aw s6b).bind fun x28 =>
   (P.idx r5 x28.bT).bind fun x29 =>
   (P.idx r5 x28.gD).bind fun x30 =>
   (if decide (x29>0) then
    if decide (x30>=0) then
     if decide (x30<(IntKind.i64.wrap (x29-1))) then
      some true
     else
      if decide (x29<0) then
       some (decide (x30>=0))
      else
       some false
    else
     if decide (x29<0) then
      some (decide (x30>=0))
     else
      some false
   else
    if decide (x29<0) then
     some (decide (x30>=0))
    else
     some false).bind fun s74j5 =>
   if s74j5 then
    some (.inr (.inr false))
   else
    (if decide (x29>0) then
     some (x30==(IntKind.i64.wrap (x29-1)))
    else
     some false).bind fun s82j6 =>
    if s82j6 then
     (P.idx l5b x28.bT).bind fun x35 =>
     some (.inl (IntKind.i64.wrap (s6b+1),(l5b.set (x28.bT).toNat true)))
    else
     some (.inl (IntKind.i64.wrap (s6b+1),l5b))
  else
   some (.inr (.inl l5b))
def jJ (p0:cz) (r5:(List Int)) (l5bx:(List Bool)):(Int)->Option ((Int)⊕((Unit)⊕(Bool)))
 | s9g =>
  if decide (s9g<(r5.length:Int)) then
   (P.idx r5 s9g).bind fun x55 =>
   if decide (x55<(-1)) then
    some (.inr (.inr false))
   else
    (kM p0 s9g).bind fun r57 =>
    (eT r57).bind fun r58 =>
    if (!((x55==0)==(decide (r58>0)))) then
     some (.inr (.inr false))
    else
     if decide (x55>0) then
      (P.idx l5bx s9g).bind fun x61 =>
      if (!x61) then
       some (.inr (.inr false))
      else
       some (.inl (IntKind.i64.wrap (s9g+1)))
     else
      some (.inl (IntKind.i64.wrap (s9g+1)))
  else
   some (.inr (.inl ()))
def gM (p0:cz):Option (Bool) :=
 (pN).bind fun r1 =>
 (iG p0).bind fun r2 =>
 (if (!r2) then
  some true
 else
  (gz p0).bind fun r64 =>
  some (!r64)).bind fun s18j1 =>
 if s18j1 then
  some r1
 else
  (gx p0).bind fun r5 =>
  if ((r5.length:Int) != p0.aC) then
   some false
  else
   (Fz 1 (r5.length:Int) (r5.length:Int) false).bind fun x7 =>
   (bf (e7 p0 r5) (0,x7)).bind fun q=>match q with
   | (.inl l5bx) =>
    (bf (jJ p0 r5 l5bx) 0).bind fun q=>match q with
    | (.inl _) =>
     some r1
    | (.inr rg) =>
     some rg
   | (.inr rb) =>
    some rb
end Go.Proofs.YtmcncjgbkobjnaaGreat.P
namespace Go.Proofs.YtmcncjgbkobjnaaGreat.Am
open Go.RowKit Go.Proofs.YtmcncjgbkobjnaaGreat.P
set_option maxRecDepth 100000
set_option maxHeartbeats 4000000
theorem vmt:type_of% (ai @abC<|ai @Ue<|ai @abD<|ai @abE<|ai @abF<|ai @YY<|ai @YZ<|ai @Kn<|ai @Y0<|ai @Y1<|ai @Y2<|ai @Rg<|ai @Y3<|ai @Ko<|ai @Y4<|ai @Y5<|ai @Rh<|ai @Y6<|ai @Ri<|ai @Y7<|ai @Y8<|ai @Y9<|ai @Zj<|ai @Zk<|ai @Zl<|ai @Zm<|ai @Zn<|ai @Zo<|ai @Zp<|ai @Zq<|ai @Zr<|ai @Kp<|ai @Zs<|ai @Zt<|ai @Zu<|ai @Zv<|ai @Zw<|ai @Zx<|ai @Zy<|ai @TX<|ai @TY<|ai @TZ<|ai @T0<|ai @T1<|ai @T2<|ai @T3<|ai @T4<|ai @T5<|ai @T6<|ai @T7<|ai @T8<|ai @T9<|ai @Ua<|ai @Ub<|ai @Uc<|@Ud):=⟨@abC,@Ue,@abD,@abE,@abF,@YY,@YZ,@Kn,@Y0,@Y1,@Y2,@Rg,@Y3,@Ko,@Y4,@Y5,@Rh,@Y6,@Ri,@Y7,@Y8,@Y9,@Zj,@Zk,@Zl,@Zm,@Zn,@Zo,@Zp,@Zq,@Zr,@Kp,@Zs,@Zt,@Zu,@Zv,@Zw,@Zx,@Zy,@TX,@TY,@TZ,@T0,@T1,@T2,@T3,@T4,@T5,@T6,@T7,@T8,@T9,@Ua,@Ub,@Uc,@Ud⟩
def dw:gY aj:=wo (jv (eI .i64) (kV (eI .i64))) (fun x=>(x.ae,x.aa)) (by rintro⟨⟩ ⟨⟩ h;simpa using h)
theorem zT (x:aj):dw.cells x=[.int .i64 x.ae,.sl false false x.aa.length (ab (eI .i64) x.aa)]:=ah6
theorem CE:dw.size=2:=ah6
theorem Mb (x:aj):aj.mk x.ae x.aa=x:=ah6
def aB:gY ao:=wo (jv dw dw) (fun x=>(x.aZ,x.aX)) (by rintro⟨⟩ ⟨⟩ h;simpa using h)
theorem xm (x:ao):aB.cells x=[.int .i64 x.aZ.ae,.sl false false x.aZ.aa.length (ab (eI .i64) x.aZ.aa),.int .i64 x.aX.ae,.sl false false x.aX.aa.length (ab (eI .i64) x.aX.aa)]:=ah6
theorem zV:aB.size=4:=ah6
theorem G5 (x:ao):ao.mk x.aZ x.aX=x:=ah6
def eE:gY mF:=wo (jv (eI .i64) (eI .i64)) (fun x=>(x.jP,x.b5)) (by rintro⟨⟩ ⟨⟩ h;simpa using h)
theorem zZ (x:mF):eE.cells x=[.int .i64 x.jP,.int .i64 x.b5]:=ah6
theorem CH:eE.size=2:=ah6
theorem Me (x:mF):mF.mk x.jP x.b5=x:=ah6
def aR:gY bI:=wo (jv (eI .i64) (jv (eI .i64) aB)) (fun x=>(x.bT,x.gD,x.bR)) (by rintro⟨⟩ ⟨⟩ h;simpa using h)
theorem mL (x:bI):aR.cells x=[.int .i64 x.bT,.int .i64 x.gD,.int .i64 x.bR.aZ.ae,.sl false false x.bR.aZ.aa.length (ab (eI .i64) x.bR.aZ.aa),.int .i64 x.bR.aX.ae,.sl false false x.bR.aX.aa.length (ab (eI .i64) x.bR.aX.aa)]:=ah6
theorem sT:aR.size=6:=ah6
theorem G7 (x:bI):bI.mk x.bT x.gD x.bR=x:=ah6
def pJ:gY cz:=wo (jv (eI .i64) (kV aR)) (fun x=>(x.aC,x.aw)) (by rintro⟨⟩ ⟨⟩ h;simpa using h)
theorem zX (x:cz):pJ.cells x=[.int .i64 x.aC,.sl false false x.aw.length (ab aR x.aw)]:=ah6
theorem CF:pJ.size=2:=ah6
theorem Mc (x:cz):cz.mk x.aC x.aw=x:=ah6
def dV:gY BR:=wo (jv (eI .i64) (jv (eI .i64) (jv (eI .i64) abX))) (fun x=>(x.ji,x.gp,x.b5,x.Jw)) (by rintro⟨⟩ ⟨⟩ h;simpa using h)
theorem zY (x:BR):dV.cells x=[.int .i64 x.ji,.int .i64 x.gp,.int .i64 x.b5,.str x.Jw]:=ah6
theorem CG:dV.size=4:=ah6
theorem Md (x:BR):BR.mk x.ji x.gp x.b5 x.Jw=x:=ah6
def bj:gY kA:=wo (jv (eI .i64) (jv (eI .i64) (eI .i64))) (fun x=>(x.ji,x.gp,x.b5)) (by rintro⟨⟩ ⟨⟩ h;simpa using h)
theorem sS (x:kA):bj.cells x=[.int .i64 x.ji,.int .i64 x.gp,.int .i64 x.b5]:=ah6
theorem vG:bj.size=3:=ah6
theorem Ac (x:kA):kA.mk x.ji x.gp x.b5=x:=ah6
def Jn:gY kz:=wo (jv (kV bj) (jv (kV dV) (kV (kV aB)))) (fun x=>(x.az,x.bg,x.ba)) (by rintro⟨⟩ ⟨⟩ h;simpa using h)
theorem xl (x:kz):Jn.cells x=[.sl false false x.az.length (ab bj x.az),.sl false false x.bg.length (ab dV x.bg),.sl false false x.ba.length (ab (kV aB) x.ba)]:=ah6
theorem zU:Jn.size=3:=ah6
theorem G4 (x:kz):kz.mk x.az x.bg x.ba=x:=ah6
def cm:gY gS:=wo (jv Jn (jv (kV eE) (kV (eI .i64)))) (fun x=>(x.aF,x.cK,x.aC)) (by rintro⟨⟩ ⟨⟩ h;simpa using h)
theorem xo (x:gS):cm.cells x=[.sl false false x.aF.az.length (ab bj x.aF.az),.sl false false x.aF.bg.length (ab dV x.aF.bg),.sl false false x.aF.ba.length (ab (kV aB) x.aF.ba),.sl false false x.cK.length (ab eE x.cK),.sl false false x.aC.length (ab (eI .i64) x.aC)]:=ah6
theorem zW:cm.size=5:=ah6
theorem G6 (x:gS):gS.mk x.aF x.cK x.aC=x:=ah6
def Bu:gY fw:=wo (jv (kV (eI .i64)) (kV cm)) (fun x=>(x.bd,x.aT)) (by rintro⟨⟩ ⟨⟩ h;simpa using h)
theorem vH (x:fw):Bu.cells x=[.sl false false x.bd.length (ab (eI .i64) x.bd),.sl false false x.aT.length (ab cm x.aT)]:=ah6
theorem xp:Bu.size=2:=ah6
theorem CX (x:fw):fw.mk x.bd x.aT=x:=ah6
def Xl:gY RZ:=wo (jv (eI .i64) (eI .i64)) (fun x=>(x.P5,x.ab2)) (by rintro⟨⟩ ⟨⟩ h;simpa using h)
theorem xq (x:RZ):Xl.cells x=[.int .i64 x.P5,.int .i64 x.ab2]:=ah6
theorem z6:Xl.size=2:=ah6
theorem G8 (x:RZ):RZ.mk x.P5 x.ab2=x:=ah6
def pr:gY KK:=wo (jv (eI .i64) aB) (fun x=>(x.P6,x.sZ)) (by rintro⟨⟩ ⟨⟩ h;simpa using h)
theorem xr (x:KK):pr.cells x=[.int .i64 x.P6,.int .i64 x.sZ.aZ.ae,.sl false false x.sZ.aZ.aa.length (ab (eI .i64) x.sZ.aZ.aa),.int .i64 x.sZ.aX.ae,.sl false false x.sZ.aX.aa.length (ab (eI .i64) x.sZ.aX.aa)]:=ah6
theorem z7:pr.size=5:=ah6
theorem G9 (x:KK):KK.mk x.P6 x.sZ=x:=ah6
def CI:gY tW:=wo (jv aB (kV pr)) (fun x=>(x.l7,x.Bw)) (by rintro⟨⟩ ⟨⟩ h;simpa using h)
theorem pK (x:tW):CI.cells x=[.int .i64 x.l7.aZ.ae,.sl false false x.l7.aZ.aa.length (ab (eI .i64) x.l7.aZ.aa),.int .i64 x.l7.aX.ae,.sl false false x.l7.aX.aa.length (ab (eI .i64) x.l7.aX.aa),.sl false false x.Bw.length (ab pr x.Bw)]:=ah6
theorem rR:CI.size=5:=ah6
theorem vJ (x:tW):tW.mk x.l7 x.Bw=x:=ah6
def SF:gY Jb:=wo (jv (eI .i64) aB) (fun x=>(x.b5,x.lZ)) (by rintro⟨⟩ ⟨⟩ h;simpa using h)
theorem vF (x:Jb):SF.cells x=[.int .i64 x.b5,.int .i64 x.lZ.aZ.ae,.sl false false x.lZ.aZ.aa.length (ab (eI .i64) x.lZ.aZ.aa),.int .i64 x.lZ.aX.ae,.sl false false x.lZ.aX.aa.length (ab (eI .i64) x.lZ.aX.aa)]:=ah6
theorem xn:SF.size=5:=ah6
theorem CW (x:Jb):Jb.mk x.b5 x.lZ=x:=ah6
theorem abd {l:List _} : (ab (eI .i64) l).length=l.length*1:=bu _ l
theorem Rk {l:List _} : (ab (eI .i64) l).take (l.length*1)=ab (eI .i64) l:=by
 have:=eS (eI .i64) l l.length
 rw[ahw]at this
 exact this
theorem Zz {l:List _} {i:Nat} {x:_} : (ab (eI .i64) (l.set i x)).take (l.length*1)=ab (eI .i64) (l.set i x):=by
 have:=@Rk (l.set i x)
 rwa [ahv]at this
theorem abe {l:List _} : (ab (E3 (eI .i64)) l).length=l.length*1:=bu _ l
theorem Rl {l:List _} : (ab (E3 (eI .i64)) l).take (l.length*1)=ab (E3 (eI .i64)) l:=by
 have:=eS (E3 (eI .i64)) l l.length
 rw[ahw]at this
 exact this
theorem ZA {l:List _} {i:Nat} {x:_} : (ab (E3 (eI .i64)) (l.set i x)).take (l.length*1)=ab (E3 (eI .i64)) (l.set i x):=by
 have:=@Rl (l.set i x)
 rwa [ahv]at this
theorem abf {l:List _} : (ab (kV (eI .i64)) l).length=l.length*1:=bu _ l
theorem Rm {l:List _} : (ab (kV (eI .i64)) l).take (l.length*1)=ab (kV (eI .i64)) l:=by
 have:=eS (kV (eI .i64)) l l.length
 rw[ahw]at this
 exact this
theorem ZB {l:List _} {i:Nat} {x:_} : (ab (kV (eI .i64)) (l.set i x)).take (l.length*1)=ab (kV (eI .i64)) (l.set i x):=by
 have:=@Rm (l.set i x)
 rwa [ahv]at this
theorem abg {l:List _} : (ab (kV aB) l).length=l.length*1:=bu _ l
theorem Rn {l:List _} : (ab (kV aB) l).take (l.length*1)=ab (kV aB) l:=by
 have:=eS (kV aB) l l.length
 rw[ahw]at this
 exact this
theorem ZC {l:List _} {i:Nat} {x:_} : (ab (kV aB) (l.set i x)).take (l.length*1)=ab (kV aB) (l.set i x):=by
 have:=@Rn (l.set i x)
 rwa [ahv]at this
theorem abh {l:List _} : (ab lX l).length=l.length*1:=bu _ l
theorem Ro {l:List _} : (ab lX l).take (l.length*1)=ab lX l:=by
 have:=eS lX l l.length
 rw[ahw]at this
 exact this
theorem ZD {l:List _} {i:Nat} {x:_} : (ab lX (l.set i x)).take (l.length*1)=ab lX (l.set i x):=by
 have:=@Ro (l.set i x)
 rwa [ahv]at this
theorem abi {l:List _} : (ab aB l).length=l.length*4:=bu _ l
theorem Rp {l:List _} : (ab aB l).take (l.length*4)=ab aB l:=by
 have:=eS aB l l.length
 rw[ahw]at this
 exact this
theorem ZE {l:List _} {i:Nat} {x:_} : (ab aB (l.set i x)).take (l.length*4)=ab aB (l.set i x):=by
 have:=@Rp (l.set i x)
 rwa [ahv]at this
theorem abj {l:List _} : (ab cm l).length=l.length*5:=bu _ l
theorem Rq {l:List _} : (ab cm l).take (l.length*5)=ab cm l:=by
 have:=eS cm l l.length
 rw[ahw]at this
 exact this
theorem ZF {l:List _} {i:Nat} {x:_} : (ab cm (l.set i x)).take (l.length*5)=ab cm (l.set i x):=by
 have:=@Rq (l.set i x)
 rwa [ahv]at this
theorem abk {l:List _} : (ab dV l).length=l.length*4:=bu _ l
theorem Rr {l:List _} : (ab dV l).take (l.length*4)=ab dV l:=by
 have:=eS dV l l.length
 rw[ahw]at this
 exact this
theorem ZG {l:List _} {i:Nat} {x:_} : (ab dV (l.set i x)).take (l.length*4)=ab dV (l.set i x):=by
 have:=@Rr (l.set i x)
 rwa [ahv]at this
theorem abl {l:List _} : (ab bj l).length=l.length*3:=bu _ l
theorem Rs {l:List _} : (ab bj l).take (l.length*3)=ab bj l:=by
 have:=eS bj l l.length
 rw[ahw]at this
 exact this
theorem ZH {l:List _} {i:Nat} {x:_} : (ab bj (l.set i x)).take (l.length*3)=ab bj (l.set i x):=by
 have:=@Rs (l.set i x)
 rwa [ahv]at this
theorem abm {l:List _} : (ab aR l).length=l.length*6:=bu _ l
theorem Rt {l:List _} : (ab aR l).take (l.length*6)=ab aR l:=by
 have:=eS aR l l.length
 rw[ahw]at this
 exact this
theorem ZI {l:List _} {i:Nat} {x:_} : (ab aR (l.set i x)).take (l.length*6)=ab aR (l.set i x):=by
 have:=@Rt (l.set i x)
 rwa [ahv]at this
theorem XR {l:List _} : (ab eE l).length=l.length*2:=bu _ l
theorem Kq {l:List _} : (ab eE l).take (l.length*2)=ab eE l:=by
 have:=eS eE l l.length
 rw[ahw]at this
 exact this
theorem Uf {l:List _} {i:Nat} {x:_} : (ab eE (l.set i x)).take (l.length*2)=ab eE (l.set i x):=by
 have:=@Kq (l.set i x)
 rwa [ahv]at this
theorem XS {l:List _} : (ab pr l).length=l.length*5:=bu _ l
theorem Kr {l:List _} : (ab pr l).take (l.length*5)=ab pr l:=by
 have:=eS pr l l.length
 rw[ahw]at this
 exact this
theorem Ug {l:List _} {i:Nat} {x:_} : (ab pr (l.set i x)).take (l.length*5)=ab pr (l.set i x):=by
 have:=@Kr (l.set i x)
 rwa [ahv]at this
theorem vme:type_of% (ai @xj<|ai @zS<|ai @CD<|ai @GS<|ai @SE<|ai @CC<|ai @GU<|ai @L1<|ai @xt<|ai @ud<|ai @xk<|ai @zT<|ai @CE<|ai @xm<|ai @zV<|ai @zZ<|ai @CH<|ai @mL<|ai @sT<|ai @zX<|ai @CF<|ai @zY<|ai @CG<|ai @sS<|ai @vG<|ai @xl<|ai @zU<|ai @xo<|ai @zW<|ai @vH<|ai @xp<|ai @xq<|ai @z6<|ai @xr<|ai @z7<|ai @pK<|ai @rR<|ai @vF<|@xn):=⟨@xj,@zS,@CD,@GS,@SE,@CC,@GU,@L1,@xt,@ud,@xk,@zT,@CE,@xm,@zV,@zZ,@CH,@mL,@sT,@zX,@CF,@zY,@CG,@sS,@vG,@xl,@zU,@xo,@zW,@vH,@xp,@xq,@z6,@xr,@z7,@pK,@rR,@vF,@xn⟩
theorem vml:type_of% (ai @bn<|ai @Mb<|ai @G5<|ai @Me<|ai @G7<|ai @Mc<|ai @Md<|ai @Ac<|ai @G4<|ai @G6<|ai @CX<|ai @G8<|ai @G9<|ai @vJ<|ai @CW<|ai @abd<|ai @Rk<|ai @Zz<|ai @abe<|ai @Rl<|ai @ZA<|ai @abf<|ai @Rm<|ai @ZB<|ai @abg<|ai @Rn<|ai @ZC<|ai @abh<|ai @Ro<|ai @ZD<|ai @abi<|ai @Rp<|ai @ZE<|ai @abj<|ai @Rq<|ai @ZF<|ai @abk<|ai @Rr<|ai @ZG<|ai @abl<|ai @Rs<|ai @ZH<|ai @abm<|ai @Rt<|ai @ZI<|ai @XR<|ai @Kq<|ai @Uf<|ai @XS<|ai @Kr<|@Ug):=⟨@bn,@Mb,@G5,@Me,@G7,@Mc,@Md,@Ac,@G4,@G6,@CX,@G8,@G9,@vJ,@CW,@abd,@Rk,@Zz,@abe,@Rl,@ZA,@abf,@Rm,@ZB,@abg,@Rn,@ZC,@abh,@Ro,@ZD,@abi,@Rp,@ZE,@abj,@Rq,@ZF,@abk,@Rr,@ZG,@abl,@Rs,@ZH,@abm,@Rt,@ZI,@XR,@Kq,@Uf,@XS,@Kr,@Ug⟩
theorem RJ:Uo tab ⟨.map 117 42,1,8,[.map none],false⟩ true (.agg [.int .i64 0,.sl false false 0 [],.int .i64 0,.sl false false 0 []]):=⟨_,_,rfl,rfl,rfl,rfl⟩
theorem XU {h:Nat->Option Row} {m:D} {n n2:Int} {ok:Bool} : fu tab ⟨.map 117 42,1,8,[.map none],false⟩ h m (.agg [.int .i64 n,.int .i64 n2]) ok=lkE true ok (.agg [.int .i64 0,.sl false false 0 [],.int .i64 0,.sl false false 0 []]) (n,some n2) (mapOf h m):=acb RJ rfl
theorem X9 {h:Nat->Option Row} {y v:Nat} {n n2:Int} {x:D} : cg tab ⟨.map 117 42,1,8,[.map none],false⟩ h (.mp y v) (.agg [.int .i64 n,.int .i64 n2]) x=muE true h y v (n,some n2) (si h x):=ach RJ rfl
theorem X6 {ty e d:Nat} (hty:ty<900000):Vy tab (some ⟨.map 117 42,1,8,[.map none],false⟩) ty e d=some ⟨.mp d e,[(d,some ⟨e,ty,[.mpc [] []],false,true,true⟩)]⟩:=aav RJ hty
theorem Tc {m:List ((Int×Int)×ao)} {n n2:Int} : nV (.agg [.int .i64 0,.sl false false 0 [],.int .i64 0,.sl false false 0 []]) (di m) (e8 (bL aB) m) (n,some n2)=.agg [.int .i64 (((td (ao.mk (aj.mk 0 ([])) (aj.mk 0 ([]))) m (n,n2)).aZ).ae),.sl false false (((td (ao.mk (aj.mk 0 ([])) (aj.mk 0 ([]))) m (n,n2)).aZ).aa).length (ab (eI .i64) (((td (ao.mk (aj.mk 0 ([])) (aj.mk 0 ([]))) m (n,n2)).aZ).aa)),.int .i64 (((td (ao.mk (aj.mk 0 ([])) (aj.mk 0 ([]))) m (n,n2)).aX).ae),.sl false false (((td (ao.mk (aj.mk 0 ([])) (aj.mk 0 ([]))) m (n,n2)).aX).aa).length (ab (eI .i64) (((td (ao.mk (aj.mk 0 ([])) (aj.mk 0 ([]))) m (n,n2)).aX).aa))]:=Hz (A:=(bL aB)) (ao.mk (aj.mk 0 ([])) (aj.mk 0 ([]))) (n,n2) m
theorem Ui {m:List ((Int×Int)×ao)} {n n2:Int} {v0:Int} {v1:(List Int)} {v2:Int} {v3:(List Int)} : D.mpc (wG (di m) (n,some n2)) (Bh (di m) (e8 (bL aB) m) (n,some n2) (.agg [.int .i64 v0,.sl false false v1.length (ab (eI .i64) v1),.int .i64 v2,.sl false false v3.length (ab (eI .i64) v3)]))=.mpc (di (Kc m (n,n2) (ao.mk (aj.mk v0 v1) (aj.mk v2 v3)))) (e8 (bL aB) (Kc m (n,n2) (ao.mk (aj.mk v0 v1) (aj.mk v2 v3)))):=by
 rw[<- Ox (n,n2) (ao.mk (aj.mk v0 v1) (aj.mk v2 v3)) m,<- Oz (n,n2) (ao.mk (aj.mk v0 v1) (aj.mk v2 v3)) m]
 rfl
theorem X1 {e d:Nat} (hd:d<1000000):mkA ⟨.struct [(3,0),(26,1)],2,32,[.int .i64 0,.slice none 0 0],false⟩ 28 e d 63 6 1=some ⟨.ptr d e 0,[(d,some ⟨e,28,[.nr 63 6 (4*e+2) [.int .i64 0,.nx 0 []]],false,false,true⟩)]⟩:=by
 unfold mkA
 rw[if_pos ⟨by decide,rfl,rfl,by rw[bZ];exact hd,rfl⟩]
 rfl
theorem vmm:type_of% (ai @XU<|ai @X9<|ai @X6<|ai @Tc<|ai @Ui<|@vi):=⟨@XU,@X9,@X6,@Tc,@Ui,@vi⟩
theorem w:type_of% (ai @v<|ai @vmt<|ai @vme<|ai @vml<|ai @vn<|ai @X1<|@vmm):=⟨@v,@vmt,@vme,@vml,@vn,@X1,@vmm⟩
theorem bN:type_of% (ai @vme<|ai @ahn<|ai @ahe<|ai @afW<|ai @aho<|@agX):=⟨@vme,@ahn,@ahe,@afW,@aho,@agX⟩
def jO:=fc (eQ (po (eI .i64))) (fun x:(List Int)=>iF x) (fun r:(List Int) =>.clean (.sl false false r.length (ab (eI .i64) r)))
theorem fC (p0:(List Int)):jO none [.sl false false p0.length (ab (eI .i64) p0)]=(iF p0).map fun r:(List Int)=>(.clean (.sl false false r.length (ab (eI .i64) r)),none):=aJ _ _ _ (p0)
theorem QN (p0:(List Int)) (r:(List Int)) (hh:iF p0=some r):aW .clean tab aY FU Tryz.f200 none [.sl false false p0.length (ab (eI .i64) p0)]=some (.clean (.sl false false r.length (ab (eI .i64) r)),none):=by
 apply aA rfl Tryz.ntmps200 Tryz.results200
 unfold iF at hh
 try simp only[w,seval]
 obtain⟨o4,ho4,hh⟩:=ah hh
 refine ay (fun s t H e=>match s with|s3a=>t 0=.sl false false p0.length (ab (eI .i64) p0)∧t 3=.int .i64 s3a) (fun o x t H e=>match o with|s3ax=>x=.exit 0∧t 0=.sl false false p0.length (ab (eI .i64) p0)∧t 3=.int .i64 s3ax) ho4 ?_ ?_ ?_
 ·refine⟨?_,?_⟩
  all_goals first|rfl|(simp only[w,seval]<;>rfl)
 ·rintro s3a t H e Za c hh
  simp only[AK]at hh
  try simp only[w,seval,Za]
  apply sp cP hh<;>intro _ hh
  ·obtain⟨x6,hx6,hh⟩:=ah hh
   have ax6:=bs (eI .i64) hx6
   simp only[bN]at ax6
   try simp only[w,seval,Za,ax6]
   apply sp ak hh<;>intro _ hh
   ·cases hh
    try simp only[w,seval,Za]
    apply gV
    refine⟨?_,?_⟩
    all_goals first|rfl|(simp only[w,seval,Za]<;>rfl)
   ·cases hh
    try simp only[w,seval]
    apply jo
    refine⟨rfl,⟨?_,?_⟩⟩
    all_goals first|rfl|(simp only[w,seval,Za]<;>rfl)
  ·cases hh
   try simp only[w,seval]
   apply jo
   refine⟨rfl,⟨?_,?_⟩⟩
   all_goals first|rfl|(simp only[w,seval,Za]<;>rfl)
 ·rintro x t H e hx
  obtain⟨s3ax,rfl⟩:∃z,z=o4:=⟨_,rfl⟩
  dsimp only at hx hh
  obtain⟨rfl,Zax⟩:=hx
  obtain⟨x8,hx8,hh⟩:=ah hh
  obtain⟨q9a,q9b,q9c,q9d,q9e⟩:=Kk (eI .i64) hx8
  simp only[bN]at q9e
  obtain⟨x10,hx10,hh⟩:=ah hh
  obtain⟨q11a,q11b,q11c⟩:=Bp hx10
  replace q11a:=q11a.symm
  subst q11a
  cases hh
  try simp only[w,seval,Zax,q9a,q9c,q9d,q9e,q11b,q11c]
theorem mi:bP Tryz.prog 200 jO:=bP.of (mode := .clean) tok bA.none mixed Tryz.func200 (by kernel_rfl) ⟨by kernel_rfl,by kernel_rfl⟩ (fun _=>ahf (by kernel_rfl)) (fun x r h=>QN x r h)
def ir:=fc (kp (aI .i64) (eQ (po (eI .i64)))) (fun x:Int×(List Int)=>fD x.1 x.2) (fun r:aj =>.clean (.agg [.int .i64 r.ae,.sl false false r.aa.length (ab (eI .i64) r.aa)]))
theorem fb (p0:Int) (p1:(List Int)):ir none [.int .i64 p0,.sl false false p1.length (ab (eI .i64) p1)]=(fD p0 p1).map fun r:aj=>(.clean (.agg [.int .i64 r.ae,.sl false false r.aa.length (ab (eI .i64) r.aa)]),none):=aJ _ _ _ (p0,p1)
def qX:Env:=(Am.ext aY 200 false jO)
theorem Mz:bA Tryz.prog qX:=(bA.none.add mi false)
theorem wN:type_of% (ai @w<|ai @fC<|@qX.eq_1):=⟨@w,@fC,@qX.eq_1⟩
theorem QK (p0:Int) (p1:(List Int)) (r:aj) (hh:fD p0 p1=some r):aW .clean tab qX FU Tryz.f156 none [.int .i64 p0,.sl false false p1.length (ab (eI .i64) p1)]=some (.clean (.agg [.int .i64 r.ae,.sl false false r.aa.length (ab (eI .i64) r.aa)]),none):=by
 apply aA rfl Tryz.ntmps156 Tryz.results156
 unfold fD at hh
 obtain⟨r1,hr1,hh⟩:=ah hh
 try simp only[wN,seval,hr1]
 apply sp ak hh<;>intro _ hh
 ·cases hh
  try simp only[wN,seval]
 ·cases hh
  try simp only[wN,seval]
theorem kg:bP Tryz.prog 156 ir:=bP.of (mode := .clean) tok Mz mixed Tryz.func156 (by kernel_rfl) ⟨by kernel_rfl,by kernel_rfl⟩ (fun _=>ahf (by kernel_rfl)) (fun x r h=>QK x.1 x.2 r h)
def wT:=fc (eQ (aI .i64)) (fun x:Int=>wI x) (fun r:aj =>.clean (.agg [.int .i64 r.ae,.sl false false r.aa.length (ab (eI .i64) r.aa)]))
theorem yb (p0:Int):wT none [.int .i64 p0]=(wI p0).map fun r:aj=>(.clean (.agg [.int .i64 r.ae,.sl false false r.aa.length (ab (eI .i64) r.aa)]),none):=aJ _ _ _ (p0)
def xz:Env:=(Am.ext aY 156 false ir)
theorem UU:bA Tryz.prog xz:=(bA.none.add kg false)
theorem ef:type_of% (ai @w<|ai @fb<|@xz.eq_1):=⟨@w,@fb,@xz.eq_1⟩
theorem XZ (p0:Int) (r:aj) (hh:wI p0=some r):aW .clean tab xz FU Tryz.f95 none [.int .i64 p0]=some (.clean (.agg [.int .i64 r.ae,.sl false false r.aa.length (ab (eI .i64) r.aa)]),none):=by
 apply aA rfl Tryz.ntmps95 Tryz.results95
 unfold wI at hh
 try simp only[ef,seval]
 apply sp ak hh<;>intro _ hh
 ·cases hh
  try simp only[ef,seval]
 ·try simp only[ef,seval]
  obtain⟨o2,ho2,hh⟩:=ah hh
  refine jB 0 (fun s t H e=>match s with|s3j1=>∃v2j1:Nat,t 0=.int .i64 p0∧t 2=.ptr 2 v2j1 0∧t 3=.int .i64 s3j1∧H 2=some ⟨v2j1,40,[.int .i64 0,.sl true true 0 []],false,false,false⟩) (fun s=>s=o2) ?_ ?_
  ·rintro s3j1 t H e ⟨v2j1,Zj1⟩ rfl
   try dsimp only at hh
   try simp only[ef,seval]
   obtain⟨o15,ho15,hh⟩:=ah hh
   refine ay (fun s t H e=>match s with|(s0b,l4b)=>∃v2b:Nat,∃v4b:Nat,t 0=.int .i64 s0b∧t 2=.ptr 2 v2b 0∧t 3=.int .i64 s3j1∧t 4=.buf 4 v4b 1 0 (l4b).length∧H 2=some ⟨v2b,40,[.int .i64 0,.sl true true 0 []],false,false,false⟩∧H 4=some ⟨v4b,3,ab (eI .i64) l4b,false,true,false⟩) (fun o x t H e=>match o with|l4bx=>x=.exit 0∧∃v2bx:Nat,∃v4bx:Nat,t 2=.ptr 2 v2bx 0∧t 3=.int .i64 s3j1∧t 4=.buf 4 v4bx 1 0 (l4bx).length∧H 2=some ⟨v2bx,40,[.int .i64 0,.sl true true 0 []],false,false,false⟩∧H 4=some ⟨v4bx,3,ab (eI .i64) l4bx,false,true,false⟩) ho15 ?_ ?_ ?_
   ·refine⟨v2j1,e,?_,?_,?_,?_,?_,?_⟩
    all_goals first|rfl|(simp only[ef,seval,Zj1]<;>rfl)
   ·rintro⟨s0b,l4b⟩ t H e ⟨v2b,v4b,Zb⟩ c hh
    simp only[Ig]at hh
    try simp only[ef,seval,Zb]
    apply sp ak hh<;>intro _ hh
    ·obtain⟨x17,hx17,hh⟩:=ah hh
     have q18:=xJ hx17
     try simp only[ef,seval,Zb,q18]
     apply sp ak hh<;>intro _ hh
     ·obtain⟨x20,hx20,hh⟩:=ah hh
      obtain⟨q21a,q21b,q21c,q21d⟩:=gL (eI .i64) hx20
      simp only[bN]at q21b
      obtain⟨x22,hx22,hh⟩:=ah hh
      have q23:=qK hx22
      cases hh
      try simp only[ef,seval,Zb,q18,q21a,q21b,q21c,q21d,q23]
      apply gV
      refine⟨v2b,e+1+1+1+1,?_,?_,?_,?_,?_,?_⟩
      all_goals first|rfl|(simp only[ef,seval,Zb]<;>rfl)
     ·obtain⟨x24,hx24,hh⟩:=ah hh
      obtain⟨q25a,q25b,q25c,q25d⟩:=gL (eI .i64) hx24
      simp only[bN]at q25b
      obtain⟨x26,hx26,hh⟩:=ah hh
      have q27:=qK hx26
      cases hh
      try simp only[ef,seval,Zb,q18,q25a,q25b,q25c,q25d,q27]
      apply gV
      refine⟨v2b,e+1+1+1,?_,?_,?_,?_,?_,?_⟩
      all_goals first|rfl|(simp only[ef,seval,Zb]<;>rfl)
    ·cases hh
     try simp only[ef,seval]
     apply jo
     refine⟨rfl,⟨v2b,v4b,?_,?_,?_,?_,?_⟩⟩
     all_goals first|rfl|(simp only[ef,seval,Zb]<;>rfl)
   ·rintro x t H e hx
    obtain⟨l4bx,rfl⟩:∃z,z=o15:=⟨_,rfl⟩
    dsimp only at hx hh
    obtain⟨rfl,⟨v2bx,v4bx,Zbx⟩⟩:=hx
    obtain⟨r28,hr28,hh⟩:=ah hh
    cases hh
    try simp only[ef,seval,Zbx,hr28]
  ·clear hh
   have hh:=ho2
   try simp only[ef,seval]
   apply sp ak hh<;>intro _ hh
   ·cases hh
    try simp only[ef,seval]
    rw[an]
    refine⟨_,rfl,?_⟩
    refine⟨0,?_,?_,?_,?_⟩
    all_goals first|rfl|(simp only[ef,seval]<;>rfl)
   ·cases hh
    try simp only[ef,seval]
    rw[an]
    refine⟨_,rfl,?_⟩
    refine⟨0,?_,?_,?_,?_⟩
    all_goals first|rfl|(simp only[ef,seval]<;>rfl)
theorem HV:bP Tryz.prog 95 wT:=bP.of (mode := .clean) tok UU mixed Tryz.func95 (by kernel_rfl) ⟨by kernel_rfl,by kernel_rfl⟩ (fun _=>ahf (by kernel_rfl)) (fun x r h=>XZ x r h)
def eL:=fc (eQ (bL dw)) (fun x:aj=>cV x) (fun r:Bool =>.clean (.bool r))
theorem cd (p0_0:Int) (p0_1:(List Int)):eL none [.agg [.int .i64 p0_0,.sl false false p0_1.length (ab (eI .i64) p0_1)]]=(cV (aj.mk p0_0 p0_1)).map fun r:Bool=>(.clean (.bool r),none):=aJ _ _ _ ((aj.mk p0_0 p0_1))
theorem NH (p0:aj) (r:Bool) (hh:cV p0=some r):aW .clean tab aY FU Tryz.f144 none [.agg [.int .i64 p0.ae,.sl false false p0.aa.length (ab (eI .i64) p0.aa)]]=some (.clean (.bool r),none):=by
 apply aA rfl Tryz.ntmps144 Tryz.results144
 unfold cV at hh
 try simp only[w,seval]
 obtain⟨o5,ho5,hh⟩:=ah hh
 refine ay (fun s t H e=>match s with|s3a=>∃v1a:Nat,t 1=.ptr 1 v1a 0∧t 3=.int .i64 s3a∧H 1=some ⟨v1a,40,[.int .i64 p0.ae,.sl false false p0.aa.length (ab (eI .i64) p0.aa)],false,false,false⟩) (fun o x t H e=>match o with|(.inl _)=>x=.exit 0∧∃v1ax:Nat,t 1=.ptr 1 v1ax 0∧H 1=some ⟨v1ax,40,[.int .i64 p0.ae,.sl false false p0.aa.length (ab (eI .i64) p0.aa)],false,false,false⟩|(.inr r)=>x=.ret∧eZ .clean tab none [.tmp 2] ⟨t,EH H,e⟩=some (.clean (.bool r),none)) ho5 ?_ ?_ ?_
 ·refine⟨0,?_,?_,?_⟩
  all_goals first|rfl|(simp only[w,seval]<;>rfl)
 ·rintro s3a t H e ⟨v1a,Za⟩ c hh
  simp only[yf]at hh
  try simp only[w,seval,Za]
  apply sp ak hh<;>intro _ hh
  ·obtain⟨x7,hx7,hh⟩:=ah hh
   have ax7:=bs (eI .i64) hx7
   simp only[bN]at ax7
   try simp only[w,seval,Za,ax7]
   apply sp aO hh<;>intro _ hh
   ·cases hh
    try simp only[w,seval]
    refine rT ⟨rfl,?_⟩
    try simp only[w,seval]
   ·have ax7:=bs (eI .i64) hx7
    simp only[bN]at ax7
    try simp only[w,seval,Za,ax7]
    apply sp ak hh<;>intro _ hh
    ·cases hh
     try simp only[w,seval]
     refine rT ⟨rfl,?_⟩
     try simp only[w,seval]
    ·cases hh
     try simp only[w,seval,Za]
     apply gV
     refine⟨v1a,?_,?_,?_⟩
     all_goals first|rfl|(simp only[w,seval,Za]<;>rfl)
  ·cases hh
   try simp only[w,seval]
   apply jo
   refine⟨rfl,⟨v1a,?_,?_⟩⟩
   all_goals first|rfl|(simp only[w,seval,Za]<;>rfl)
 ·rintro x t H e hx
  rcases o5 with _|ra
  ·dsimp only at hx hh
   obtain⟨rfl,⟨v1ax,Zax⟩⟩:=hx
   try simp only[w,seval,Zax]
   obtain⟨o10,ho10,hh⟩:=ah hh
   refine bq 0 (fun s t H e=>match s with|s44j2=>∃v1j2:Nat,t 1=.ptr 1 v1j2 0∧t 4=.int .i64 (p0.aa.length:Int)∧t 44=.bool s44j2∧H 1=some ⟨v1j2,40,[.int .i64 p0.ae,.sl false false p0.aa.length (ab (eI .i64) p0.aa)],false,false,false⟩) (fun s=>s=o10) ?_ ?_
   ·rintro s44j2 t H e ⟨v1j2,Zj2⟩ rfl
    try dsimp only at hh
    try simp only[w,seval,Zj2]
    apply sp ak hh<;>intro _ hh
    ·cases hh
     try simp only[w,seval]
    ·try simp only[w,seval,Zj2]
     apply sp aO hh<;>intro _ hh
     ·cases hh
      try simp only[w,seval]
     ·obtain⟨x13,hx13,hh⟩:=ah hh
      have ax13:=bs (eI .i64) hx13
      simp only[bN]at ax13
      cases hh
      try simp only[w,seval,Zj2,ax13]
   ·clear hh
    have hh:=ho10
    try simp only[w,seval]
    apply sp aO hh<;>intro _ hh
    ·cases hh
     try simp only[w,seval]
     rw[an]
     refine⟨_,rfl,?_⟩
     refine⟨v1ax,?_,?_,?_,?_⟩
     all_goals first|rfl|(simp only[w,seval,Zax]<;>rfl)
    ·try simp only[w,seval,Zax]
     apply sp aO hh<;>intro _ hh
     ·cases hh
      try simp only[w,seval]
      rw[an]
      refine⟨_,rfl,?_⟩
      refine⟨v1ax,?_,?_,?_,?_⟩
      all_goals first|rfl|(simp only[w,seval,Zax]<;>rfl)
     ·cases hh
      try simp only[w,seval,Zax]
      rw[an]
      refine⟨_,rfl,?_⟩
      refine⟨v1ax,?_,?_,?_,?_⟩
      all_goals first|rfl|(simp only[w,seval,Zax]<;>rfl)
  ·dsimp only at hx hh
   obtain⟨rfl,hE⟩:=hx
   cases hh
   try simp only[a7,bh,cr,cn]
   exact hE
theorem fp:bP Tryz.prog 144 eL:=bP.of (mode := .clean) tok bA.none mixed Tryz.func144 (by kernel_rfl) ⟨by kernel_rfl,by kernel_rfl⟩ (fun _=>ahf (by kernel_rfl)) (fun x r h=>NH x r h)
def tR:=fc (eQ (bL dw)) (fun x:aj=>rD x) (fun r:aj =>.clean (.agg [.int .i64 r.ae,.sl false false r.aa.length (ab (eI .i64) r.aa)]))
theorem uU (p0_0:Int) (p0_1:(List Int)):tR none [.agg [.int .i64 p0_0,.sl false false p0_1.length (ab (eI .i64) p0_1)]]=(rD (aj.mk p0_0 p0_1)).map fun r:aj=>(.clean (.agg [.int .i64 r.ae,.sl false false r.aa.length (ab (eI .i64) r.aa)]),none):=aJ _ _ _ ((aj.mk p0_0 p0_1))
def uH:Env:=(Am.ext (Am.ext aY 144 false eL) 156 false ir)
theorem Qo:bA Tryz.prog uH:=((bA.none.add fp false).add kg false)
theorem zr:type_of% (ai @w<|ai @cd<|ai @fb<|@uH.eq_1):=⟨@w,@cd,@fb,@uH.eq_1⟩
theorem Vr (p0:aj) (r:aj) (hh:rD p0=some r):aW .clean tab uH FU Tryz.f154 none [.agg [.int .i64 p0.ae,.sl false false p0.aa.length (ab (eI .i64) p0.aa)]]=some (.clean (.agg [.int .i64 r.ae,.sl false false r.aa.length (ab (eI .i64) r.aa)]),none):=by
 apply aA rfl Tryz.ntmps154 Tryz.results154
 unfold rD at hh
 obtain⟨r1,hr1,hh⟩:=ah hh
 try simp only[zr,seval,hr1]
 apply sp ak hh<;>intro _ hh
 ·cases hh
  try simp only[zr,seval]
 ·obtain⟨r3,hr3,hh⟩:=ah hh
  cases hh
  try simp only[zr,seval,hr3]
theorem D6:bP Tryz.prog 154 tR:=bP.of (mode := .clean) tok Qo mixed Tryz.func154 (by kernel_rfl) ⟨by kernel_rfl,by kernel_rfl⟩ (fun _=>ahf (by kernel_rfl)) (fun x r h=>Vr x r h)
def j9:=fc (kp (po (eI .i64)) (eQ (aI .i64))) (fun x:(List Int)×Int=>ie x.1 x.2) (fun r:Int =>.clean (.int .i64 r))
theorem gI (p0:(List Int)) (p1:Int):j9 none [.sl false false p0.length (ab (eI .i64) p0),.int .i64 p1]=(ie p0 p1).map fun r:Int=>(.clean (.int .i64 r),none):=aJ _ _ _ (p0,p1)
theorem NI (p0:(List Int)) (p1:Int) (r:Int) (hh:ie p0 p1=some r):aW .clean tab aY FU Tryz.f217 none [.sl false false p0.length (ab (eI .i64) p0),.int .i64 p1]=some (.clean (.int .i64 r),none):=by
 apply aA rfl Tryz.ntmps217 Tryz.results217
 unfold ie at hh
 try simp only[w,seval]
 apply sp ak hh<;>intro _ hh
 ·obtain⟨x2,hx2,hh⟩:=ah hh
  have ax2:=bs (eI .i64) hx2
  simp only[bN]at ax2
  cases hh
  try simp only[w,seval,ax2]
 ·cases hh
  try simp only[w,seval]
theorem mY:bP Tryz.prog 217 j9:=bP.of (mode := .clean) tok bA.none mixed Tryz.func217 (by kernel_rfl) ⟨by kernel_rfl,by kernel_rfl⟩ (fun _=>ahf (by kernel_rfl)) (fun x r h=>NI x.1 x.2 r h)
def oA:=fc (kp (po (eI .i64)) (eQ (po (eI .i64)))) (fun x:(List Int)×(List Int)=>lz x.1 x.2) (fun r:(List Int) =>.clean (.sl false false r.length (ab (eI .i64) r)))
theorem mj (p0:(List Int)) (p1:(List Int)):oA none [.sl false false p0.length (ab (eI .i64) p0),.sl false false p1.length (ab (eI .i64) p1)]=(lz p0 p1).map fun r:(List Int)=>(.clean (.sl false false r.length (ab (eI .i64) r)),none):=aJ _ _ _ (p0,p1)
def oQ:Env:=(Am.ext (Am.ext aY 200 false jO) 217 false j9)
theorem JK:bA Tryz.prog oQ:=((bA.none.add mi false).add mY false)
theorem bS:type_of% (ai @w<|ai @fC<|ai @gI<|@oQ.eq_1):=⟨@w,@fC,@gI,@oQ.eq_1⟩
theorem NL (p0:(List Int)) (p1:(List Int)) (r:(List Int)) (hh:lz p0 p1=some r):aW .clean tab oQ FU Tryz.f201 none [.sl false false p0.length (ab (eI .i64) p0),.sl false false p1.length (ab (eI .i64) p1)]=some (.clean (.sl false false r.length (ab (eI .i64) r)),none):=by
 apply aA rfl Tryz.ntmps201 Tryz.results201
 unfold lz at hh
 obtain⟨x1,hx1,hh⟩:=ah hh
 obtain⟨q2a,q2b,q2c,q2d,q2e⟩:=mk_one (eI .i64) hx1
 simp only[bN]at q2d
 try simp only[bS,seval,q2a,q2b,q2c,q2d,q2e]
 obtain⟨o27,ho27,hh⟩:=ah hh
 refine ay (fun s t H e=>match s with|(s6a,l5a)=>∃v5a:Nat,t 0=.sl false false p0.length (ab (eI .i64) p0)∧t 1=.sl false false p1.length (ab (eI .i64) p1)∧t 5=.buf 5 v5a 1 0 (l5a).length∧t 6=.int .i64 s6a∧H 5=some ⟨v5a,3,ab (eI .i64) l5a,false,true,false⟩) (fun o x t H e=>match o with|l5ax=>x=.exit 0∧∃v5ax:Nat,t 5=.buf 5 v5ax 1 0 (l5ax).length∧H 5=some ⟨v5ax,3,ab (eI .i64) l5ax,false,true,false⟩) ho27 ?_ ?_ ?_
 ·refine⟨1,?_,?_,?_,?_,?_⟩
  all_goals first|rfl|(simp only[bS,seval,q2a,q2b,q2c,q2d,q2e]<;>rfl)
 ·rintro⟨s6a,l5a⟩ t H e ⟨v5a,Za⟩ c hh
  simp only[yi]at hh
  try simp only[bS,seval,Za]
  apply sp ak hh<;>intro _ hh
  ·try simp only[bS,seval]
   obtain⟨o40,ho40,hh⟩:=ah hh
   refine ay (fun s t H e=>match s with|(s7e,s8e,l5e)=>∃v5e:Nat,t 0=.sl false false p0.length (ab (eI .i64) p0)∧t 1=.sl false false p1.length (ab (eI .i64) p1)∧t 5=.buf 5 v5e 1 0 (l5e).length∧t 6=.int .i64 s6a∧t 7=.int .i64 s7e∧t 8=.int .i64 s8e∧H 5=some ⟨v5e,3,ab (eI .i64) l5e,false,true,false⟩) (fun o x t H e=>match o with|l5ex=>x=.exit 2∧∃v5ex:Nat,t 0=.sl false false p0.length (ab (eI .i64) p0)∧t 1=.sl false false p1.length (ab (eI .i64) p1)∧t 5=.buf 5 v5ex 1 0 (l5ex).length∧t 6=.int .i64 s6a∧H 5=some ⟨v5ex,3,ab (eI .i64) l5ex,false,true,false⟩) ho40 ?_ ?_ ?_
   ·refine⟨v5a,?_,?_,?_,?_,?_,?_,?_⟩
    all_goals first|rfl|(simp only[bS,seval,Za]<;>rfl)
   ·rintro⟨s7e,s8e,l5e⟩ t H e ⟨v5e,Ze⟩ c hh
    simp only[yj]at hh
    try simp only[bS,seval,Ze]
    obtain⟨o41,ho41,hh⟩:=ah hh
    refine bq 0 (fun s t H e=>match s with|s29j7=>∃v5j7:Nat,t 0=.sl false false p0.length (ab (eI .i64) p0)∧t 1=.sl false false p1.length (ab (eI .i64) p1)∧t 5=.buf 5 v5j7 1 0 (l5e).length∧t 6=.int .i64 s6a∧t 7=.int .i64 s7e∧t 8=.int .i64 s8e∧t 29=.bool s29j7∧H 5=some ⟨v5j7,3,ab (eI .i64) l5e,false,true,false⟩) (fun s=>s=o41) ?_ ?_
    ·rintro s29j7 t H e ⟨v5j7,Zj7⟩ rfl
     try dsimp only at hh
     try simp only[bS,seval,Zj7]
     apply sp ak hh<;>intro _ hh
     ·obtain⟨x43,hx43,hh⟩:=ah hh
      have ax43:=bs (eI .i64) hx43
      simp only[bN]at ax43
      obtain⟨x44,hx44,hh⟩:=ah hh
      have ax44:=bs (eI .i64) hx44
      simp only[bN]at ax44
      obtain⟨r45,hr45,hh⟩:=ah hh
      try simp only[bS,seval,Zj7,ax43,ax44,hr45]
      refine bB (by kernel_rfl) ?_
      obtain⟨x46,hx46,hh⟩:=ah hh
      have q47:=xJ hx46
      have ax43:=bs (eI .i64) hx43
      simp only[bN]at ax43
      have p48:=eV (eI .i64) (x':=x46) (fo:=0) (cs:=[.int .i64 x46]) hx43 rfl (ahf rfl)
      simp only[bN,Nat.add_zero]at p48
      have up48:=p48
      simp only[putCells,List.length_cons,List.length_nil,agj]at up48
      obtain⟨x49,hx49,hh⟩:=ah hh
      have q50:=qK hx49
      cases hh
      try simp only[seval,q47,up48,q50]
      apply gV
      refine⟨v5j7,?_,?_,?_,?_,?_,?_,?_⟩
      all_goals first|rfl|(simp only[bS,seval,Zj7]<;>rfl)
     ·cases hh
      try simp only[bS,seval]
      apply jo
      refine⟨rfl,⟨v5j7,?_,?_,?_,?_,?_⟩⟩
      all_goals first|rfl|(simp only[bS,seval,Zj7]<;>rfl)
    ·clear hh
     have hh:=ho41
     try simp only[bS,seval]
     apply sp aO hh<;>intro _ hh
     ·cases hh
      try simp only[bS,seval]
      rw[an]
      refine⟨_,rfl,?_⟩
      refine⟨v5e,?_,?_,?_,?_,?_,?_,?_,?_⟩
      all_goals first|rfl|(simp only[bS,seval,Ze]<;>rfl)
     ·cases hh
      try simp only[bS,seval,Ze]
      rw[an]
      refine⟨_,rfl,?_⟩
      refine⟨v5e,?_,?_,?_,?_,?_,?_,?_,?_⟩
      all_goals first|rfl|(simp only[bS,seval,Ze]<;>rfl)
   ·rintro x t H e hx
    obtain⟨l5ex,rfl⟩:∃z,z=o40:=⟨_,rfl⟩
    dsimp only at hx hh
    obtain⟨rfl,⟨v5ex,Zex⟩⟩:=hx
    cases hh
    try simp only[bS,seval,Zex]
    apply gV
    refine⟨v5ex,?_,?_,?_,?_,?_⟩
    all_goals first|rfl|(simp only[bS,seval,Zex]<;>rfl)
  ·cases hh
   try simp only[bS,seval]
   apply jo
   refine⟨rfl,⟨v5a,?_,?_⟩⟩
   all_goals first|rfl|(simp only[bS,seval,Za]<;>rfl)
 ·rintro x t H e hx
  obtain⟨l5ax,rfl⟩:∃z,z=o27:=⟨_,rfl⟩
  dsimp only at hx hh
  obtain⟨rfl,⟨v5ax,Zax⟩⟩:=hx
  obtain⟨r52,hr52,hh⟩:=ah hh
  cases hh
  try simp only[bS,seval,Zax,hr52]
theorem xV:bP Tryz.prog 201 oA:=bP.of (mode := .clean) tok JK mixed Tryz.func201 (by kernel_rfl) ⟨by kernel_rfl,by kernel_rfl⟩ (fun _=>ahf (by kernel_rfl)) (fun x r h=>NL x.1 x.2 r h)
def ny:=fc (kp (po (eI .i64)) (eQ (po (eI .i64)))) (fun x:(List Int)×(List Int)=>od x.1 x.2) (fun r:Bool =>.clean (.bool r))
theorem ly (p0:(List Int)) (p1:(List Int)):ny none [.sl false false p0.length (ab (eI .i64) p0),.sl false false p1.length (ab (eI .i64) p1)]=(od p0 p1).map fun r:Bool=>(.clean (.bool r),none):=aJ _ _ _ (p0,p1)
def qW:Env:=(Am.ext aY 217 false j9)
theorem My:bA Tryz.prog qW:=(bA.none.add mY false)
theorem gj:type_of% (ai @w<|ai @gI<|@qW.eq_1):=⟨@w,@gI,@qW.eq_1⟩
theorem QJ (p0:(List Int)) (p1:(List Int)) (r:Bool) (hh:od p0 p1=some r):aW .clean tab qW FU Tryz.f195 none [.sl false false p0.length (ab (eI .i64) p0),.sl false false p1.length (ab (eI .i64) p1)]=some (.clean (.bool r),none):=by
 apply aA rfl Tryz.ntmps195 Tryz.results195
 unfold od at hh
 try simp only[gj,seval]
 obtain⟨o5,ho5,hh⟩:=ah hh
 refine ay (fun s t H e=>match s with|s5a=>t 0=.sl false false p0.length (ab (eI .i64) p0)∧t 1=.sl false false p1.length (ab (eI .i64) p1)∧t 5=.int .i64 s5a) (fun o x t H e=>match o with|(.inl _)=>x=.exit 0|(.inr r)=>x=.ret∧eZ .clean tab none [.tmp 4] ⟨t,EH H,e⟩=some (.clean (.bool r),none)) ho5 ?_ ?_ ?_
 ·refine⟨?_,?_,?_⟩
  all_goals first|rfl|(simp only[gj,seval]<;>rfl)
 ·rintro s5a t H e Za c hh
  simp only[AG]at hh
  try simp only[gj,seval,Za]
  apply sp ak hh<;>intro _ hh
  ·obtain⟨r7,hr7,hh⟩:=ah hh
   obtain⟨r8,hr8,hh⟩:=ah hh
   try simp only[gj,seval,Za,hr7,hr8]
   apply sp ak hh<;>intro _ hh
   ·cases hh
    try simp only[gj,seval,Za,hr7,hr8]
    refine rT ⟨rfl,?_⟩
    try simp only[gj,seval]
   ·cases hh
    try simp only[gj,seval,Za]
    apply gV
    refine⟨?_,?_,?_⟩
    all_goals first|rfl|(simp only[gj,seval,Za]<;>rfl)
  ·cases hh
   try simp only[gj,seval]
   apply jo
   exact rfl
 ·rintro x t H e hx
  rcases o5 with _|ra
  ·dsimp only at hx hh
   subst hx
   cases hh
   try simp only[gj,seval]
  ·dsimp only at hx hh
   obtain⟨rfl,hE⟩:=hx
   cases hh
   try simp only[a7,bh,cr,cn]
   exact hE
theorem tv:bP Tryz.prog 195 ny:=bP.of (mode := .clean) tok My mixed Tryz.func195 (by kernel_rfl) ⟨by kernel_rfl,by kernel_rfl⟩ (fun _=>ahf (by kernel_rfl)) (fun x r h=>QJ x.1 x.2 r h)
def lS:=fc (kp (po (eI .i64)) (eQ (po (eI .i64)))) (fun x:(List Int)×(List Int)=>km x.1 x.2) (fun r:(List Int) =>.clean (.sl false false r.length (ab (eI .i64) r)))
theorem kl (p0:(List Int)) (p1:(List Int)):lS none [.sl false false p0.length (ab (eI .i64) p0),.sl false false p1.length (ab (eI .i64) p1)]=(km p0 p1).map fun r:(List Int)=>(.clean (.sl false false r.length (ab (eI .i64) r)),none):=aJ _ _ _ (p0,p1)
def oP:Env:=(Am.ext (Am.ext aY 200 false jO) 217 false j9)
theorem JJ:bA Tryz.prog oP:=((bA.none.add mi false).add mY false)
theorem eo:type_of% (ai @w<|ai @fC<|ai @gI<|@oP.eq_1):=⟨@w,@fC,@gI,@oP.eq_1⟩
theorem NJ (p0:(List Int)) (p1:(List Int)) (r:(List Int)) (hh:km p0 p1=some r):aW .clean tab oP FU Tryz.f199 none [.sl false false p0.length (ab (eI .i64) p0),.sl false false p1.length (ab (eI .i64) p1)]=some (.clean (.sl false false r.length (ab (eI .i64) r)),none):=by
 apply aA rfl Tryz.ntmps199 Tryz.results199
 unfold km at hh
 try simp only[eo,seval]
 obtain⟨o9,ho9,hh⟩:=ah hh
 refine ay (fun s t H e=>match s with|(s6a,s7a,l5a)=>∃v5a:Nat,t 0=.sl false false p0.length (ab (eI .i64) p0)∧t 1=.sl false false p1.length (ab (eI .i64) p1)∧t 5=.buf 5 v5a 1 0 (l5a).length∧t 6=.int .i64 s6a∧t 7=.int .i64 s7a∧H 5=some ⟨v5a,3,ab (eI .i64) l5a,false,true,false⟩) (fun o x t H e=>match o with|l5ax=>x=.exit 0∧∃v5ax:Nat,t 5=.buf 5 v5ax 1 0 (l5ax).length∧H 5=some ⟨v5ax,3,ab (eI .i64) l5ax,false,true,false⟩) ho9 ?_ ?_ ?_
 ·refine⟨1,?_,?_,?_,?_,?_,?_⟩
  all_goals first|rfl|(simp only[eo,seval]<;>rfl)
 ·rintro⟨s6a,s7a,l5a⟩ t H e ⟨v5a,Za⟩ c hh
  simp only[yh]at hh
  try simp only[eo,seval,Za]
  apply sp ak hh<;>intro _ hh
  ·obtain⟨x11,hx11,hh⟩:=ah hh
   have ax11:=bs (eI .i64) hx11
   simp only[bN]at ax11
   obtain⟨r12,hr12,hh⟩:=ah hh
   try simp only[eo,seval,Za,ax11,hr12]
   refine bB (by kernel_rfl) ?_
   try simp only[eo,seval,Za,ax11,hr12]
   apply sp ak hh<;>intro _ hh
   ·obtain⟨x14,hx14,hh⟩:=ah hh
    obtain⟨q15a,q15b,q15c,q15d⟩:=gL (eI .i64) hx14
    simp only[bN]at q15b
    cases hh
    try simp only[eo,seval,Za,q15a,q15b,q15c,q15d]
    apply gV
    refine⟨e+1+1+1+1+1+1,?_,?_,?_,?_,?_,?_⟩
    all_goals first|rfl|(simp only[eo,seval,Za]<;>rfl)
   ·obtain⟨x16,hx16,hh⟩:=ah hh
    obtain⟨q17a,q17b,q17c,q17d⟩:=gL (eI .i64) hx16
    simp only[bN]at q17b
    cases hh
    try simp only[eo,seval,Za,q17a,q17b,q17c,q17d]
    apply gV
    refine⟨e+1+1+1+1,?_,?_,?_,?_,?_,?_⟩
    all_goals first|rfl|(simp only[eo,seval,Za]<;>rfl)
  ·cases hh
   try simp only[eo,seval]
   apply jo
   refine⟨rfl,⟨v5a,?_,?_⟩⟩
   all_goals first|rfl|(simp only[eo,seval,Za]<;>rfl)
 ·rintro x t H e hx
  obtain⟨l5ax,rfl⟩:∃z,z=o9:=⟨_,rfl⟩
  dsimp only at hx hh
  obtain⟨rfl,⟨v5ax,Zax⟩⟩:=hx
  obtain⟨r18,hr18,hh⟩:=ah hh
  cases hh
  try simp only[eo,seval,Zax,hr18]
theorem rn:bP Tryz.prog 199 lS:=bP.of (mode := .clean) tok JJ mixed Tryz.func199 (by kernel_rfl) ⟨by kernel_rfl,by kernel_rfl⟩ (fun _=>ahf (by kernel_rfl)) (fun x r h=>NJ x.1 x.2 r h)
def qn:=fc (kp (po (eI .i64)) (eQ (po (eI .i64)))) (fun x:(List Int)×(List Int)=>pY x.1 x.2) (fun r:(List Int)×(List Int) =>.clean (.tup [.sl false false r.1.length (ab (eI .i64) r.1),.sl false false r.2.length (ab (eI .i64) r.2)]))
theorem rA (p0:(List Int)) (p1:(List Int)):qn none [.sl false false p0.length (ab (eI .i64) p0),.sl false false p1.length (ab (eI .i64) p1)]=(pY p0 p1).map fun r:(List Int)×(List Int)=>(.clean (.tup [.sl false false r.1.length (ab (eI .i64) r.1),.sl false false r.2.length (ab (eI .i64) r.2)]),none):=aJ _ _ _ (p0,p1)
def qY:Env:=(Am.keep 7 (Am.ext (Am.ext (Am.ext (Am.ext aY 195 false ny) 199 false lS) 200 false jO) 201 false oA))
theorem MA:bA Tryz.prog qY:=(bA.keep ((((bA.none.add tv false).add rn false).add mi false).add xV false) 7)
theorem cM:type_of% (ai @w<|ai @ly<|ai @kl<|ai @fC<|ai @mj<|@qY.eq_1):=⟨@w,@ly,@kl,@fC,@mj,@qY.eq_1⟩
theorem QL (p0:(List Int)) (p1:(List Int)) (r:(List Int)×(List Int)) (hh:pY p0 p1=some r):aW .clean tab qY FU Tryz.f193 none [.sl false false p0.length (ab (eI .i64) p0),.sl false false p1.length (ab (eI .i64) p1)]=some (.clean (.tup [.sl false false r.1.length (ab (eI .i64) r.1),.sl false false r.2.length (ab (eI .i64) r.2)]),none):=by
 apply aA rfl Tryz.ntmps193 Tryz.results193
 unfold pY at hh
 obtain⟨x1,hx1,hh⟩:=ah hh
 obtain⟨q2a,q2b,q2c,q2d,q2e⟩:=mk_one (eI .i64) hx1
 simp only[bN]at q2d
 try simp only[cM,seval,q2a,q2b,q2c,q2d,q2e]
 obtain⟨o29,ho29,hh⟩:=ah hh
 refine ay (fun s t H e=>match s with|(s7a,s8a,l6a)=>∃v6a:Nat,t 0=.sl false false p0.length (ab (eI .i64) p0)∧t 1=.sl false false p1.length (ab (eI .i64) p1)∧t 6=.buf 6 v6a 1 0 (l6a).length∧t 7=.sl false false s7a.length (ab (eI .i64) s7a)∧t 8=.int .i64 s8a∧H 6=some ⟨v6a,3,ab (eI .i64) l6a,false,true,false⟩) (fun o x t H e=>match o with|(s7ax,l6ax)=>x=.exit 0∧∃v6ax:Nat,t 6=.buf 6 v6ax 1 0 (l6ax).length∧t 7=.sl false false s7ax.length (ab (eI .i64) s7ax)∧H 6=some ⟨v6ax,3,ab (eI .i64) l6ax,false,true,false⟩) ho29 ?_ ?_ ?_
 ·refine⟨1,?_,?_,?_,?_,?_,?_⟩
  all_goals first|rfl|(simp only[cM,seval,q2a,q2b,q2c,q2d,q2e]<;>rfl)
 ·rintro⟨s7a,s8a,l6a⟩ t H e ⟨v6a,Za⟩ c hh
  simp only[AH]at hh
  try simp only[cM,seval,Za]
  apply sp ak hh<;>intro _ hh
  ·obtain⟨x31,hx31,hh⟩:=ah hh
   have ax31:=bs (eI .i64) hx31
   simp only[bN]at ax31
   obtain⟨x32,hx32,hh⟩:=ah hh
   obtain⟨q33a,q33b,q33c,q33d⟩:=Z5 (eI .i64) hx32
   simp only[bn,bN,List.length_cons,agj]at q33a q33b
   obtain⟨r34,hr34,hh⟩:=ah hh
   try simp only[cM,seval,Za,ax31,q33a,q33b,q33c,q33d,hr34]
   obtain⟨o42,ho42,hh⟩:=ah hh
   refine ay (fun s t H e=>match s with|(s9c,s10c)=>∃v6c:Nat,t 0=.sl false false p0.length (ab (eI .i64) p0)∧t 1=.sl false false p1.length (ab (eI .i64) p1)∧t 6=.buf 6 v6c 1 0 (l6a).length∧t 7=.sl false false r34.length (ab (eI .i64) r34)∧t 8=.int .i64 s8a∧t 9=.int .i64 s9c∧t 10=.int .i64 s10c∧H 6=some ⟨v6c,3,ab (eI .i64) l6a,false,true,false⟩) (fun o x t H e=>match o with|s9cx=>x=.exit 2∧∃v6cx:Nat,t 0=.sl false false p0.length (ab (eI .i64) p0)∧t 1=.sl false false p1.length (ab (eI .i64) p1)∧t 6=.buf 6 v6cx 1 0 (l6a).length∧t 7=.sl false false r34.length (ab (eI .i64) r34)∧t 8=.int .i64 s8a∧t 9=.int .i64 s9cx∧H 6=some ⟨v6cx,3,ab (eI .i64) l6a,false,true,false⟩) ho42 ?_ ?_ ?_
   ·refine⟨v6a,?_,?_,?_,?_,?_,?_,?_,?_⟩
    all_goals first|rfl|(simp only[cM,seval,Za]<;>rfl)
   ·rintro⟨s9c,s10c⟩ t H e ⟨v6c,Zc⟩ c hh
    simp only[AI]at hh
    try simp only[cM,seval,Zc]
    apply sp ak hh<;>intro _ hh
    ·obtain⟨x44,hx44,hh⟩:=ah hh
     have q45:=qK hx44
     have i46:=mj p1 ([x44])
     simp only[bn,bN,List.length_cons,agj]at i46
     obtain⟨r47,hr47,hh⟩:=ah hh
     obtain⟨r48,hr48,hh⟩:=ah hh
     try simp only[cM,seval,Zc,q45,i46,hr47,hr48]
     apply sp ak hh<;>intro _ hh
     ·cases hh
      try simp only[cM,seval]
      apply gV
      refine⟨v6c,?_,?_,?_,?_,?_,?_,?_,?_⟩
      all_goals first|rfl|(simp only[cM,seval,Zc]<;>rfl)
     ·cases hh
      try simp only[cM,seval]
      apply gV
      refine⟨v6c,?_,?_,?_,?_,?_,?_,?_,?_⟩
      all_goals first|rfl|(simp only[cM,seval,Zc]<;>rfl)
    ·cases hh
     try simp only[cM,seval]
     apply jo
     refine⟨rfl,⟨v6c,?_,?_,?_,?_,?_,?_,?_⟩⟩
     all_goals first|rfl|(simp only[cM,seval,Zc]<;>rfl)
   ·rintro x t H e hx
    obtain⟨s9cx,rfl⟩:∃z,z=o42:=⟨_,rfl⟩
    dsimp only at hx hh
    obtain⟨rfl,⟨v6cx,Zcx⟩⟩:=hx
    obtain⟨x50,hx50,hh⟩:=ah hh
    have ax50:=bs (eI .i64) hx50
    simp only[bN]at ax50
    have p51:=eV (eI .i64) (x':=s9cx) (fo:=0) (cs:=[.int .i64 s9cx]) hx50 rfl (ahf rfl)
    simp only[bN,Nat.add_zero]at p51
    have up51:=p51
    simp only[putCells,List.length_cons,List.length_nil,agj]at up51
    have i52:=fC ([s9cx])
    simp only[bn,bN,List.length_cons,agj]at i52
    obtain⟨r53,hr53,hh⟩:=ah hh
    obtain⟨r54,hr54,hh⟩:=ah hh
    obtain⟨r55,hr55,hh⟩:=ah hh
    cases hh
    try simp only[cM,seval,ax31,Zcx,ax50,up51,i52,hr53,hr54,hr55]
    apply gV
    refine⟨v6cx,?_,?_,?_,?_,?_,?_⟩
    all_goals first|rfl|(simp only[cM,seval,Zcx]<;>rfl)
  ·cases hh
   try simp only[cM,seval]
   apply jo
   refine⟨rfl,⟨v6a,?_,?_,?_⟩⟩
   all_goals first|rfl|(simp only[cM,seval,Za]<;>rfl)
 ·rintro x t H e hx
  rcases o29 with⟨s7ax,l6ax⟩
  dsimp only at hx hh
  obtain⟨rfl,⟨v6ax,Zax⟩⟩:=hx
  obtain⟨r56,hr56,hh⟩:=ah hh
  cases hh
  try simp only[cM,seval,Zax,hr56]
theorem Av:bP Tryz.prog 193 qn:=bP.of (mode := .clean) tok MA mixed Tryz.func193 (by kernel_rfl) ⟨by kernel_rfl,by kernel_rfl⟩ (fun _=>ahf (by kernel_rfl)) (fun x r h=>QL x.1 x.2 r h)
def tQ:=fc (kp (bL dw) (eQ (bL dw))) (fun x:aj×aj=>uY x.1 x.2) (fun r:aj×Int =>.clean (.tup [.agg [.int .i64 r.1.ae,.sl false false r.1.aa.length (ab (eI .i64) r.1.aa)],.int .i64 r.2]))
theorem uT (p0_0:Int) (p0_1:(List Int)) (p1_0:Int) (p1_1:(List Int)):tQ none [.agg [.int .i64 p0_0,.sl false false p0_1.length (ab (eI .i64) p0_1)],.agg [.int .i64 p1_0,.sl false false p1_1.length (ab (eI .i64) p1_1)]]=(uY (aj.mk p0_0 p0_1) (aj.mk p1_0 p1_1)).map fun r:aj×Int=>(.clean (.tup [.agg [.int .i64 r.1.ae,.sl false false r.1.aa.length (ab (eI .i64) r.1.aa)],.int .i64 r.2]),none):=aJ _ _ _ ((aj.mk p0_0 p0_1),(aj.mk p1_0 p1_1))
def uF:Env:=(Am.ext (Am.ext (Am.ext aY 144 false eL) 156 false ir) 193 false qn)
theorem Qm:bA Tryz.prog uF:=(((bA.none.add fp false).add kg false).add Av false)
theorem eh:type_of% (ai @w<|ai @cd<|ai @fb<|ai @rA<|@uF.eq_1):=⟨@w,@cd,@fb,@rA,@uF.eq_1⟩
theorem Vp (p0:aj) (p1:aj) (r:aj×Int) (hh:uY p0 p1=some r):aW .clean tab uF FU Tryz.f145 none [.agg [.int .i64 p0.ae,.sl false false p0.aa.length (ab (eI .i64) p0.aa)],.agg [.int .i64 p1.ae,.sl false false p1.aa.length (ab (eI .i64) p1.aa)]]=some (.clean (.tup [.agg [.int .i64 r.1.ae,.sl false false r.1.aa.length (ab (eI .i64) r.1.aa)],.int .i64 r.2]),none):=by
 apply aA rfl Tryz.ntmps145 Tryz.results145
 unfold uY at hh
 obtain⟨r1,hr1,hh⟩:=ah hh
 try simp only[eh,seval,hr1]
 obtain⟨o2,ho2,hh⟩:=ah hh
 refine bq 0 (fun s t H e=>match s with|s17j1=>∃v2j1:Nat,∃v3j1:Nat,∃v4j1:Nat,t 2=.ptr 2 v2j1 0∧t 3=.ptr 3 v3j1 0∧t 4=.ptr 4 v4j1 0∧t 17=.bool s17j1∧H 2=some ⟨v2j1,40,[.int .i64 p0.ae,.sl false false p0.aa.length (ab (eI .i64) p0.aa)],false,false,false⟩∧H 3=some ⟨v3j1,40,[.int .i64 p1.ae,.sl false false p1.aa.length (ab (eI .i64) p1.aa)],false,false,false⟩∧H 4=some ⟨v4j1,40,[.int .i64 0,.sl true true 0 []],false,false,false⟩) (fun s=>s=o2) ?_ ?_
 ·rintro s17j1 t H e ⟨v2j1,v3j1,v4j1,Zj1⟩ rfl
  try dsimp only at hh
  try simp only[eh,seval,Zj1]
  apply sp ak hh<;>intro _ hh
  ·cases hh
   try simp only[eh,seval,Zj1]
  ·try simp only[eh,seval,Zj1]
   obtain⟨o6,ho6,hh⟩:=ah hh
   refine ay (fun s t H e=>match s with|(s6b,s7b)=>∃v4b:Nat,t 4=.ptr 4 v4b 0∧t 6=.sl false false s6b.length (ab (eI .i64) s6b)∧t 7=.sl false false s7b.length (ab (eI .i64) s7b)∧H 4=some ⟨v4b,40,[.int .i64 0,.sl true true 0 []],false,false,false⟩) (fun o x t H e=>match o with|s6bx=>x=.exit 0∧∃v4bx:Nat,t 4=.ptr 4 v4bx 0∧t 6=.sl false false s6bx.length (ab (eI .i64) s6bx)∧H 4=some ⟨v4bx,40,[.int .i64 0,.sl true true 0 []],false,false,false⟩) ho6 ?_ ?_ ?_
   ·refine⟨v4j1,?_,?_,?_,?_⟩
    all_goals first|rfl|(simp only[eh,seval,Zj1]<;>rfl)
   ·rintro⟨s6b,s7b⟩ t H e ⟨v4b,Zb⟩ c hh
    simp only[Ep]at hh
    try simp only[eh,seval,Zb]
    apply sp ak hh<;>intro _ hh
    ·obtain⟨r8,hr8,hh⟩:=ah hh
     cases hh
     try simp only[eh,seval,Zb,hr8]
     apply gV
     refine⟨v4b,?_,?_,?_,?_⟩
     all_goals first|rfl|(simp only[eh,seval,Zb]<;>rfl)
    ·cases hh
     try simp only[eh,seval]
     apply jo
     refine⟨rfl,⟨v4b,?_,?_,?_⟩⟩
     all_goals first|rfl|(simp only[eh,seval,Zb]<;>rfl)
   ·rintro x t H e hx
    obtain⟨s6bx,rfl⟩:∃z,z=o6:=⟨_,rfl⟩
    dsimp only at hx hh
    obtain⟨rfl,⟨v4bx,Zbx⟩⟩:=hx
    obtain⟨r9,hr9,hh⟩:=ah hh
    cases hh
    try simp only[eh,seval,Zbx,hr9]
 ·clear hh
  have hh:=ho2
  try simp only[eh,seval]
  apply sp aO hh<;>intro _ hh
  ·cases hh
   try simp only[eh,seval]
   rw[an]
   refine⟨_,rfl,?_⟩
   refine⟨0,0,0,?_,?_,?_,?_,?_,?_,?_⟩
   all_goals first|rfl|(simp only[eh,seval,hr1]<;>rfl)
  ·obtain⟨r11,hr11,hh⟩:=ah hh
   cases hh
   try simp only[eh,seval,hr11]
   rw[an]
   refine⟨_,rfl,?_⟩
   refine⟨0,0,0,?_,?_,?_,?_,?_,?_,?_⟩
   all_goals first|rfl|(simp only[eh,seval,hr1,hr11]<;>rfl)
theorem D5:bP Tryz.prog 145 tQ:=bP.of (mode := .clean) tok Qm mixed Tryz.func145 (by kernel_rfl) ⟨by kernel_rfl,by kernel_rfl⟩ (fun _=>ahf (by kernel_rfl)) (fun x r h=>Vp x.1 x.2 r h)
def qo:=fc (kp (po (eI .i64)) (eQ (po (eI .i64)))) (fun x:(List Int)×(List Int)=>pZ x.1 x.2) (fun r:(List Int) =>.clean (.sl false false r.length (ab (eI .i64) r)))
theorem oc (p0:(List Int)) (p1:(List Int)):qo none [.sl false false p0.length (ab (eI .i64) p0),.sl false false p1.length (ab (eI .i64) p1)]=(pZ p0 p1).map fun r:(List Int)=>(.clean (.sl false false r.length (ab (eI .i64) r)),none):=aJ _ _ _ (p0,p1)
def qZ:Env:=(Am.ext (Am.ext aY 200 false jO) 217 false j9)
theorem MB:bA Tryz.prog qZ:=((bA.none.add mi false).add mY false)
theorem db:type_of% (ai @w<|ai @fC<|ai @gI<|@qZ.eq_1):=⟨@w,@fC,@gI,@qZ.eq_1⟩
theorem QM (p0:(List Int)) (p1:(List Int)) (r:(List Int)) (hh:pZ p0 p1=some r):aW .clean tab qZ FU Tryz.f198 none [.sl false false p0.length (ab (eI .i64) p0),.sl false false p1.length (ab (eI .i64) p1)]=some (.clean (.sl false false r.length (ab (eI .i64) r)),none):=by
 apply aA rfl Tryz.ntmps198 Tryz.results198
 unfold pZ at hh
 try simp only[db,seval]
 obtain⟨o13,ho13,hh⟩:=ah hh
 refine ay (fun s t H e=>match s with|(s6a,s7a,l5a)=>∃v5a:Nat,t 0=.sl false false p0.length (ab (eI .i64) p0)∧t 1=.sl false false p1.length (ab (eI .i64) p1)∧t 5=.buf 5 v5a 1 0 (l5a).length∧t 6=.int .i64 s6a∧t 7=.int .i64 s7a∧H 5=some ⟨v5a,3,ab (eI .i64) l5a,false,true,false⟩) (fun o x t H e=>match o with|l5ax=>x=.exit 0∧∃v5ax:Nat,t 5=.buf 5 v5ax 1 0 (l5ax).length∧H 5=some ⟨v5ax,3,ab (eI .i64) l5ax,false,true,false⟩) ho13 ?_ ?_ ?_
 ·refine⟨1,?_,?_,?_,?_,?_,?_⟩
  all_goals first|rfl|(simp only[db,seval]<;>rfl)
 ·rintro⟨s6a,s7a,l5a⟩ t H e ⟨v5a,Za⟩ c hh
  simp only[AJ]at hh
  try simp only[db,seval,Za]
  obtain⟨o14,ho14,hh⟩:=ah hh
  refine bq 0 (fun s t H e=>match s with|s22j3=>∃v5j3:Nat,t 0=.sl false false p0.length (ab (eI .i64) p0)∧t 1=.sl false false p1.length (ab (eI .i64) p1)∧t 5=.buf 5 v5j3 1 0 (l5a).length∧t 6=.int .i64 s6a∧t 7=.int .i64 s7a∧t 22=.bool s22j3∧H 5=some ⟨v5j3,3,ab (eI .i64) l5a,false,true,false⟩) (fun s=>s=o14) ?_ ?_
  ·rintro s22j3 t H e ⟨v5j3,Zj3⟩ rfl
   try dsimp only at hh
   try simp only[db,seval,Zj3]
   apply sp ak hh<;>intro _ hh
   ·obtain⟨r16,hr16,hh⟩:=ah hh
    obtain⟨r17,hr17,hh⟩:=ah hh
    obtain⟨x18,hx18,hh⟩:=ah hh
    have q19:=xJ hx18
    obtain⟨x20,hx20,hh⟩:=ah hh
    obtain⟨q21a,q21b,q21c,q21d⟩:=gL (eI .i64) hx20
    simp only[bN]at q21b
    obtain⟨x22,hx22,hh⟩:=ah hh
    have q23:=qK hx22
    cases hh
    try simp only[db,seval,Zj3,hr16,hr17,q19,q21a,q21b,q21c,q21d,q23]
    apply gV
    refine⟨e+1,?_,?_,?_,?_,?_,?_⟩
    all_goals first|rfl|(simp only[db,seval,Zj3]<;>rfl)
   ·cases hh
    try simp only[db,seval]
    apply jo
    refine⟨rfl,⟨v5j3,?_,?_⟩⟩
    all_goals first|rfl|(simp only[db,seval,Zj3]<;>rfl)
  ·clear hh
   have hh:=ho14
   try simp only[db,seval]
   apply sp aO hh<;>intro _ hh
   ·cases hh
    try simp only[db,seval]
    rw[an]
    refine⟨_,rfl,?_⟩
    refine⟨v5a,?_,?_,?_,?_,?_,?_,?_⟩
    all_goals first|rfl|(simp only[db,seval,Za]<;>rfl)
   ·try simp only[db,seval,Za]
    apply sp aO hh<;>intro _ hh
    ·cases hh
     try simp only[db,seval]
     rw[an]
     refine⟨_,rfl,?_⟩
     refine⟨v5a,?_,?_,?_,?_,?_,?_,?_⟩
     all_goals first|rfl|(simp only[db,seval,Za]<;>rfl)
    ·cases hh
     try simp only[db,seval,Za]
     rw[an]
     refine⟨_,rfl,?_⟩
     refine⟨v5a,?_,?_,?_,?_,?_,?_,?_⟩
     all_goals first|rfl|(simp only[db,seval,Za]<;>rfl)
 ·rintro x t H e hx
  obtain⟨l5ax,rfl⟩:∃z,z=o13:=⟨_,rfl⟩
  dsimp only at hx hh
  obtain⟨rfl,⟨v5ax,Zax⟩⟩:=hx
  obtain⟨r26,hr26,hh⟩:=ah hh
  cases hh
  try simp only[db,seval,Zax,hr26]
theorem Aw:bP Tryz.prog 198 qo:=bP.of (mode := .clean) tok MB mixed Tryz.func198 (by kernel_rfl) ⟨by kernel_rfl,by kernel_rfl⟩ (fun _=>ahf (by kernel_rfl)) (fun x r h=>QM x.1 x.2 r h)
def yI:=fc (kp (bL dw) (eQ (bL dw))) (fun x:aj×aj=>uX x.1 x.2) (fun r:aj×aj×Int =>.clean (.tup [.agg [.int .i64 r.1.ae,.sl false false r.1.aa.length (ab (eI .i64) r.1.aa)],.agg [.int .i64 r.2.1.ae,.sl false false r.2.1.aa.length (ab (eI .i64) r.2.1.aa)],.int .i64 r.2.2]))
theorem H9 (p0_0:Int) (p0_1:(List Int)) (p1_0:Int) (p1_1:(List Int)):yI none [.agg [.int .i64 p0_0,.sl false false p0_1.length (ab (eI .i64) p0_1)],.agg [.int .i64 p1_0,.sl false false p1_1.length (ab (eI .i64) p1_1)]]=(uX (aj.mk p0_0 p0_1) (aj.mk p1_0 p1_1)).map fun r:aj×aj×Int=>(.clean (.tup [.agg [.int .i64 r.1.ae,.sl false false r.1.aa.length (ab (eI .i64) r.1.aa)],.agg [.int .i64 r.2.1.ae,.sl false false r.2.1.aa.length (ab (eI .i64) r.2.1.aa)],.int .i64 r.2.2]),none):=aJ _ _ _ ((aj.mk p0_0 p0_1),(aj.mk p1_0 p1_1))
def uE:Env:=(Am.ext (Am.ext (Am.ext (Am.ext (Am.ext aY 144 false eL) 156 false ir) 193 false qn) 198 false qo) 199 false lS)
theorem Ql:bA Tryz.prog uE:=(((((bA.none.add fp false).add kg false).add Av false).add Aw false).add rn false)
theorem dp:type_of% (ai @w<|ai @cd<|ai @fb<|ai @rA<|ai @oc<|ai @kl<|@uE.eq_1):=⟨@w,@cd,@fb,@rA,@oc,@kl,@uE.eq_1⟩
theorem Vo (p0:aj) (p1:aj) (r:aj×aj×Int) (hh:uX p0 p1=some r):aW .clean tab uE FU Tryz.f155 none [.agg [.int .i64 p0.ae,.sl false false p0.aa.length (ab (eI .i64) p0.aa)],.agg [.int .i64 p1.ae,.sl false false p1.aa.length (ab (eI .i64) p1.aa)]]=some (.clean (.tup [.agg [.int .i64 r.1.ae,.sl false false r.1.aa.length (ab (eI .i64) r.1.aa)],.agg [.int .i64 r.2.1.ae,.sl false false r.2.1.aa.length (ab (eI .i64) r.2.1.aa)],.int .i64 r.2.2]),none):=by
 apply aA rfl Tryz.ntmps155 Tryz.results155
 unfold uX at hh
 obtain⟨r1,hr1,hh⟩:=ah hh
 try simp only[dp,seval,hr1]
 obtain⟨o2,ho2,hh⟩:=ah hh
 refine bq 0 (fun s t H e=>match s with|s16j1=>∃v2j1:Nat,∃v3j1:Nat,∃v4j1:Nat,∃v5j1:Nat,t 2=.ptr 2 v2j1 0∧t 3=.ptr 3 v3j1 0∧t 4=.ptr 4 v4j1 0∧t 5=.ptr 5 v5j1 0∧t 16=.bool s16j1∧H 2=some ⟨v2j1,40,[.int .i64 p0.ae,.sl false false p0.aa.length (ab (eI .i64) p0.aa)],false,false,false⟩∧H 3=some ⟨v3j1,40,[.int .i64 p1.ae,.sl false false p1.aa.length (ab (eI .i64) p1.aa)],false,false,false⟩∧H 4=some ⟨v4j1,40,[.int .i64 0,.sl true true 0 []],false,false,false⟩∧H 5=some ⟨v5j1,40,[.int .i64 0,.sl true true 0 []],false,false,false⟩) (fun s=>s=o2) ?_ ?_
 ·rintro s16j1 t H e ⟨v2j1,v3j1,v4j1,v5j1,Zj1⟩ rfl
  try dsimp only at hh
  try simp only[dp,seval,Zj1]
  apply sp ak hh<;>intro _ hh
  ·cases hh
   try simp only[dp,seval,Zj1]
  ·try simp only[dp,seval,Zj1]
   apply sp ak hh<;>intro _ hh
   ·cases hh
    try simp only[dp,seval,Zj1]
   ·obtain⟨r5,hr5,hh⟩:=ah hh
    try simp only[dp,seval,Zj1,hr5]
    obtain⟨o6,ho6,hh⟩:=ah hh
    refine bq 0 (fun s t H e=>match s with|s42j2=>∃v2j2:Nat,∃v3j2:Nat,∃v4j2:Nat,∃v5j2:Nat,t 2=.ptr 2 v2j2 0∧t 3=.ptr 3 v3j2 0∧t 4=.ptr 4 v4j2 0∧t 5=.ptr 5 v5j2 0∧t 7=.sl false false r5.1.length (ab (eI .i64) r5.1)∧t 8=.sl false false r5.2.length (ab (eI .i64) r5.2)∧t 42=.bool s42j2∧H 2=some ⟨v2j2,40,[.int .i64 p0.ae,.sl false false p0.aa.length (ab (eI .i64) p0.aa)],false,false,false⟩∧H 3=some ⟨v3j2,40,[.int .i64 p1.ae,.sl false false p1.aa.length (ab (eI .i64) p1.aa)],false,false,false⟩∧H 4=some ⟨v4j2,40,[.int .i64 0,.sl true true 0 []],false,false,false⟩∧H 5=some ⟨v5j2,40,[.int .i64 0,.sl true true 0 []],false,false,false⟩) (fun s=>s=o6) ?_ ?_
    ·rintro s42j2 t H e ⟨v2j2,v3j2,v4j2,v5j2,Zj2⟩ rfl
     try dsimp only at hh
     try simp only[dp,seval,Zj2]
     apply sp ak hh<;>intro _ hh
     ·obtain⟨r8,hr8,hh⟩:=ah hh
      obtain⟨r9,hr9,hh⟩:=ah hh
      try simp only[dp,seval,Zj2,hr8,hr9]
      refine bB (by kernel_rfl) ?_
      cases hh
      try simp only[seval]
     ·have i10:=oc r5.1 ([1])
      simp only[bn,bN,List.length_cons,agj]at i10
      obtain⟨r11,hr11,hh⟩:=ah hh
      obtain⟨r12,hr12,hh⟩:=ah hh
      obtain⟨r13,hr13,hh⟩:=ah hh
      obtain⟨r14,hr14,hh⟩:=ah hh
      try simp only[dp,seval,Zj2,i10,hr11,hr12,hr13,hr14]
      refine bB (by kernel_rfl) ?_
      cases hh
      try simp only[seval]
    ·clear hh
     have hh:=ho6
     try simp only[dp,seval]
     apply sp aO hh<;>intro _ hh
     ·cases hh
      try simp only[dp,seval]
      rw[an]
      refine⟨_,rfl,?_⟩
      refine⟨v2j1,v3j1,v4j1,v5j1,?_,?_,?_,?_,?_,?_,?_,?_,?_,?_,?_⟩
      all_goals first|rfl|(simp only[dp,seval,Zj1]<;>rfl)
     ·cases hh
      try simp only[dp,seval]
      rw[an]
      refine⟨_,rfl,?_⟩
      refine⟨v2j1,v3j1,v4j1,v5j1,?_,?_,?_,?_,?_,?_,?_,?_,?_,?_,?_⟩
      all_goals first|rfl|(simp only[dp,seval,Zj1]<;>rfl)
 ·clear hh
  have hh:=ho2
  try simp only[dp,seval]
  apply sp aO hh<;>intro _ hh
  ·cases hh
   try simp only[dp,seval]
   rw[an]
   refine⟨_,rfl,?_⟩
   refine⟨0,0,0,0,?_,?_,?_,?_,?_,?_,?_,?_,?_⟩
   all_goals first|rfl|(simp only[dp,seval,hr1]<;>rfl)
  ·obtain⟨r17,hr17,hh⟩:=ah hh
   cases hh
   try simp only[dp,seval,hr17]
   rw[an]
   refine⟨_,rfl,?_⟩
   refine⟨0,0,0,0,?_,?_,?_,?_,?_,?_,?_,?_,?_⟩
   all_goals first|rfl|(simp only[dp,seval,hr1,hr17]<;>rfl)
theorem QY:bP Tryz.prog 155 yI:=bP.of (mode := .clean) tok Ql mixed Tryz.func155 (by kernel_rfl) ⟨by kernel_rfl,by kernel_rfl⟩ (fun _=>ahf (by kernel_rfl)) (fun x r h=>Vo x.1 x.2 r h)
def tT:=fc (kp (bL dw) (eQ (bL dw))) (fun x:aj×aj=>u3 x.1 x.2) (fun r:ao×Int =>.clean (.tup [.agg [.int .i64 r.1.aZ.ae,.sl false false r.1.aZ.aa.length (ab (eI .i64) r.1.aZ.aa),.int .i64 r.1.aX.ae,.sl false false r.1.aX.aa.length (ab (eI .i64) r.1.aX.aa)],.int .i64 r.2]))
theorem uW (p0_0:Int) (p0_1:(List Int)) (p1_0:Int) (p1_1:(List Int)):tT none [.agg [.int .i64 p0_0,.sl false false p0_1.length (ab (eI .i64) p0_1)],.agg [.int .i64 p1_0,.sl false false p1_1.length (ab (eI .i64) p1_1)]]=(u3 (aj.mk p0_0 p0_1) (aj.mk p1_0 p1_1)).map fun r:ao×Int=>(.clean (.tup [.agg [.int .i64 r.1.aZ.ae,.sl false false r.1.aZ.aa.length (ab (eI .i64) r.1.aZ.aa),.int .i64 r.1.aX.ae,.sl false false r.1.aX.aa.length (ab (eI .i64) r.1.aX.aa)],.int .i64 r.2]),none):=aJ _ _ _ ((aj.mk p0_0 p0_1),(aj.mk p1_0 p1_1))
def uK:Env:=(Am.ext (Am.ext (Am.ext (Am.ext aY 144 false eL) 145 false tQ) 154 false tR) 155 false yI)
theorem Qr:bA Tryz.prog uK:=((((bA.none.add fp false).add D5 false).add D6 false).add QY false)
theorem dO:type_of% (ai @w<|ai @cd<|ai @uT<|ai @uU<|ai @H9<|@uK.eq_1):=⟨@w,@cd,@uT,@uU,@H9,@uK.eq_1⟩
theorem Vv (p0:aj) (p1:aj) (r:ao×Int) (hh:u3 p0 p1=some r):aW .clean tab uK FU Tryz.f94 none [.agg [.int .i64 p0.ae,.sl false false p0.aa.length (ab (eI .i64) p0.aa)],.agg [.int .i64 p1.ae,.sl false false p1.aa.length (ab (eI .i64) p1.aa)]]=some (.clean (.tup [.agg [.int .i64 r.1.aZ.ae,.sl false false r.1.aZ.aa.length (ab (eI .i64) r.1.aZ.aa),.int .i64 r.1.aX.ae,.sl false false r.1.aX.aa.length (ab (eI .i64) r.1.aX.aa)],.int .i64 r.2]),none):=by
 apply aA rfl Tryz.ntmps94 Tryz.results94
 unfold u3 at hh
 obtain⟨r1,hr1,hh⟩:=ah hh
 try simp only[dO,seval,hr1]
 obtain⟨o2,ho2,hh⟩:=ah hh
 refine bq 0 (fun s t H e=>match s with|s21j1=>∃v2j1:Nat,∃v3j1:Nat,∃v4j1:Nat,t 2=.ptr 2 v2j1 0∧t 3=.ptr 3 v3j1 0∧t 4=.ptr 4 v4j1 0∧t 21=.bool s21j1∧H 2=some ⟨v2j1,40,[.int .i64 p0.ae,.sl false false p0.aa.length (ab (eI .i64) p0.aa)],false,false,false⟩∧H 3=some ⟨v3j1,40,[.int .i64 p1.ae,.sl false false p1.aa.length (ab (eI .i64) p1.aa)],false,false,false⟩∧H 4=some ⟨v4j1,42,[.int .i64 0,.sl true true 0 [],.int .i64 0,.sl true true 0 []],false,false,false⟩) (fun s=>s=o2) ?_ ?_
 ·rintro s21j1 t H e ⟨v2j1,v3j1,v4j1,Zj1⟩ rfl
  try dsimp only at hh
  try simp only[dO,seval,Zj1]
  apply sp ak hh<;>intro _ hh
  ·cases hh
   try simp only[dO,seval,Zj1]
  ·try simp only[dO,seval,Zj1]
   apply sp ak hh<;>intro _ hh
   ·cases hh
    try simp only[dO,seval,Zj1]
   ·try simp only[dO,seval,Zj1]
    obtain⟨o5,ho5,hh⟩:=ah hh
    refine jB 0 (fun s t H e=>match s with|(r2_0j2,r2_1j2,r3_0j2,r3_1j2)=>∃v2j2:Nat,∃v3j2:Nat,∃v4j2:Nat,t 2=.ptr 2 v2j2 0∧t 3=.ptr 3 v3j2 0∧t 4=.ptr 4 v4j2 0∧H 2=some ⟨v2j2,40,[.int .i64 r2_0j2,.sl false false r2_1j2.length (ab (eI .i64) r2_1j2)],false,false,false⟩∧H 3=some ⟨v3j2,40,[.int .i64 r3_0j2,.sl false false r3_1j2.length (ab (eI .i64) r3_1j2)],false,false,false⟩∧H 4=some ⟨v4j2,42,[.int .i64 0,.sl true true 0 [],.int .i64 0,.sl true true 0 []],false,false,false⟩) (fun s=>s=o5) ?_ ?_
    ·rintro⟨r2_0j2,r2_1j2,r3_0j2,r3_1j2⟩ t H e ⟨v2j2,v3j2,v4j2,Zj2⟩ rfl
     try dsimp only at hh
     obtain⟨r6,hr6,hh⟩:=ah hh
     obtain⟨r7,hr7,hh⟩:=ah hh
     obtain⟨r8,hr8,hh⟩:=ah hh
     cases hh
     try simp only[dO,seval,Zj2,hr6,hr7,hr8]
    ·clear hh
     have hh:=ho5
     try simp only[dO,seval]
     apply sp ak hh<;>intro _ hh
     ·obtain⟨r10,hr10,hh⟩:=ah hh
      obtain⟨r11,hr11,hh⟩:=ah hh
      cases hh
      try simp only[dO,seval,Zj1,hr10,hr11]
      rw[an]
      refine⟨_,rfl,?_⟩
      refine⟨v2j1,v3j1,v4j1,?_,?_,?_,?_,?_,?_⟩
      all_goals first|rfl|(simp only[dO,seval,Zj1]<;>rfl)
     ·cases hh
      try simp only[dO,seval]
      rw[an]
      refine⟨_,rfl,?_⟩
      refine⟨v2j1,v3j1,v4j1,?_,?_,?_,?_,?_,?_⟩
      all_goals first|rfl|(simp only[dO,seval,Zj1]<;>rfl)
 ·clear hh
  have hh:=ho2
  try simp only[dO,seval]
  apply sp aO hh<;>intro _ hh
  ·cases hh
   try simp only[dO,seval]
   rw[an]
   refine⟨_,rfl,?_⟩
   refine⟨0,0,0,?_,?_,?_,?_,?_,?_,?_⟩
   all_goals first|rfl|(simp only[dO,seval,hr1]<;>rfl)
  ·obtain⟨r13,hr13,hh⟩:=ah hh
   cases hh
   try simp only[dO,seval,hr13]
   rw[an]
   refine⟨_,rfl,?_⟩
   refine⟨0,0,0,?_,?_,?_,?_,?_,?_,?_⟩
   all_goals first|rfl|(simp only[dO,seval,hr1,hr13]<;>rfl)
theorem D8:bP Tryz.prog 94 tT:=bP.of (mode := .clean) tok Qr mixed Tryz.func94 (by kernel_rfl) ⟨by kernel_rfl,by kernel_rfl⟩ (fun _=>ahf (by kernel_rfl)) (fun x r h=>Vv x.1 x.2 r h)
def wU:=fc (kp (aI .i64) (eQ (aI .i64))) (fun x:Int×Int=>zc x.1 x.2) (fun r:ao×Int =>.clean (.tup [.agg [.int .i64 r.1.aZ.ae,.sl false false r.1.aZ.aa.length (ab (eI .i64) r.1.aZ.aa),.int .i64 r.1.aX.ae,.sl false false r.1.aX.aa.length (ab (eI .i64) r.1.aX.aa)],.int .i64 r.2]))
theorem yc (p0:Int) (p1:Int):wU none [.int .i64 p0,.int .i64 p1]=(zc p0 p1).map fun r:ao×Int=>(.clean (.tup [.agg [.int .i64 r.1.aZ.ae,.sl false false r.1.aZ.aa.length (ab (eI .i64) r.1.aZ.aa),.int .i64 r.1.aX.ae,.sl false false r.1.aX.aa.length (ab (eI .i64) r.1.aX.aa)],.int .i64 r.2]),none):=aJ _ _ _ (p0,p1)
def xA:Env:=(Am.ext (Am.ext aY 94 false tT) 95 false wT)
theorem UW:bA Tryz.prog xA:=((bA.none.add D8 false).add HV false)
theorem ZX:type_of% (ai @w<|ai @uW<|ai @yb<|@xA.eq_1):=⟨@w,@uW,@yb,@xA.eq_1⟩
theorem X0 (p0:Int) (p1:Int) (r:ao×Int) (hh:zc p0 p1=some r):aW .clean tab xA FU Tryz.f40 none [.int .i64 p0,.int .i64 p1]=some (.clean (.tup [.agg [.int .i64 r.1.aZ.ae,.sl false false r.1.aZ.aa.length (ab (eI .i64) r.1.aZ.aa),.int .i64 r.1.aX.ae,.sl false false r.1.aX.aa.length (ab (eI .i64) r.1.aX.aa)],.int .i64 r.2]),none):=by
 apply aA rfl Tryz.ntmps40 Tryz.results40
 unfold zc at hh
 obtain⟨r1,hr1,hh⟩:=ah hh
 obtain⟨r2,hr2,hh⟩:=ah hh
 obtain⟨r3,hr3,hh⟩:=ah hh
 cases hh
 try simp only[ZX,seval,hr1,hr2,hr3]
theorem HW:bP Tryz.prog 40 wU:=bP.of (mode := .clean) tok UW mixed Tryz.func40 (by kernel_rfl) ⟨by kernel_rfl,by kernel_rfl⟩ (fun _=>ahf (by kernel_rfl)) (fun x r h=>X0 x.1 x.2 r h)
def wa:=fc (as0) (fun x:Unit=>s8) (fun r:ao =>.clean (.agg [.int .i64 r.aZ.ae,.sl false false r.aZ.aa.length (ab (eI .i64) r.aZ.aa),.int .i64 r.aX.ae,.sl false false r.aX.aa.length (ab (eI .i64) r.aX.aa)]))
theorem El:wa none []=(s8).map fun r:ao=>(.clean (.agg [.int .i64 r.aZ.ae,.sl false false r.aZ.aa.length (ab (eI .i64) r.aZ.aa),.int .i64 r.aX.ae,.sl false false r.aX.aa.length (ab (eI .i64) r.aX.aa)]),none):=aJ _ _ _ ()
def qS:Env:=(Am.ext aY 40 false wU)
theorem Mu:bA Tryz.prog qS:=(bA.none.add HW false)
theorem RI:type_of% (ai @w<|ai @yc<|@qS.eq_1):=⟨@w,@yc,@qS.eq_1⟩
theorem QE (r:ao) (hh:s8=some r):aW .clean tab qS FU Tryz.f69 none []=some (.clean (.agg [.int .i64 r.aZ.ae,.sl false false r.aZ.aa.length (ab (eI .i64) r.aZ.aa),.int .i64 r.aX.ae,.sl false false r.aX.aa.length (ab (eI .i64) r.aX.aa)]),none):=by
 apply aA rfl Tryz.ntmps69 Tryz.results69
 unfold s8 at hh
 obtain⟨r1,hr1,hh⟩:=ah hh
 cases hh
 try simp only[RI,seval,hr1]
theorem Oj:bP Tryz.prog 69 wa:=bP.of (mode := .clean) tok Mu mixed Tryz.func69 (by kernel_rfl) ⟨by kernel_rfl,by kernel_rfl⟩ (fun _=>ahf (by kernel_rfl)) (fun x r h=>QE  r h)
def tS:=fc (eQ (aI .i64)) (fun x:Int=>uZ x) (fun r:ao =>.clean (.agg [.int .i64 r.aZ.ae,.sl false false r.aZ.aa.length (ab (eI .i64) r.aZ.aa),.int .i64 r.aX.ae,.sl false false r.aX.aa.length (ab (eI .i64) r.aX.aa)]))
theorem uV (p0:Int):tS none [.int .i64 p0]=(uZ p0).map fun r:ao=>(.clean (.agg [.int .i64 r.aZ.ae,.sl false false r.aZ.aa.length (ab (eI .i64) r.aZ.aa),.int .i64 r.aX.ae,.sl false false r.aX.aa.length (ab (eI .i64) r.aX.aa)]),none):=aJ _ _ _ (p0)
def uJ:Env:=(Am.ext aY 40 false wU)
theorem Qq:bA Tryz.prog uJ:=(bA.none.add HW false)
theorem V5:type_of% (ai @w<|ai @yc<|@uJ.eq_1):=⟨@w,@yc,@uJ.eq_1⟩
theorem Vu (p0:Int) (r:ao) (hh:uZ p0=some r):aW .clean tab uJ FU Tryz.f34 none [.int .i64 p0]=some (.clean (.agg [.int .i64 r.aZ.ae,.sl false false r.aZ.aa.length (ab (eI .i64) r.aZ.aa),.int .i64 r.aX.ae,.sl false false r.aX.aa.length (ab (eI .i64) r.aX.aa)]),none):=by
 apply aA rfl Tryz.ntmps34 Tryz.results34
 unfold uZ at hh
 obtain⟨r1,hr1,hh⟩:=ah hh
 cases hh
 try simp only[V5,seval,hr1]
theorem D7:bP Tryz.prog 34 tS:=bP.of (mode := .clean) tok Qq mixed Tryz.func34 (by kernel_rfl) ⟨by kernel_rfl,by kernel_rfl⟩ (fun _=>ahf (by kernel_rfl)) (fun x r h=>Vu x r h)
def we:=fc (kp (bL dw) (eQ (bL dw))) (fun x:aj×aj=>tx x.1 x.2) (fun r:Bool =>.clean (.bool r))
theorem Eo (p0_0:Int) (p0_1:(List Int)) (p1_0:Int) (p1_1:(List Int)):we none [.agg [.int .i64 p0_0,.sl false false p0_1.length (ab (eI .i64) p0_1)],.agg [.int .i64 p1_0,.sl false false p1_1.length (ab (eI .i64) p1_1)]]=(tx (aj.mk p0_0 p0_1) (aj.mk p1_0 p1_1)).map fun r:Bool=>(.clean (.bool r),none):=aJ _ _ _ ((aj.mk p0_0 p0_1),(aj.mk p1_0 p1_1))
theorem QI (p0:aj) (p1:aj) (r:Bool) (hh:tx p0 p1=some r):aW .clean tab aY FU Tryz.f194 none [.agg [.int .i64 p0.ae,.sl false false p0.aa.length (ab (eI .i64) p0.aa)],.agg [.int .i64 p1.ae,.sl false false p1.aa.length (ab (eI .i64) p1.aa)]]=some (.clean (.bool r),none):=by
 apply aA rfl Tryz.ntmps194 Tryz.results194
 unfold tx at hh
 try simp only[w,seval]
 obtain⟨o1,ho1,hh⟩:=ah hh
 refine bq 0 (fun s t H e=>match s with|s19j1=>∃v2j1:Nat,∃v3j1:Nat,t 2=.ptr 2 v2j1 0∧t 3=.ptr 3 v3j1 0∧t 19=.bool s19j1∧H 2=some ⟨v2j1,40,[.int .i64 p0.ae,.sl false false p0.aa.length (ab (eI .i64) p0.aa)],false,false,false⟩∧H 3=some ⟨v3j1,40,[.int .i64 p1.ae,.sl false false p1.aa.length (ab (eI .i64) p1.aa)],false,false,false⟩) (fun s=>s=o1) ?_ ?_
 ·rintro s19j1 t H e ⟨v2j1,v3j1,Zj1⟩ rfl
  try dsimp only at hh
  try simp only[w,seval,Zj1]
  apply sp ak hh<;>intro _ hh
  ·cases hh
   try simp only[w,seval]
  ·try simp only[w,seval]
   obtain⟨o7,ho7,hh⟩:=ah hh
   refine ay (fun s t H e=>match s with|s5b=>∃v2b:Nat,∃v3b:Nat,t 2=.ptr 2 v2b 0∧t 3=.ptr 3 v3b 0∧t 5=.int .i64 s5b∧H 2=some ⟨v2b,40,[.int .i64 p0.ae,.sl false false p0.aa.length (ab (eI .i64) p0.aa)],false,false,false⟩∧H 3=some ⟨v3b,40,[.int .i64 p1.ae,.sl false false p1.aa.length (ab (eI .i64) p1.aa)],false,false,false⟩) (fun o x t H e=>match o with|(.inl _)=>x=.exit 0|(.inr r)=>x=.ret∧eZ .clean tab none [.tmp 4] ⟨t,EH H,e⟩=some (.clean (.bool r),none)) ho7 ?_ ?_ ?_
   ·refine⟨v2j1,v3j1,?_,?_,?_,?_,?_⟩
    all_goals first|rfl|(simp only[w,seval,Zj1]<;>rfl)
   ·rintro s5b t H e ⟨v2b,v3b,Zb⟩ c hh
    simp only[AF]at hh
    try simp only[w,seval,Zb]
    apply sp ak hh<;>intro _ hh
    ·obtain⟨x9,hx9,hh⟩:=ah hh
     have ax9:=bs (eI .i64) hx9
     simp only[bN]at ax9
     obtain⟨x10,hx10,hh⟩:=ah hh
     have ax10:=bs (eI .i64) hx10
     simp only[bN]at ax10
     try simp only[w,seval,Zb,ax9,ax10]
     refine bB (by kernel_rfl) ?_
     try simp only[w,seval,Zb,ax9,ax10]
     apply sp ak hh<;>intro _ hh
     ·cases hh
      try simp only[w,seval]
      refine rT ⟨rfl,?_⟩
      try simp only[w,seval]
     ·cases hh
      try simp only[w,seval,Zb]
      apply gV
      refine⟨v2b,v3b,?_,?_,?_,?_,?_⟩
      all_goals first|rfl|(simp only[w,seval,Zb]<;>rfl)
    ·cases hh
     try simp only[w,seval]
     apply jo
     exact rfl
   ·rintro x t H e hx
    rcases o7 with _|rb
    ·dsimp only at hx hh
     subst hx
     cases hh
     try simp only[w,seval]
    ·dsimp only at hx hh
     obtain⟨rfl,hE⟩:=hx
     cases hh
     try simp only[a7,bh,cr,cn]
     exact hE
 ·clear hh
  have hh:=ho1
  try simp only[w,seval]
  apply sp aO hh<;>intro _ hh
  ·cases hh
   try simp only[w,seval]
   rw[an]
   refine⟨_,rfl,?_⟩
   refine⟨0,0,?_,?_,?_,?_,?_⟩
   all_goals first|rfl|(simp only[w,seval]<;>rfl)
  ·cases hh
   try simp only[w,seval]
   rw[an]
   refine⟨_,rfl,?_⟩
   refine⟨0,0,?_,?_,?_,?_,?_⟩
   all_goals first|rfl|(simp only[w,seval]<;>rfl)
theorem On:bP Tryz.prog 194 we:=bP.of (mode := .clean) tok bA.none mixed Tryz.func194 (by kernel_rfl) ⟨by kernel_rfl,by kernel_rfl⟩ (fun _=>ahf (by kernel_rfl)) (fun x r h=>QI x.1 x.2 r h)
def pk:=fc (kp (bL dw) (eQ (bL dw))) (fun x:aj×aj=>ml x.1 x.2) (fun r:Int =>.clean (.int .i64 r))
theorem vQ (p0_0:Int) (p0_1:(List Int)) (p1_0:Int) (p1_1:(List Int)):pk none [.agg [.int .i64 p0_0,.sl false false p0_1.length (ab (eI .i64) p0_1)],.agg [.int .i64 p1_0,.sl false false p1_1.length (ab (eI .i64) p1_1)]]=(ml (aj.mk p0_0 p0_1) (aj.mk p1_0 p1_1)).map fun r:Int=>(.clean (.int .i64 r),none):=aJ _ _ _ ((aj.mk p0_0 p0_1),(aj.mk p1_0 p1_1))
def lN:Env:=(Am.ext (Am.ext (Am.ext aY 144 false eL) 194 false we) 195 false ny)
theorem Da:bA Tryz.prog lN:=(((bA.none.add fp false).add On false).add tv false)
theorem bJ:type_of% (ai @w<|ai @cd<|ai @Eo<|ai @ly<|@lN.eq_1):=⟨@w,@cd,@Eo,@ly,@lN.eq_1⟩
theorem Fx (p0:aj) (p1:aj) (r:Int) (hh:ml p0 p1=some r):aW .clean tab lN FU Tryz.f146 none [.agg [.int .i64 p0.ae,.sl false false p0.aa.length (ab (eI .i64) p0.aa)],.agg [.int .i64 p1.ae,.sl false false p1.aa.length (ab (eI .i64) p1.aa)]]=some (.clean (.int .i64 r),none):=by
 apply aA rfl Tryz.ntmps146 Tryz.results146
 unfold ml at hh
 obtain⟨r1,hr1,hh⟩:=ah hh
 try simp only[bJ,seval,hr1]
 obtain⟨o2,ho2,hh⟩:=ah hh
 refine bq 0 (fun s t H e=>match s with|s17j1=>∃v2j1:Nat,∃v3j1:Nat,t 2=.ptr 2 v2j1 0∧t 3=.ptr 3 v3j1 0∧t 17=.bool s17j1∧H 2=some ⟨v2j1,40,[.int .i64 p0.ae,.sl false false p0.aa.length (ab (eI .i64) p0.aa)],false,false,false⟩∧H 3=some ⟨v3j1,40,[.int .i64 p1.ae,.sl false false p1.aa.length (ab (eI .i64) p1.aa)],false,false,false⟩) (fun s=>s=o2) ?_ ?_
 ·rintro s17j1 t H e ⟨v2j1,v3j1,Zj1⟩ rfl
  try dsimp only at hh
  try simp only[bJ,seval,Zj1]
  apply sp ak hh<;>intro _ hh
  ·cases hh
   try simp only[bJ,seval]
  ·try simp only[bJ,seval,Zj1]
   apply sp ak hh<;>intro _ hh
   ·try simp only[bJ,seval,Zj1]
    apply sp ak hh<;>intro _ hh
    ·cases hh
     try simp only[bJ,seval]
    ·cases hh
     try simp only[bJ,seval]
   ·obtain⟨r6,hr6,hh⟩:=ah hh
    try simp only[bJ,seval,Zj1,hr6]
    refine bB (by kernel_rfl) ?_
    try simp only[bJ,seval,hr1,Zj1,hr6]
    apply sp ak hh<;>intro _ hh
    ·cases hh
     try simp only[bJ,seval]
    ·cases hh
     try simp only[bJ,seval]
 ·clear hh
  have hh:=ho2
  try simp only[bJ,seval]
  apply sp aO hh<;>intro _ hh
  ·cases hh
   try simp only[bJ,seval]
   rw[an]
   refine⟨_,rfl,?_⟩
   refine⟨0,0,?_,?_,?_,?_,?_⟩
   all_goals first|rfl|(simp only[bJ,seval,hr1]<;>rfl)
  ·obtain⟨r9,hr9,hh⟩:=ah hh
   try simp only[bJ,seval,hr9]
   apply sp aO hh<;>intro _ hh
   ·cases hh
    try simp only[bJ,seval]
    rw[an]
    refine⟨_,rfl,?_⟩
    refine⟨0,0,?_,?_,?_,?_,?_⟩
    all_goals first|rfl|(simp only[bJ,seval,hr1,hr9]<;>rfl)
   ·obtain⟨r11,hr11,hh⟩:=ah hh
    cases hh
    try simp only[bJ,seval,hr11]
    rw[an]
    refine⟨_,rfl,?_⟩
    refine⟨0,0,?_,?_,?_,?_,?_⟩
    all_goals first|rfl|(simp only[bJ,seval,hr1,hr9,hr11]<;>rfl)
theorem D4:bP Tryz.prog 146 pk:=bP.of (mode := .clean) tok Da mixed Tryz.func146 (by kernel_rfl) ⟨by kernel_rfl,by kernel_rfl⟩ (fun _=>ahf (by kernel_rfl)) (fun x r h=>Fx x.1 x.2 r h)
def sr:=fc (eQ (bL aB)) (fun x:ao=>nk x) (fun r:Bool =>.clean (.bool r))
theorem AE (p0_0:Int) (p0_1:(List Int)) (p0_2:Int) (p0_3:(List Int)):sr none [.agg [.int .i64 p0_0,.sl false false p0_1.length (ab (eI .i64) p0_1),.int .i64 p0_2,.sl false false p0_3.length (ab (eI .i64) p0_3)]]=(nk (ao.mk (aj.mk p0_0 p0_1) (aj.mk p0_2 p0_3))).map fun r:Bool=>(.clean (.bool r),none):=aJ _ _ _ ((ao.mk (aj.mk p0_0 p0_1) (aj.mk p0_2 p0_3)))
def oR:Env:=(Am.ext (Am.ext (Am.ext (Am.ext aY 95 false wT) 144 false eL) 145 false tQ) 146 false pk)
theorem JL:bA Tryz.prog oR:=((((bA.none.add HV false).add fp false).add D5 false).add D4 false)
theorem ep:type_of% (ai @w<|ai @yb<|ai @cd<|ai @uT<|ai @vQ<|@oR.eq_1):=⟨@w,@yb,@cd,@uT,@vQ,@oR.eq_1⟩
theorem NM (p0:ao) (r:Bool) (hh:nk p0=some r):aW .clean tab oR FU Tryz.f87 none [.agg [.int .i64 p0.aZ.ae,.sl false false p0.aZ.aa.length (ab (eI .i64) p0.aZ.aa),.int .i64 p0.aX.ae,.sl false false p0.aX.aa.length (ab (eI .i64) p0.aX.aa)]]=some (.clean (.bool r),none):=by
 apply aA rfl Tryz.ntmps87 Tryz.results87
 unfold nk at hh
 obtain⟨r1,hr1,hh⟩:=ah hh
 try simp only[ep,seval,hr1]
 obtain⟨o2,ho2,hh⟩:=ah hh
 refine bq 0 (fun s t H e=>match s with|s20j1=>∃v1j1:Nat,t 1=.ptr 1 v1j1 0∧t 20=.bool s20j1∧H 1=some ⟨v1j1,42,[.int .i64 p0.aZ.ae,.sl false false p0.aZ.aa.length (ab (eI .i64) p0.aZ.aa),.int .i64 p0.aX.ae,.sl false false p0.aX.aa.length (ab (eI .i64) p0.aX.aa)],false,false,false⟩) (fun s=>s=o2) ?_ ?_
 ·rintro s20j1 t H e ⟨v1j1,Zj1⟩ rfl
  try dsimp only at hh
  try simp only[ep,seval,Zj1]
  apply sp ak hh<;>intro _ hh
  ·cases hh
   try simp only[ep,seval]
  ·obtain⟨r4,hr4,hh⟩:=ah hh
   obtain⟨r5,hr5,hh⟩:=ah hh
   obtain⟨r6,hr6,hh⟩:=ah hh
   try simp only[ep,seval,Zj1,hr4,hr5,hr6]
   refine bB (by kernel_rfl) ?_
   cases hh
   try simp only[seval]
 ·clear hh
  have hh:=ho2
  try simp only[ep,seval]
  apply sp aO hh<;>intro _ hh
  ·cases hh
   try simp only[ep,seval]
   rw[an]
   refine⟨_,rfl,?_⟩
   refine⟨0,?_,?_,?_⟩
   all_goals first|rfl|(simp only[ep,seval,hr1]<;>rfl)
  ·obtain⟨r8,hr8,hh⟩:=ah hh
   try simp only[ep,seval,hr8]
   apply sp aO hh<;>intro _ hh
   ·cases hh
    try simp only[ep,seval]
    rw[an]
    refine⟨_,rfl,?_⟩
    refine⟨0,?_,?_,?_⟩
    all_goals first|rfl|(simp only[ep,seval,hr1,hr8]<;>rfl)
   ·cases hh
    try simp only[ep,seval]
    rw[an]
    refine⟨_,rfl,?_⟩
    refine⟨0,?_,?_,?_⟩
    all_goals first|rfl|(simp only[ep,seval,hr1,hr8]<;>rfl)
theorem J6:bP Tryz.prog 87 sr:=bP.of (mode := .clean) tok JL mixed Tryz.func87 (by kernel_rfl) ⟨by kernel_rfl,by kernel_rfl⟩ (fun _=>ahf (by kernel_rfl)) (fun x r h=>NM x r h)
def yJ:=fc (kp (bL dw) (eQ (bL dw))) (fun x:aj×aj=>rC x.1 x.2) (fun r:aj×Int =>.clean (.tup [.agg [.int .i64 r.1.ae,.sl false false r.1.aa.length (ab (eI .i64) r.1.aa)],.int .i64 r.2]))
theorem Ia (p0_0:Int) (p0_1:(List Int)) (p1_0:Int) (p1_1:(List Int)):yJ none [.agg [.int .i64 p0_0,.sl false false p0_1.length (ab (eI .i64) p0_1)],.agg [.int .i64 p1_0,.sl false false p1_1.length (ab (eI .i64) p1_1)]]=(rC (aj.mk p0_0 p0_1) (aj.mk p1_0 p1_1)).map fun r:aj×Int=>(.clean (.tup [.agg [.int .i64 r.1.ae,.sl false false r.1.aa.length (ab (eI .i64) r.1.aa)],.int .i64 r.2]),none):=aJ _ _ _ ((aj.mk p0_0 p0_1),(aj.mk p1_0 p1_1))
def uG:Env:=(Am.ext (Am.ext (Am.ext aY 144 false eL) 156 false ir) 201 false oA)
theorem Qn:bA Tryz.prog uG:=(((bA.none.add fp false).add kg false).add xV false)
theorem jc:type_of% (ai @w<|ai @cd<|ai @fb<|ai @mj<|@uG.eq_1):=⟨@w,@cd,@fb,@mj,@uG.eq_1⟩
theorem Vq (p0:aj) (p1:aj) (r:aj×Int) (hh:rC p0 p1=some r):aW .clean tab uG FU Tryz.f163 none [.agg [.int .i64 p0.ae,.sl false false p0.aa.length (ab (eI .i64) p0.aa)],.agg [.int .i64 p1.ae,.sl false false p1.aa.length (ab (eI .i64) p1.aa)]]=some (.clean (.tup [.agg [.int .i64 r.1.ae,.sl false false r.1.aa.length (ab (eI .i64) r.1.aa)],.int .i64 r.2]),none):=by
 apply aA rfl Tryz.ntmps163 Tryz.results163
 unfold rC at hh
 obtain⟨r1,hr1,hh⟩:=ah hh
 try simp only[jc,seval,hr1]
 obtain⟨o2,ho2,hh⟩:=ah hh
 refine bq 0 (fun s t H e=>match s with|s13j1=>∃v2j1:Nat,∃v3j1:Nat,∃v4j1:Nat,t 2=.ptr 2 v2j1 0∧t 3=.ptr 3 v3j1 0∧t 4=.ptr 4 v4j1 0∧t 13=.bool s13j1∧H 2=some ⟨v2j1,40,[.int .i64 p0.ae,.sl false false p0.aa.length (ab (eI .i64) p0.aa)],false,false,false⟩∧H 3=some ⟨v3j1,40,[.int .i64 p1.ae,.sl false false p1.aa.length (ab (eI .i64) p1.aa)],false,false,false⟩∧H 4=some ⟨v4j1,40,[.int .i64 0,.sl true true 0 []],false,false,false⟩) (fun s=>s=o2) ?_ ?_
 ·rintro s13j1 t H e ⟨v2j1,v3j1,v4j1,Zj1⟩ rfl
  try dsimp only at hh
  try simp only[jc,seval,Zj1]
  apply sp ak hh<;>intro _ hh
  ·cases hh
   try simp only[jc,seval,Zj1]
  ·obtain⟨r4,hr4,hh⟩:=ah hh
   obtain⟨r5,hr5,hh⟩:=ah hh
   try simp only[jc,seval,Zj1,hr4,hr5]
   refine bB (by kernel_rfl) ?_
   cases hh
   try simp only[seval]
 ·clear hh
  have hh:=ho2
  try simp only[jc,seval]
  apply sp aO hh<;>intro _ hh
  ·cases hh
   try simp only[jc,seval]
   rw[an]
   refine⟨_,rfl,?_⟩
   refine⟨0,0,0,?_,?_,?_,?_,?_,?_,?_⟩
   all_goals first|rfl|(simp only[jc,seval,hr1]<;>rfl)
  ·obtain⟨r7,hr7,hh⟩:=ah hh
   cases hh
   try simp only[jc,seval,hr7]
   rw[an]
   refine⟨_,rfl,?_⟩
   refine⟨0,0,0,?_,?_,?_,?_,?_,?_,?_⟩
   all_goals first|rfl|(simp only[jc,seval,hr1,hr7]<;>rfl)
theorem QZ:bP Tryz.prog 163 yJ:=bP.of (mode := .clean) tok Qn mixed Tryz.func163 (by kernel_rfl) ⟨by kernel_rfl,by kernel_rfl⟩ (fun _=>ahf (by kernel_rfl)) (fun x r h=>Vq x.1 x.2 r h)
def yH:=fc (kp (bL dw) (eQ (bL dw))) (fun x:aj×aj=>ye x.1 x.2) (fun r:aj×Int =>.clean (.tup [.agg [.int .i64 r.1.ae,.sl false false r.1.aa.length (ab (eI .i64) r.1.aa)],.int .i64 r.2]))
theorem H8 (p0_0:Int) (p0_1:(List Int)) (p1_0:Int) (p1_1:(List Int)):yH none [.agg [.int .i64 p0_0,.sl false false p0_1.length (ab (eI .i64) p0_1)],.agg [.int .i64 p1_0,.sl false false p1_1.length (ab (eI .i64) p1_1)]]=(ye (aj.mk p0_0 p0_1) (aj.mk p1_0 p1_1)).map fun r:aj×Int=>(.clean (.tup [.agg [.int .i64 r.1.ae,.sl false false r.1.aa.length (ab (eI .i64) r.1.aa)],.int .i64 r.2]),none):=aJ _ _ _ ((aj.mk p0_0 p0_1),(aj.mk p1_0 p1_1))
def uD:Env:=(Am.ext (Am.ext (Am.ext (Am.ext (Am.ext aY 144 false eL) 156 false ir) 195 false ny) 198 false qo) 199 false lS)
theorem Qk:bA Tryz.prog uD:=(((((bA.none.add fp false).add kg false).add tv false).add Aw false).add rn false)
theorem cv:type_of% (ai @w<|ai @cd<|ai @fb<|ai @ly<|ai @oc<|ai @kl<|@uD.eq_1):=⟨@w,@cd,@fb,@ly,@oc,@kl,@uD.eq_1⟩
theorem Vn (p0:aj) (p1:aj) (r:aj×Int) (hh:ye p0 p1=some r):aW .clean tab uD FU Tryz.f164 none [.agg [.int .i64 p0.ae,.sl false false p0.aa.length (ab (eI .i64) p0.aa)],.agg [.int .i64 p1.ae,.sl false false p1.aa.length (ab (eI .i64) p1.aa)]]=some (.clean (.tup [.agg [.int .i64 r.1.ae,.sl false false r.1.aa.length (ab (eI .i64) r.1.aa)],.int .i64 r.2]),none):=by
 apply aA rfl Tryz.ntmps164 Tryz.results164
 unfold ye at hh
 obtain⟨r1,hr1,hh⟩:=ah hh
 try simp only[cv,seval,hr1]
 obtain⟨o2,ho2,hh⟩:=ah hh
 refine bq 0 (fun s t H e=>match s with|s13j1=>∃v2j1:Nat,∃v3j1:Nat,∃v4j1:Nat,t 2=.ptr 2 v2j1 0∧t 3=.ptr 3 v3j1 0∧t 4=.ptr 4 v4j1 0∧t 13=.bool s13j1∧H 2=some ⟨v2j1,40,[.int .i64 p0.ae,.sl false false p0.aa.length (ab (eI .i64) p0.aa)],false,false,false⟩∧H 3=some ⟨v3j1,40,[.int .i64 p1.ae,.sl false false p1.aa.length (ab (eI .i64) p1.aa)],false,false,false⟩∧H 4=some ⟨v4j1,40,[.int .i64 0,.sl true true 0 []],false,false,false⟩) (fun s=>s=o2) ?_ ?_
 ·rintro s13j1 t H e ⟨v2j1,v3j1,v4j1,Zj1⟩ rfl
  try dsimp only at hh
  try simp only[cv,seval,Zj1]
  apply sp ak hh<;>intro _ hh
  ·cases hh
   try simp only[cv,seval,Zj1]
  ·try simp only[cv,seval,Zj1]
   obtain⟨o4,ho4,hh⟩:=ah hh
   refine bq 0 (fun s t H e=>match s with|s29j2=>∃v2j2:Nat,∃v3j2:Nat,∃v4j2:Nat,t 2=.ptr 2 v2j2 0∧t 3=.ptr 3 v3j2 0∧t 4=.ptr 4 v4j2 0∧t 29=.bool s29j2∧H 2=some ⟨v2j2,40,[.int .i64 p0.ae,.sl false false p0.aa.length (ab (eI .i64) p0.aa)],false,false,false⟩∧H 3=some ⟨v3j2,40,[.int .i64 p1.ae,.sl false false p1.aa.length (ab (eI .i64) p1.aa)],false,false,false⟩∧H 4=some ⟨v4j2,40,[.int .i64 0,.sl true true 0 []],false,false,false⟩) (fun s=>s=o4) ?_ ?_
   ·rintro s29j2 t H e ⟨v2j2,v3j2,v4j2,Zj2⟩ rfl
    try dsimp only at hh
    try simp only[cv,seval,Zj2]
    apply sp ak hh<;>intro _ hh
    ·obtain⟨r6,hr6,hh⟩:=ah hh
     obtain⟨r7,hr7,hh⟩:=ah hh
     try simp only[cv,seval,Zj2,hr6,hr7]
     refine bB (by kernel_rfl) ?_
     cases hh
     try simp only[seval]
    ·obtain⟨r8,hr8,hh⟩:=ah hh
     try simp only[cv,seval,Zj2,hr8]
     apply sp ak hh<;>intro _ hh
     ·obtain⟨r10,hr10,hh⟩:=ah hh
      obtain⟨r11,hr11,hh⟩:=ah hh
      try simp only[cv,seval,Zj2,hr10,hr11]
      refine bB (by kernel_rfl) ?_
      cases hh
      try simp only[seval]
     ·obtain⟨r12,hr12,hh⟩:=ah hh
      obtain⟨r13,hr13,hh⟩:=ah hh
      try simp only[cv,seval,Zj2,hr12,hr13]
      refine bB (by kernel_rfl) ?_
      cases hh
      try simp only[seval]
   ·clear hh
    have hh:=ho4
    try simp only[cv,seval]
    apply sp aO hh<;>intro _ hh
    ·cases hh
     try simp only[cv,seval]
     rw[an]
     refine⟨_,rfl,?_⟩
     refine⟨v2j1,v3j1,v4j1,?_,?_,?_,?_,?_,?_,?_⟩
     all_goals first|rfl|(simp only[cv,seval,Zj1]<;>rfl)
    ·try simp only[cv,seval,Zj1]
     apply sp aO hh<;>intro _ hh
     ·cases hh
      try simp only[cv,seval]
      rw[an]
      refine⟨_,rfl,?_⟩
      refine⟨v2j1,v3j1,v4j1,?_,?_,?_,?_,?_,?_,?_⟩
      all_goals first|rfl|(simp only[cv,seval,Zj1]<;>rfl)
     ·cases hh
      try simp only[cv,seval,Zj1]
      rw[an]
      refine⟨_,rfl,?_⟩
      refine⟨v2j1,v3j1,v4j1,?_,?_,?_,?_,?_,?_,?_⟩
      all_goals first|rfl|(simp only[cv,seval,Zj1]<;>rfl)
 ·clear hh
  have hh:=ho2
  try simp only[cv,seval]
  apply sp aO hh<;>intro _ hh
  ·cases hh
   try simp only[cv,seval]
   rw[an]
   refine⟨_,rfl,?_⟩
   refine⟨0,0,0,?_,?_,?_,?_,?_,?_,?_⟩
   all_goals first|rfl|(simp only[cv,seval,hr1]<;>rfl)
  ·obtain⟨r17,hr17,hh⟩:=ah hh
   cases hh
   try simp only[cv,seval,hr17]
   rw[an]
   refine⟨_,rfl,?_⟩
   refine⟨0,0,0,?_,?_,?_,?_,?_,?_,?_⟩
   all_goals first|rfl|(simp only[cv,seval,hr1,hr17]<;>rfl)
theorem QX:bP Tryz.prog 164 yH:=bP.of (mode := .clean) tok Qk mixed Tryz.func164 (by kernel_rfl) ⟨by kernel_rfl,by kernel_rfl⟩ (fun _=>ahf (by kernel_rfl)) (fun x r h=>Vn x.1 x.2 r h)
def yK:=fc (kp (bL dw) (eQ (bL dw))) (fun x:aj×aj=>yg x.1 x.2) (fun r:aj×Int =>.clean (.tup [.agg [.int .i64 r.1.ae,.sl false false r.1.aa.length (ab (eI .i64) r.1.aa)],.int .i64 r.2]))
theorem Ib (p0_0:Int) (p0_1:(List Int)) (p1_0:Int) (p1_1:(List Int)):yK none [.agg [.int .i64 p0_0,.sl false false p0_1.length (ab (eI .i64) p0_1)],.agg [.int .i64 p1_0,.sl false false p1_1.length (ab (eI .i64) p1_1)]]=(yg (aj.mk p0_0 p0_1) (aj.mk p1_0 p1_1)).map fun r:aj×Int=>(.clean (.tup [.agg [.int .i64 r.1.ae,.sl false false r.1.aa.length (ab (eI .i64) r.1.aa)],.int .i64 r.2]),none):=aJ _ _ _ ((aj.mk p0_0 p0_1),(aj.mk p1_0 p1_1))
def uI:Env:=(Am.ext (Am.ext (Am.ext aY 144 false eL) 154 false tR) 164 false yH)
theorem Qp:bA Tryz.prog uI:=(((bA.none.add fp false).add D6 false).add QX false)
theorem zt:type_of% (ai @w<|ai @cd<|ai @uU<|ai @H8<|@uI.eq_1):=⟨@w,@cd,@uU,@H8,@uI.eq_1⟩
theorem Vs (p0:aj) (p1:aj) (r:aj×Int) (hh:yg p0 p1=some r):aW .clean tab uI FU Tryz.f172 none [.agg [.int .i64 p0.ae,.sl false false p0.aa.length (ab (eI .i64) p0.aa)],.agg [.int .i64 p1.ae,.sl false false p1.aa.length (ab (eI .i64) p1.aa)]]=some (.clean (.tup [.agg [.int .i64 r.1.ae,.sl false false r.1.aa.length (ab (eI .i64) r.1.aa)],.int .i64 r.2]),none):=by
 apply aA rfl Tryz.ntmps172 Tryz.results172
 unfold yg at hh
 obtain⟨r1,hr1,hh⟩:=ah hh
 try simp only[zt,seval,hr1]
 apply sp ak hh<;>intro _ hh
 ·cases hh
  try simp only[zt,seval]
 ·obtain⟨r3,hr3,hh⟩:=ah hh
  obtain⟨r4,hr4,hh⟩:=ah hh
  try simp only[zt,seval,hr3,hr4]
  refine bB (by kernel_rfl) ?_
  cases hh
  try simp only[seval]
theorem Q0:bP Tryz.prog 172 yK:=bP.of (mode := .clean) tok Qp mixed Tryz.func172 (by kernel_rfl) ⟨by kernel_rfl,by kernel_rfl⟩ (fun _=>ahf (by kernel_rfl)) (fun x r h=>Vs x.1 x.2 r h)
def yM:=fc (kp (bL aB) (eQ (bL aB))) (fun x:ao×ao=>yk x.1 x.2) (fun r:ao×Int =>.clean (.tup [.agg [.int .i64 r.1.aZ.ae,.sl false false r.1.aZ.aa.length (ab (eI .i64) r.1.aZ.aa),.int .i64 r.1.aX.ae,.sl false false r.1.aX.aa.length (ab (eI .i64) r.1.aX.aa)],.int .i64 r.2]))
theorem Ie (p0_0:Int) (p0_1:(List Int)) (p0_2:Int) (p0_3:(List Int)) (p1_0:Int) (p1_1:(List Int)) (p1_2:Int) (p1_3:(List Int)):yM none [.agg [.int .i64 p0_0,.sl false false p0_1.length (ab (eI .i64) p0_1),.int .i64 p0_2,.sl false false p0_3.length (ab (eI .i64) p0_3)],.agg [.int .i64 p1_0,.sl false false p1_1.length (ab (eI .i64) p1_1),.int .i64 p1_2,.sl false false p1_3.length (ab (eI .i64) p1_3)]]=(yk (ao.mk (aj.mk p0_0 p0_1) (aj.mk p0_2 p0_3)) (ao.mk (aj.mk p1_0 p1_1) (aj.mk p1_2 p1_3))).map fun r:ao×Int=>(.clean (.tup [.agg [.int .i64 r.1.aZ.ae,.sl false false r.1.aZ.aa.length (ab (eI .i64) r.1.aZ.aa),.int .i64 r.1.aX.ae,.sl false false r.1.aX.aa.length (ab (eI .i64) r.1.aX.aa)],.int .i64 r.2]),none):=aJ _ _ _ ((ao.mk (aj.mk p0_0 p0_1) (aj.mk p0_2 p0_3)),(ao.mk (aj.mk p1_0 p1_1) (aj.mk p1_2 p1_3)))
def uL:Env:=(Am.ext (Am.ext (Am.ext (Am.ext aY 87 false sr) 94 false tT) 163 false yJ) 172 false yK)
theorem Qs:bA Tryz.prog uL:=((((bA.none.add J6 false).add D8 false).add QZ false).add Q0 false)
theorem jd:type_of% (ai @w<|ai @AE<|ai @uW<|ai @Ia<|ai @Ib<|@uL.eq_1):=⟨@w,@AE,@uW,@Ia,@Ib,@uL.eq_1⟩
theorem Vw (p0:ao) (p1:ao) (r:ao×Int) (hh:yk p0 p1=some r):aW .clean tab uL FU Tryz.f125 none [.agg [.int .i64 p0.aZ.ae,.sl false false p0.aZ.aa.length (ab (eI .i64) p0.aZ.aa),.int .i64 p0.aX.ae,.sl false false p0.aX.aa.length (ab (eI .i64) p0.aX.aa)],.agg [.int .i64 p1.aZ.ae,.sl false false p1.aZ.aa.length (ab (eI .i64) p1.aZ.aa),.int .i64 p1.aX.ae,.sl false false p1.aX.aa.length (ab (eI .i64) p1.aX.aa)]]=some (.clean (.tup [.agg [.int .i64 r.1.aZ.ae,.sl false false r.1.aZ.aa.length (ab (eI .i64) r.1.aZ.aa),.int .i64 r.1.aX.ae,.sl false false r.1.aX.aa.length (ab (eI .i64) r.1.aX.aa)],.int .i64 r.2]),none):=by
 apply aA rfl Tryz.ntmps125 Tryz.results125
 unfold yk at hh
 obtain⟨r1,hr1,hh⟩:=ah hh
 try simp only[jd,seval,hr1]
 obtain⟨o2,ho2,hh⟩:=ah hh
 refine bq 0 (fun s t H e=>match s with|s21j1=>∃v2j1:Nat,∃v3j1:Nat,∃v4j1:Nat,t 2=.ptr 2 v2j1 0∧t 3=.ptr 3 v3j1 0∧t 4=.ptr 4 v4j1 0∧t 21=.bool s21j1∧H 2=some ⟨v2j1,42,[.int .i64 p0.aZ.ae,.sl false false p0.aZ.aa.length (ab (eI .i64) p0.aZ.aa),.int .i64 p0.aX.ae,.sl false false p0.aX.aa.length (ab (eI .i64) p0.aX.aa)],false,false,false⟩∧H 3=some ⟨v3j1,42,[.int .i64 p1.aZ.ae,.sl false false p1.aZ.aa.length (ab (eI .i64) p1.aZ.aa),.int .i64 p1.aX.ae,.sl false false p1.aX.aa.length (ab (eI .i64) p1.aX.aa)],false,false,false⟩∧H 4=some ⟨v4j1,42,[.int .i64 0,.sl true true 0 [],.int .i64 0,.sl true true 0 []],false,false,false⟩) (fun s=>s=o2) ?_ ?_
 ·rintro s21j1 t H e ⟨v2j1,v3j1,v4j1,Zj1⟩ rfl
  try dsimp only at hh
  try simp only[jd,seval,Zj1]
  apply sp ak hh<;>intro _ hh
  ·cases hh
   try simp only[jd,seval,Zj1]
  ·obtain⟨r4,hr4,hh⟩:=ah hh
   obtain⟨r5,hr5,hh⟩:=ah hh
   obtain⟨r6,hr6,hh⟩:=ah hh
   obtain⟨r7,hr7,hh⟩:=ah hh
   obtain⟨r8,hr8,hh⟩:=ah hh
   cases hh
   try simp only[jd,seval,Zj1,hr4,hr5,hr6,hr7,hr8]
 ·clear hh
  have hh:=ho2
  try simp only[jd,seval]
  apply sp aO hh<;>intro _ hh
  ·cases hh
   try simp only[jd,seval]
   rw[an]
   refine⟨_,rfl,?_⟩
   refine⟨0,0,0,?_,?_,?_,?_,?_,?_,?_⟩
   all_goals first|rfl|(simp only[jd,seval,hr1]<;>rfl)
  ·obtain⟨r10,hr10,hh⟩:=ah hh
   cases hh
   try simp only[jd,seval,hr10]
   rw[an]
   refine⟨_,rfl,?_⟩
   refine⟨0,0,0,?_,?_,?_,?_,?_,?_,?_⟩
   all_goals first|rfl|(simp only[jd,seval,hr1,hr10]<;>rfl)
theorem Q3:bP Tryz.prog 125 yM:=bP.of (mode := .clean) tok Qs mixed Tryz.func125 (by kernel_rfl) ⟨by kernel_rfl,by kernel_rfl⟩ (fun _=>ahf (by kernel_rfl)) (fun x r h=>Vw x.1 x.2 r h)
def pe:=fc (kp (aI .i64) (eQ (bL aB))) (fun x:Int×ao=>iz x.1 x.2) (fun r:fw =>.clean (.agg [.sl false false r.bd.length (ab (eI .i64) r.bd),.sl false false r.aT.length (ab cm r.aT)]))
theorem vM (p0:Int) (p1_0:Int) (p1_1:(List Int)) (p1_2:Int) (p1_3:(List Int)):pe none [.int .i64 p0,.agg [.int .i64 p1_0,.sl false false p1_1.length (ab (eI .i64) p1_1),.int .i64 p1_2,.sl false false p1_3.length (ab (eI .i64) p1_3)]]=(iz p0 (ao.mk (aj.mk p1_0 p1_1) (aj.mk p1_2 p1_3))).map fun r:fw=>(.clean (.agg [.sl false false r.bd.length (ab (eI .i64) r.bd),.sl false false r.aT.length (ab cm r.aT)]),none):=aJ _ _ _ (p0,(ao.mk (aj.mk p1_0 p1_1) (aj.mk p1_2 p1_3)))
def lJ:Env:=(Am.ext (Am.ext aY 34 false tS) 125 false yM)
theorem C6:bA Tryz.prog lJ:=((bA.none.add D7 false).add Q3 false)
theorem FP:type_of% (ai @w<|ai @uV<|ai @Ie<|@lJ.eq_1):=⟨@w,@uV,@Ie,@lJ.eq_1⟩
theorem Ft (p0:Int) (p1:ao) (r:fw) (hh:iz p0 p1=some r):aW .clean tab lJ FU Tryz.f68 none [.int .i64 p0,.agg [.int .i64 p1.aZ.ae,.sl false false p1.aZ.aa.length (ab (eI .i64) p1.aZ.aa),.int .i64 p1.aX.ae,.sl false false p1.aX.aa.length (ab (eI .i64) p1.aX.aa)]]=some (.clean (.agg [.sl false false r.bd.length (ab (eI .i64) r.bd),.sl false false r.aT.length (ab cm r.aT)]),none):=by
 apply aA rfl Tryz.ntmps68 Tryz.results68
 unfold iz at hh
 obtain⟨r1,hr1,hh⟩:=ah hh
 obtain⟨r2,hr2,hh⟩:=ah hh
 cases hh
 try simp only[FP,seval,hr1,hr2]
theorem DZ:bP Tryz.prog 68 pe:=bP.of (mode := .clean) tok C6 mixed Tryz.func68 (by kernel_rfl) ⟨by kernel_rfl,by kernel_rfl⟩ (fun _=>ahf (by kernel_rfl)) (fun x r h=>Ft x.1 x.2 r h)
def fR:=fc (kp (aI .i64) (kp (aI .i64) (eQ (aI .i64)))) (fun x:Int×Int×Int=>cZ x.1 x.2.1 x.2.2) (fun r:Bool =>.clean (.bool r))
theorem dI (p0:Int) (p1:Int) (p2:Int):fR none [.int .i64 p0,.int .i64 p1,.int .i64 p2]=(cZ p0 p1 p2).map fun r:Bool=>(.clean (.bool r),none):=aJ _ _ _ (p0,p1,p2)
theorem JV (p0:Int) (p1:Int) (p2:Int) (r:Bool) (hh:cZ p0 p1 p2=some r):aW .clean tab aY FU Tryz.f71 none [.int .i64 p0,.int .i64 p1,.int .i64 p2]=some (.clean (.bool r),none):=by
 apply aA rfl Tryz.ntmps71 Tryz.results71
 unfold cZ at hh
 try simp only[w,seval]
 apply sp cP hh<;>intro _ hh
 ·cases hh
  try simp only[w,seval]
 ·cases hh
  try simp only[w,seval]
theorem ia:bP Tryz.prog 71 fR:=bP.of (mode := .clean) tok bA.none mixed Tryz.func71 (by kernel_rfl) ⟨by kernel_rfl,by kernel_rfl⟩ (fun _=>ahf (by kernel_rfl)) (fun x r h=>JV x.1 x.2.1 x.2.2 r h)
def jN:=fc (eQ (po (eI .i64))) (fun x:(List Int)=>dM x) (fun r:(List Int) =>.clean (.sl false false r.length (ab (eI .i64) r)))
theorem fa (p0:(List Int)):jN none [.sl false false p0.length (ab (eI .i64) p0)]=(dM p0).map fun r:(List Int)=>(.clean (.sl false false r.length (ab (eI .i64) r)),none):=aJ _ _ _ (p0)
theorem Qx (p0:(List Int)) (r:(List Int)) (hh:dM p0=some r):aW .clean tab aY FU Tryz.f196 none [.sl false false p0.length (ab (eI .i64) p0)]=some (.clean (.sl false false r.length (ab (eI .i64) r)),none):=by
 apply aA rfl Tryz.ntmps196 Tryz.results196
 unfold dM at hh
 try simp only[w,seval]
 obtain⟨o4,ho4,hh⟩:=ah hh
 refine ay (fun s t H e=>match s with|s3a=>t 0=.sl false false p0.length (ab (eI .i64) p0)∧t 3=.int .i64 s3a) (fun o x t H e=>match o with|s3ax=>x=.exit 0∧t 0=.sl false false p0.length (ab (eI .i64) p0)∧t 3=.int .i64 s3ax) ho4 ?_ ?_ ?_
 ·refine⟨?_,?_⟩
  all_goals first|rfl|(simp only[w,seval]<;>rfl)
 ·rintro s3a t H e Za c hh
  simp only[lU]at hh
  try simp only[w,seval,Za]
  apply sp cP hh<;>intro _ hh
  ·obtain⟨x6,hx6,hh⟩:=ah hh
   have ax6:=bs (eI .i64) hx6
   simp only[bN]at ax6
   try simp only[w,seval,Za,ax6]
   apply sp ak hh<;>intro _ hh
   ·cases hh
    try simp only[w,seval,Za]
    apply gV
    refine⟨?_,?_⟩
    all_goals first|rfl|(simp only[w,seval,Za]<;>rfl)
   ·cases hh
    try simp only[w,seval]
    apply jo
    refine⟨rfl,⟨?_,?_⟩⟩
    all_goals first|rfl|(simp only[w,seval,Za]<;>rfl)
  ·cases hh
   try simp only[w,seval]
   apply jo
   refine⟨rfl,⟨?_,?_⟩⟩
   all_goals first|rfl|(simp only[w,seval,Za]<;>rfl)
 ·rintro x t H e hx
  obtain⟨s3ax,rfl⟩:∃z,z=o4:=⟨_,rfl⟩
  dsimp only at hx hh
  obtain⟨rfl,Zax⟩:=hx
  obtain⟨x8,hx8,hh⟩:=ah hh
  obtain⟨q9a,q9b,q9c,q9d,q9e⟩:=Kk (eI .i64) hx8
  simp only[bN]at q9e
  cases hh
  try simp only[w,seval,Zax,q9a,q9c,q9d,q9e]
theorem mh:bP Tryz.prog 196 jN:=bP.of (mode := .clean) tok bA.none mixed Tryz.func196 (by kernel_rfl) ⟨by kernel_rfl,by kernel_rfl⟩ (fun _=>ahf (by kernel_rfl)) (fun x r h=>Qx x r h)
def qe:=mkE 3 (eI .i64) (as0) (fun (l:(List Int)) (x:Unit)=>dM l)
theorem Kf (pre post:List D) (p0:(List Int)):qe (some (.buf 0 0 1 pre.length p0.length,⟨0,3,pre++(ab (eI .i64) p0++post),false,true,false⟩)) []=(dM p0).map fun r=>(.fresh 3 1 r.length (ab (eI .i64) r),none):=ace _ _ _ _ pre post p0 ()
theorem JP (pre post:List D) (p0:(List Int)) (r:(List Int)) (hh:dM p0=some r):aW (.fresh 3 1) tab aY FU Tryz.f196 (some (.buf 0 0 1 pre.length p0.length,⟨0,3,pre++(ab (eI .i64) p0++post),false,true,false⟩)) []=some (.fresh 3 1 r.length (ab (eI .i64) r),none):=by
 apply EY rfl Tryz.ntmps196 Tryz.results196
 unfold dM at hh
 try simp only[w,seval]
 obtain⟨o4,ho4,hh⟩:=ah hh
 refine ay (fun s t H e=>match s with|s3a=>∃v0a:Nat,t 0=.buf 0 v0a 1 pre.length (p0).length∧t 3=.int .i64 s3a∧H 0=some ⟨v0a,3,pre++(ab (eI .i64) p0++post),false,true,false⟩) (fun o x t H e=>match o with|s3ax=>x=.exit 0∧∃v0ax:Nat,t 0=.buf 0 v0ax 1 pre.length (p0).length∧t 3=.int .i64 s3ax∧H 0=some ⟨v0ax,3,pre++(ab (eI .i64) p0++post),false,true,false⟩) ho4 ?_ ?_ ?_
 ·refine⟨0,?_,?_,?_⟩
  all_goals first|rfl|(simp only[w,seval]<;>rfl)
 ·rintro s3a t H e ⟨v0a,Za⟩ c hh
  simp only[lU]at hh
  try simp only[w,seval,Za]
  apply sp cP hh<;>intro _ hh
  ·obtain⟨x6,hx6,hh⟩:=ah hh
   have ax6:=MP (pre:=pre) (post:=post) (eI .i64) hx6
   simp only[bN]at ax6
   try simp only[w,seval,Za,ax6]
   apply sp ak hh<;>intro _ hh
   ·cases hh
    try simp only[w,seval,Za]
    apply gV
    refine⟨v0a,?_,?_,?_⟩
    all_goals first|rfl|(simp only[w,seval,Za]<;>rfl)
   ·cases hh
    try simp only[w,seval]
    apply jo
    refine⟨rfl,⟨v0a,?_,?_,?_⟩⟩
    all_goals first|rfl|(simp only[w,seval,Za]<;>rfl)
  ·cases hh
   try simp only[w,seval]
   apply jo
   refine⟨rfl,⟨v0a,?_,?_,?_⟩⟩
   all_goals first|rfl|(simp only[w,seval,Za]<;>rfl)
 ·rintro x t H e hx
  obtain⟨s3ax,rfl⟩:∃z,z=o4:=⟨_,rfl⟩
  dsimp only at hx hh
  obtain⟨rfl,⟨v0ax,Zax⟩⟩:=hx
  obtain⟨x8,hx8,hh⟩:=ah hh
  obtain⟨q9a,q9b,q9c,q9d,q9e⟩:=Kk (eI .i64) hx8
  simp only[bN]at q9e
  obtain⟨q9f,q9g⟩:=aaH (pre:=pre) (post:=post) (eI .i64) hx8
  simp only[bN]at q9f q9g
  cases hh
  try simp only[w,seval,Zax,q9a,q9c,q9f,q9g,q9d]
theorem FA:bP Tryz.prog 196 qe:=bP.adk tok bA.none mixed Tryz.func196 (by kernel_rfl) ⟨by kernel_rfl,by kernel_rfl⟩ (fun _=>ahf (by kernel_rfl)) (fun pre post l x r h=>JP pre post l r h)
def fQ:=fc (kp (aI .i64) (eQ (po (eI .i64)))) (fun x:Int×(List Int)=>cw x.1 x.2) (fun r:aj =>.clean (.agg [.int .i64 r.ae,.sl false false r.aa.length (ab (eI .i64) r.aa)]))
theorem dH (p0:Int) (p1:(List Int)):fQ none [.int .i64 p0,.sl false false p1.length (ab (eI .i64) p1)]=(cw p0 p1).map fun r:aj=>(.clean (.agg [.int .i64 r.ae,.sl false false r.aa.length (ab (eI .i64) r.aa)]),none):=aJ _ _ _ (p0,p1)
def mO:Env:=(Am.ext aY 196 false jN)
theorem Fg:bA Tryz.prog mO:=(bA.none.add mh false)
theorem rL:type_of% (ai @w<|ai @fa<|@mO.eq_1):=⟨@w,@fa,@mO.eq_1⟩
theorem JO (p0:Int) (p1:(List Int)) (r:aj) (hh:cw p0 p1=some r):aW .clean tab mO FU Tryz.f147 none [.int .i64 p0,.sl false false p1.length (ab (eI .i64) p1)]=some (.clean (.agg [.int .i64 r.ae,.sl false false r.aa.length (ab (eI .i64) r.aa)]),none):=by
 apply aA rfl Tryz.ntmps147 Tryz.results147
 unfold cw at hh
 obtain⟨r1,hr1,hh⟩:=ah hh
 try simp only[rL,seval,hr1]
 apply sp ak hh<;>intro _ hh
 ·cases hh
  try simp only[rL,seval]
 ·cases hh
  try simp only[rL,seval]
theorem hZ:bP Tryz.prog 147 fQ:=bP.of (mode := .clean) tok Fg mixed Tryz.func147 (by kernel_rfl) ⟨by kernel_rfl,by kernel_rfl⟩ (fun _=>ahf (by kernel_rfl)) (fun x r h=>JO x.1 x.2 r h)
def wR:=fc (eQ (aI .i64)) (fun x:Int=>pq x) (fun r:aj =>.clean (.agg [.int .i64 r.ae,.sl false false r.aa.length (ab (eI .i64) r.aa)]))
theorem xX (p0:Int):wR none [.int .i64 p0]=(pq p0).map fun r:aj=>(.clean (.agg [.int .i64 r.ae,.sl false false r.aa.length (ab (eI .i64) r.aa)]),none):=aJ _ _ _ (p0)
def xx:Env:=(Am.ext aY 147 false fQ)
theorem US:bA Tryz.prog xx:=(bA.none.add hZ false)
theorem fY:type_of% (ai @w<|ai @dH<|@xx.eq_1):=⟨@w,@dH,@xx.eq_1⟩
theorem XW (p0:Int) (r:aj) (hh:pq p0=some r):aW .clean tab xx FU Tryz.f109 none [.int .i64 p0]=some (.clean (.agg [.int .i64 r.ae,.sl false false r.aa.length (ab (eI .i64) r.aa)]),none):=by
 apply aA rfl Tryz.ntmps109 Tryz.results109
 unfold pq at hh
 try simp only[fY,seval,-Int.reduceToNat]
 obtain⟨o1,ho1,hh⟩:=ah hh
 refine jB 0 (fun s t H e=>match s with|(s3j1,s4j1)=>∃v2j1:Nat,t 2=.ptr 2 v2j1 0∧t 3=.int .i64 s3j1∧t 4=.int .u64 s4j1∧H 2=some ⟨v2j1,40,[.int .i64 0,.sl true true 0 []],false,false,false⟩) (fun s=>s=o1) ?_ ?_
 ·rintro⟨s3j1,s4j1⟩ t H e ⟨v2j1,Zj1⟩ rfl
  try dsimp only at hh
  try simp only[fY,seval,-Int.reduceToNat]
  obtain⟨o7,ho7,hh⟩:=ah hh
  refine ay (fun s t H e=>match s with|(s4b,l5b)=>∃v2b:Nat,∃v5b:Nat,t 2=.ptr 2 v2b 0∧t 3=.int .i64 s3j1∧t 4=.int .u64 s4b∧t 5=.buf 5 v5b 1 0 (l5b).length∧H 2=some ⟨v2b,40,[.int .i64 0,.sl true true 0 []],false,false,false⟩∧H 5=some ⟨v5b,3,ab (eI .i64) l5b,false,true,false⟩) (fun o x t H e=>match o with|l5bx=>x=.exit 0∧∃v2bx:Nat,∃v5bx:Nat,t 2=.ptr 2 v2bx 0∧t 3=.int .i64 s3j1∧t 5=.buf 5 v5bx 1 0 (l5bx).length∧H 2=some ⟨v2bx,40,[.int .i64 0,.sl true true 0 []],false,false,false⟩∧H 5=some ⟨v5bx,3,ab (eI .i64) l5bx,false,true,false⟩) ho7 ?_ ?_ ?_
  ·refine⟨v2j1,e,?_,?_,?_,?_,?_,?_⟩
   all_goals first|rfl|(simp only[fY,seval,-Int.reduceToNat,Zj1]<;>rfl)
  ·rintro⟨s4b,l5b⟩ t H e ⟨v2b,v5b,Zb⟩ c hh
   simp only[tY]at hh
   try simp only[fY,seval,-Int.reduceToNat,Zb]
   apply sp ak hh<;>intro _ hh
   ·obtain⟨x9,hx9,hh⟩:=ah hh
    obtain⟨q10a,q10b,q10c,q10d⟩:=gL (eI .i64) hx9
    simp only[bN]at q10b
    obtain⟨x11,hx11,hh⟩:=ah hh
    have q12:=va hx11
    cases hh
    try simp only[fY,seval,-Int.reduceToNat,Zb,q10a,q10b,q10c,q10d,q12]
    apply gV
    refine⟨v2b,e+1,?_,?_,?_,?_,?_,?_⟩
    all_goals first|rfl|(simp only[fY,seval,-Int.reduceToNat,Zb]<;>rfl)
   ·cases hh
    try simp only[fY,seval,-Int.reduceToNat]
    apply jo
    refine⟨rfl,⟨v2b,v5b,?_,?_,?_,?_,?_⟩⟩
    all_goals first|rfl|(simp only[fY,seval,-Int.reduceToNat,Zb]<;>rfl)
  ·rintro x t H e hx
   obtain⟨l5bx,rfl⟩:∃z,z=o7:=⟨_,rfl⟩
   dsimp only at hx hh
   obtain⟨rfl,⟨v2bx,v5bx,Zbx⟩⟩:=hx
   obtain⟨r13,hr13,hh⟩:=ah hh
   cases hh
   try simp only[fY,seval,-Int.reduceToNat,Zbx,hr13]
 ·clear hh
  have hh:=ho1
  try simp only[fY,seval,-Int.reduceToNat]
  apply sp ak hh<;>intro _ hh
  ·cases hh
   try simp only[fY,seval,-Int.reduceToNat]
   rw[an]
   refine⟨_,rfl,?_⟩
   refine⟨0,?_,?_,?_,?_⟩
   all_goals first|rfl|(simp only[fY,seval,-Int.reduceToNat]<;>rfl)
  ·cases hh
   try simp only[fY,seval,-Int.reduceToNat]
   rw[an]
   refine⟨_,rfl,?_⟩
   refine⟨0,?_,?_,?_,?_⟩
   all_goals first|rfl|(simp only[fY,seval,-Int.reduceToNat]<;>rfl)
theorem HT:bP Tryz.prog 109 wR:=bP.of (mode := .clean) tok US mixed Tryz.func109 (by kernel_rfl) ⟨by kernel_rfl,by kernel_rfl⟩ (fun _=>ahf (by kernel_rfl)) (fun x r h=>XW x r h)
def qg:=fc (eQ (aI .i64)) (fun x:Int=>jw x) (fun r:ao =>.clean (.agg [.int .i64 r.aZ.ae,.sl false false r.aZ.aa.length (ab (eI .i64) r.aZ.aa),.int .i64 r.aX.ae,.sl false false r.aX.aa.length (ab (eI .i64) r.aX.aa)]))
theorem rv (p0:Int):qg none [.int .i64 p0]=(jw p0).map fun r:ao=>(.clean (.agg [.int .i64 r.aZ.ae,.sl false false r.aZ.aa.length (ab (eI .i64) r.aZ.aa),.int .i64 r.aX.ae,.sl false false r.aX.aa.length (ab (eI .i64) r.aX.aa)]),none):=aJ _ _ _ (p0)
def qM:Env:=(Am.ext aY 109 false wR)
theorem Mp:bA Tryz.prog qM:=(bA.none.add HT false)
theorem RH:type_of% (ai @w<|ai @xX<|@qM.eq_1):=⟨@w,@xX,@qM.eq_1⟩
theorem Qz (p0:Int) (r:ao) (hh:jw p0=some r):aW .clean tab qM FU Tryz.f52 none [.int .i64 p0]=some (.clean (.agg [.int .i64 r.aZ.ae,.sl false false r.aZ.aa.length (ab (eI .i64) r.aZ.aa),.int .i64 r.aX.ae,.sl false false r.aX.aa.length (ab (eI .i64) r.aX.aa)]),none):=by
 apply aA rfl Tryz.ntmps52 Tryz.results52
 unfold jw at hh
 obtain⟨r1,hr1,hh⟩:=ah hh
 obtain⟨r2,hr2,hh⟩:=ah hh
 cases hh
 try simp only[RH,seval,hr1,hr2]
theorem As:bP Tryz.prog 52 qg:=bP.of (mode := .clean) tok Mp mixed Tryz.func52 (by kernel_rfl) ⟨by kernel_rfl,by kernel_rfl⟩ (fun _=>ahf (by kernel_rfl)) (fun x r h=>Qz x r h)
section
variable {P:Program} {T:Nat->Option Ty} {N F:Nat} {M:Nat->Prop} {L:ik} {w0:World} {blk:Nat->Option (Nat×Nat)} {t:Nat->D} {h:Nat->Option Row} {a:Act} {w:World} {e:Nat} {Γ:Env} {done:List Nat}
theorem Di (hI:qt N M L w0 blk e done t h a w):Holds N M L w0 ⟨t,h,e+1⟩ a w:=by
 refine⟨blk,hI.inv.weaken fun x v hx =>?_,fun x r ty s nv cs k1 k2 k3 k4 =>?_⟩
 ·rcases hx with⟨hn,hx|⟨hx,_⟩⟩|⟨hn,h2,h3,h4⟩
  ·exact .inl ⟨hn,.inl (by simp only;omega)⟩
  ·exact .inl ⟨hn,.inl (by simp only;omega)⟩
  ·exact .inr ⟨hn,by simp only;omega,fun _=>by simp only;omega,h4⟩
 ·have:=hI.nv x r ty s nv cs k1 k2 k3 k4
  exact⟨by simp only;omega,fun _=>by simp only;omega⟩
theorem Eu (hT:gm P T) (hΓ:bA P Γ) {ops l:List Oper} {K:(Nat->D)->(Nat->Option Row)->Prop} {Q:Exit->Act->World->Prop} (hI:qt N M L w0 blk e done t h a w) (hnd:(l.filterMap (·.dst)).Nodup) (hd:∀o∈l,∀d,o.dst=some d->d∉done)
  (hk:jl T Γ N F ops l [] (fun _ t h _=>K t h) t h e) (hQ:∀t' h' a' w',K t' h'->Holds N M L w0 ⟨t',h',e+1⟩ a' w'->Q .normal a' w'):wpList P ops.toArray Q l a w:=by
 obtain⟨t',h',fs,h1,h2⟩:=yn (T:=T) (Γ:=Γ) (N:=N) (e:=e) (ops:=ops.toArray) l t h hk
 exact wL hT hΓ h1 hnd hd hI fun a' w' blk' done' hI'=>hQ t' h' a' w' h2 (Di hI')
theorem XF (hT:gm P T) (hΓ:bA P Γ) {ops l:List Oper} {o:Oper} {K:(Nat->D)->(Nat->Option Row)->Prop} {Q:Exit->Act->World->Prop} (hI:qt N M L w0 blk e done t h a w) (hd:∀d,o.dst=some d->d∉done)
  (hk:jl T Γ N F ops [o] [] (fun _ t h _=>K t h) t h e) (hQ:∀t' h' a' w' blk',K t' h'->qt N M L w0 blk' e (o.dst.toList++done) t' h' a' w'->wpList P ops.toArray Q l a' w'):wpList P ops.toArray Q (o::l) a w:=by
 obtain⟨t',h',fs,h1,h2⟩:=yn (T:=T) (Γ:=Γ) (N:=N) (e:=e) (ops:=ops.toArray) [o] t h hk
 simp only[zg]at h1
 split at h1
 ·rename_i t1 hh1 f hs
  simp only[afE,Prod.mk.injEq]at h1
  obtain⟨rfl,rfl,_⟩:=h1
  unfold wpList
  exact Km hT hΓ hI hs hd fun a' w' blk' hI'=>hQ _ _ _ _ blk' h2 hI'
 ·cases h1
theorem w7 (hT:gm P T) (hΓ:bA P Γ) (hm:P.follows .mixedOrders=true) {c:Code} {K:Kt} {Q:Exit->Act->World->Prop} (hH:Holds N M L w0 ⟨t,h,e⟩ a w) (hok:codeOk c=true) (hk:cA T Γ N F [.code c] K .normal t h e)
  (hQ:∀x t' h' e' a' w',K x t' h' e'->Holds N M L w0 ⟨t',h',e'⟩ a' w'->Q (CY x) a' w'):c.wp P Q a w:=by
 obtain⟨x,s',h1,h2⟩:=KA c t h e K hk
 exact gJ hT hΓ hm c ⟨t,h,e⟩ x s' Q a w h1 hok hH fun a' w' hH'=>hQ x s'.t s'.h s'.e a' w' h2 hH'
theorem fS.maps {h':Nat->Option Row} (hh:∀x,h' x=h x∨∃v ty ks vs fz lst,h' x=some ⟨v,ty,[.mpc ks vs],fz,lst,true⟩):fS e h h':=by
 intro x r' ty' s' nv' cs' k1 k2 k3 k4
 rcases hh x with hx|⟨v,ty,ks,vs,fz,lst,hx⟩
 ·rw[hx]at k1
  exact⟨r',ty',s',nv',cs',k1,k2,k3,.inl rfl⟩
 ·rw[hx]at k1
  cases k1
  cases k3
theorem Xw {d:Nat} (hd:d<N) (hn:N<=PK) (h0:d∉done):gR N (VE N e done h) d e where
 no:=by
  rintro (⟨_,hx|⟨_,hx⟩⟩|⟨hx,_⟩)
  ·exact absurd hx (Nat.lt_irrefl _)
  ·exact h0 hx
  ·have:=bZ;omega
 lt:=hd
end
theorem map_eraseIdx {α β:Type} (f:α->β):∀(l:List α) (j:Nat),(l.map f).eraseIdx j=(l.eraseIdx j).map f
 | [],_=>rfl
 | a::l,0=>rfl
 | a::l,j+1=>by simp[map_eraseIdx f l j]
theorem xG {α:Type} : ∀m:List ((Int×Int)×α),di m=m.map fun q=>wP.k q.1
 | []=>rfl
 | (k,v)::m=>by simp[di,xG m]
theorem DE {α:Type} (A:Arg α):∀m:List ((Int×Int)×α),e8 A m=m.map fun q=>A.d q.2
 | []=>rfl
 | (k,v)::m=>by simp[e8,DE A m]
theorem Eb {α:Type} : ∀ {l:List α} {j:Nat} {q:α},l[j]? = some q->l.Perm (q::l.eraseIdx j)
 | [],_,_,h=>by simp at h
 | a::l,0,q,h=>by simp only[List.getElem?_cons_zero,afE]at h;subst h;exact ahx _
 | a::l,j+1,q,h=>by
  simp only[List.getElem?_cons_succ]at h
  exact ((Eb h).cons a).trans (List.Perm.swap q a _)
def sh (q:(Int×Int)×ao):bI:=bI.mk q.1.1 q.1.2 q.2
def ac3 (r:cz×Int) (t:Nat->D) (h:Nat->Option Row) (e:Nat):Prop:=∃(m:List ((Int×Int)×ao)) (ports:Int) (v21 v9 v2 nv:Nat),t 6=.mp 21 v21∧h 21=some ⟨v21,114,[.mpc (di m) (e8 (bL aB) m)],false,true,true⟩ ∧
 t 9=.ptr 9 v9 0∧h 9=some ⟨v9,28,[.nr 63 6 nv [.int .i64 ports,.nx 0 []]],false,false,true⟩∧t 2=.ptr 2 v2 0∧h 2=some ⟨v2,28,[.int .i64 0,.sl true true 0 []],false,false,false⟩∧nv<=4*e∧JZ ports m=some r
def BI:=mkW 63 aR (eQ (aFn 79)) (fun (l:List bI) (_:Unit)=>AO (jf bI.bT bI.gD) l) (fun _:Unit =>.clean (.tup []))
theorem Yy (pre post:List D) (p0:List bI):BI (some (.buf 0 0 6 pre.length p0.length,⟨0,63,pre++(ab aR p0++post),false,true,false⟩)) [.fn 79]=(AO (jf bI.bT bI.gD) p0).map fun r=>(.clean (.tup []),some ⟨0,63,pre++(ab aR r.1++post),false,true,false⟩):=X5 _ _ _ _ _ pre post p0 ()
theorem VF:bP Tryz.prog 78 BI:=J7 sT (fun x=>by rw[mL];rfl) (fun x=>by rw[mL];rfl) 63
def P7:Env:=(Am.vp 9 (63,6,1) (Am.ext aY 78 true BI))
theorem oS:bA Tryz.prog P7:=bA.vp (bA.none.add VF true) 9 (63,6,1)
theorem tH:type_of% (ai @w<|@P7.eq_1):=⟨@w,@P7.eq_1⟩
def RO (m:List ((Int×Int)×ao)) (ports:Int) (mr:List ((Int×Int)×ao)) (t:Nat->D) (h:Nat->Option Row) (e:Nat):Prop:=∃(ks:List bV) (vs:List D) (acc:List bI) (vI ty v9 v2 nv:Nat),
 t 44=.ptr 44 vI 0∧h 44=some ⟨vI,ty,[.mpc ks vs],false,true,true⟩∧900000<=ty∧ks.drop (ty-900000)=di mr∧vs.drop (ty-900000)=e8 (bL aB) mr ∧
 t 9=.ptr 9 v9 0∧h 9=some ⟨v9,28,[.nr 63 6 nv [.int .i64 ports,.nx acc.length (ab aR acc)]],false,false,true⟩∧t 2=.ptr 2 v2 0∧h 2=some ⟨v2,28,[.int .i64 0,.sl true true 0 []],false,false,false⟩∧nv<=4*e∧(acc++mr.map sh).Perm (m.map sh)
theorem aax {m:List ((Int×Int)×ao)} {ports:Int} (hc:m.length<=8000∧(m.map (·.1)).Nodup) {t:Nat->D} {h:Nat->Option Row} {e:Nat} {w0:World} {M:Nat->Prop} {a:Act} {w:World} (hJ:RO m ports [] t h e) (hH:Holds 65 M none w0 ⟨t,h,e⟩ a w) :
  (zm 0 (zm 5 (WB Tryz.f21))).wp Tryz.prog (bodyPost Tryz.prog Tryz.f21 fun e w'=>∃v,e=.returned v∧Below w0.heap.size w0 w'∧ss w0 w' M (fun _=>False) v (.clean (.tup [.agg [.int .i64 ports,.sl false false (nT (jf bI.bT bI.gD) (m.map sh)).length (ab aR (nT (jf bI.bT bI.gD) (m.map sh)))],.int .i64 0]))) a w:=by
 obtain⟨ks,vs,acc,vI,ty,v9,v2,nv,i1,i2,i3,i4,i5,i6,i7,i8,i9,i10,i11⟩:=hJ
 rw[agk,ahm]at i11
 have hkey:∀x∈acc,∀y∈acc,jf bI.bT bI.gD x y=0->x=y:=by
  intro x hx y hy h0
  obtain⟨p,hp,rfl⟩:=afu.1 (i11.mem_iff.1 hx)
  obtain⟨q,hq,rfl⟩:=afu.1 (i11.mem_iff.1 hy)
  obtain⟨k1,k2⟩:=Rj.1 h0
  have hk:p.1=q.1:=Prod.ext k1 k2
  have:p=q:=by
   obtain⟨i,hi,rfl⟩:=List.getElem_of_mem hp
   obtain⟨j,hj,rfl⟩:=List.getElem_of_mem hq
   have:=(List.getElem_inj (h₀:=by simpa using hi) (h₁:=by simpa using hj) hc.2).1 (by simpa using hk)
   subst this;rfl
  rw[this]
 have hiso:nT (jf bI.bT bI.gD) acc=nT (jf bI.bT bI.gD) (m.map sh):=by
  refine pB (((jU _ acc).trans i11).trans (jU _ _).symm) (fun x hx y hy h1 h2=>hkey x ((jU _ acc).mem_iff.1 hx) y ((jU _ acc).mem_iff.1 hy) ?_) (mV (tE _ _) _) (mV (tE _ _) _)
  have:=(tE bI.bT bI.gD).neg x y
  have:=(tE bI.bT bI.gD).neg y x
  omega
 have hlen:acc.length=m.length:=by rw[i11.length_eq,afZ]
 have hs:AO (jf bI.bT bI.gD) acc=some (nT (jf bI.bT bI.gD) (m.map sh),()):=by
  unfold AO
  rw[if_pos ⟨by omega,hkey⟩,hiso]
 have hsl:(nT (jf bI.bT bI.gD) (m.map sh)).length=acc.length:=by rw[nf,afZ,hlen]
 generalize nT (jf bI.bT bI.gD) (m.map sh)=srt at hs hsl ⊢
 have iq:=Yy [] [] acc
 simp only[List.nil_append,ahm,List.length_nil,bN]at iq
 refine (show (Code.seq (Code.region _ _ _) (Code.seq (Code.region _ _ _) Code.ret)).wp _ _ _ _ from ?_)
 refine w7 (F:=FU) tok oS mixed hH (by kernel_rfl) (K:=fun x t h e=>x=.ret∧eZ .clean tab none [.cell 2 28,.tmp 3] ⟨t,EH h,e⟩=some (.clean (.tup [.agg [.int .i64 ports,.sl false false srt.length (ab aR srt)],.int .i64 0]),none)) ?_ ?_
 ·simp only[tH,seval,i6,i7,i8,i9,iq,hs,hsl]
 ·rintro x t' h' e' a' w' ⟨rfl,hr⟩ hH'
  have hH'':Holds Tryz.f21.ntmps M none w0 ⟨t',h',e'⟩ a' w':=by rw[Tryz.ntmps21];exact hH'
  exact G2 tok hH'' (by rw[Tryz.results21];exact hr)
theorem Yc (r:cz×Int):KJ Tryz.prog Tryz.f21 (zm 5 (WB Tryz.f21)) (.clean (.tup [.agg [.int .i64 r.1.aC,.sl false false r.1.aw.length (ab aR r.1.aw)],.int .i64 r.2])) (ac3 r):=by
 intro w0 M s a w hJ hH
 obtain⟨t0,h0,e0⟩:=s
 obtain⟨m,ports,v21,v9,v2,nv,j1,j2,j3,j4,j5,j6,j7,hr⟩:=hJ
 dsimp only at j1 j2 j3 j4 j5 j6 j7
 unfold JZ at hr
 by_cases hc:m.length<=8000∧(m.map (·.1)).Nodup
 rotate_left
 ·rw[if_neg hc]at hr;cases hr
 rw[if_pos hc]at hr
 cases hr
 rw[Tryz.ntmps21]at hH
 apply wp_seq
 apply wp_seq
 obtain⟨blk,hI⟩:=hH
 apply wp_region_lit
 refine XF (F:=FU) tok oS hI (fun d _=>by simp) (K:=fun t h=>t=bz t0 43 (.mp 21 v21)∧h=h0) (by simp only[tH,seval,j1,j2]) ?_
 rintro t1 h1 a1 w1 blk1 ⟨rfl,rfl⟩ hI1
 refine yS rfl hI1 (by decide) (K:=fun t h=>t=bz (bz t0 43 (.mp 21 v21)) 44 (.ptr 44 e0 0)∧h=bz (bz h1 21 (some ⟨v21,114,[.mpc (di m) (e8 (bL aB) m)],true,true,true⟩)) 44 (some ⟨e0,900000,[.mpc (di m) (e8 (bL aB) m)],false,true,true⟩)) ?_ ?_
 ·refine dz.mono (PS tok hI1.inv (e:=e0) (ty:=114) (d:=44) (k:=117) (el:=42) (x:=21) (v:=v21) (v':=v21) (m := .tmp 43) rfl rfl (Xw (by decide) (by rw[bZ];decide) (by simp)) Tryz.underlying114 (by simp[ev,aq]) j2 (by decide) (by rw[bZ];decide) (by decide)) fun v w' hA=>⟨_,⟨rfl,rfl⟩,tX hI1 (fun d hd =>?_) (fS.maps fun x =>?_) hA⟩
  ·cases hd;exact⟨by simp,by decide⟩
  ·show bz (bz h1 21 _) 44 _ x=_∨_
   by_cases h44:x=44
   ·subst h44;rw[aq];exact .inr ⟨_,_,_,_,_,_,rfl⟩
   ·rw[au _ _ h44]
    by_cases h21:x=21
    ·subst h21;rw[aq];exact .inr ⟨_,_,_,_,_,_,rfl⟩
    ·rw[au _ _ h21];exact .inl rfl
 ·rintro t2 h2 a2 w2 blk2 ⟨rfl,rfl⟩ hI2
  have hH2:=Di hI2
  have hJ2:RO m ports m (bz (bz t0 43 (.mp 21 v21)) 44 (.ptr 44 e0 0)) (bz (bz h1 21 (some ⟨v21,114,[.mpc (di m) (e8 (bL aB) m)],true,true,true⟩)) 44 (some ⟨e0,900000,[.mpc (di m) (e8 (bL aB) m)],false,true,true⟩)) (e0+1) :=
   ⟨_,_,[],e0,900000,v9,v2,nv,aq _ _ _,aq _ _ _,afv _,by rw[agH,agX],by rw[agH,agX],by rw[au _ _ (by decide),au _ _ (by decide)];exact j3,by rw[au _ _ (by decide),au _ _ (by decide)];exact j4,by rw[au _ _ (by decide),au _ _ (by decide)];exact j5,by rw[au _ _ (by decide),au _ _ (by decide)];exact j6,by omega,ahx _⟩
  apply wp_block
  refine wp_loop_ghost (fun n a w=>∃(mr:List ((Int×Int)×ao)) (t:Nat->D) (h:Nat->Option Row) (e:Nat),mr.length=n∧RO m ports mr t h e∧Holds 65 M none w0 ⟨t,h,e⟩ a w) m.length ⟨m,_,_,_,rfl,hJ2,hH2⟩ ?_
  clear hJ2 hH2 hI2 hI1 hI j1 j2 j3 j4 j5 j6 j7
  rintro n a w ⟨mr,t,h,e,hn,⟨ks,vs,acc,vI,ty,v9,v2,nv,i1,i2,i3,i4,i5,i6,i7,i8,i9,i10,i11⟩,blk,hI⟩
  replace hI:qt 65 M none w0 blk e [] t h a w:=hI
  apply wp_seq
  apply wp_region_lit
  refine yS rfl hI (by decide) (K:=fun t' h'=>(mr=[]∧t'=bz t 45 (.tup [.bool false])∧h'=h)∨∃(k:Int×Int) (x:ao) (mr':List ((Int×Int)×ao)),(mr.map sh).Perm (sh (k,x)::mr'.map sh)∧mr.length=mr'.length+1 ∧
   t'=bz t 45 (.tup [.bool true,.agg [.int .i64 k.1,.int .i64 k.2],.agg [.int .i64 x.aZ.ae,.sl false false x.aZ.aa.length (ab (eI .i64) x.aZ.aa),.int .i64 x.aX.ae,.sl false false x.aX.aa.length (ab (eI .i64) x.aX.aa)]]) ∧
   h'=bz h 44 (some ⟨vI,900001,[.mpc (di ((k,x)::mr')) (e8 (bL aB) ((k,x)::mr'))],false,true,true⟩)) ?_ ?_
  ·refine dz.mono (UH hI.inv (e:=e) (y:=44) (p := .tmp 44) rfl (by simp[ev,i1]) i2 i3 (by rw[bZ];decide)) ?_
   rintro v w' (⟨q1,q2⟩|⟨j,k,x,q1,q2,q3⟩)
   ·rw[i4,xG]at q1
    have hmr:mr=[]:=List.map_eq_nil_iff.1 q1
    exact⟨_,.inl ⟨hmr,rfl,rfl⟩,tX hI (fun d hd=>by cases hd;exact⟨by simp,by decide⟩) (fS.maps fun x =>.inl rfl) q2⟩
   ·rw[i4,i5]at q3
    rw[i4]at q1
    rw[i5]at q2
    rw[xG]at q1 q3
    rw[DE]at q2 q3
    rw[afs]at q1 q2
    obtain⟨q,hq,rfl⟩:=aft.1 q1
    rw[hq]at q2
    cases q2
    rw[map_eraseIdx,map_eraseIdx,<- xG,<- DE]at q3
    have hp:=Eb hq
    refine⟨_,.inr ⟨q.1,q.2,mr.eraseIdx j,hp.map sh,hp.length_eq,rfl,rfl⟩,tX hI (fun d hd=>by cases hd;exact⟨by simp,by decide⟩) (fS.maps fun x =>?_) q3⟩
    show bz h 44 _ x=_∨_
    by_cases h44:x=44
    ·subst h44;rw[aq];exact .inr ⟨_,_,_,_,_,_,rfl⟩
    ·rw[au _ _ h44];exact .inl rfl
  ·rintro t' h' a' w' blk' (⟨rfl,rfl,rfl⟩|⟨k,x,mr',p1,p2,rfl,rfl⟩) hI'
   ·refine Eu (F:=FU) tok oS hI' (by decide) (by simp) (K:=fun t' h''=>t'=bz (bz t 45 (.tup [.bool false])) 46 (.bool false)∧h''=h') (by simp only[tH,seval]) ?_
    rintro t2 h2 a2 w2 ⟨rfl,rfl⟩ hH
    refine (show Code.wp _ (Code.seq (Code.cond _ Code.skip (Code.exit 2)) _) _ a2 w2 from ?_)
    refine w7 (F:=FU) tok oS mixed hH (by kernel_rfl) (K:=fun x t' h'' e'=>x=.exit 2∧t'=bz (bz t 45 (.tup [.bool false])) 46 (.bool false)∧h''=h2∧e'=e+1) (by simp only[tH,seval]) ?_
    rintro x t3 h3 e3 a3 w3 ⟨rfl,rfl,rfl,rfl⟩ hH3
    refine aax hc ⟨ks,vs,acc,vI,ty,v9,v2,nv,?_,i2,i3,i4,i5,?_,i7,?_,i9,by omega,i11⟩ hH3
    ·rw[au _ _ (by decide),au _ _ (by decide)];exact i1
    ·rw[au _ _ (by decide),au _ _ (by decide)];exact i6
    ·rw[au _ _ (by decide),au _ _ (by decide)];exact i8
   ·refine Eu (F:=FU) tok oS hI' (by decide) (by simp) (K:=fun t' h''=>t'=bz (bz t 45 (.tup [.bool true,.agg [.int .i64 k.1,.int .i64 k.2],.agg [.int .i64 x.aZ.ae,.sl false false x.aZ.aa.length (ab (eI .i64) x.aZ.aa),.int .i64 x.aX.ae,.sl false false x.aX.aa.length (ab (eI .i64) x.aX.aa)]])) 46 (.bool true)∧h''=bz h 44 (some ⟨vI,900001,[.mpc (di ((k,x)::mr')) (e8 (bL aB) ((k,x)::mr'))],false,true,true⟩)) (by simp only[tH,seval]) ?_
    rintro t2 h2 a2 w2 ⟨rfl,rfl⟩ hH
    refine (show Code.wp _ (Code.seq (Code.cond _ Code.skip (Code.exit 2)) (Code.block 3 (Code.seq (Code.region _ (List.toArray _) false) _))) _ a2 w2 from ?_)
    apply wp_seq
    have hF:∃t h,(t 44=.ptr 44 vI 0∧t 9=.ptr 9 v9 0∧t 2=.ptr 2 v2 0∧h 44=some ⟨vI,900001,[.mpc (di ((k,x)::mr')) (e8 (bL aB) ((k,x)::mr'))],false,true,true⟩∧h 9=some ⟨v9,28,[.nr 63 6 nv [.int .i64 ports,.nx acc.length (ab aR acc)]],false,false,true⟩∧h 2=some ⟨v2,28,[.int .i64 0,.sl true true 0 []],false,false,false⟩∧t 46=.bool true)∧Holds 65 M none w0 ⟨t,h,e+1⟩ a2 w2:=by
     refine⟨_,_,⟨?_,?_,?_,aq _ _ _,?_,?_,aq _ _ _⟩,hH⟩
     ·rw[au _ _ (by decide),au _ _ (by decide)];exact i1
     ·rw[au _ _ (by decide),au _ _ (by decide)];exact i6
     ·rw[au _ _ (by decide),au _ _ (by decide)];exact i8
     ·rw[au _ _ (by decide)];exact i7
     ·rw[au _ _ (by decide)];exact i9
    clear hH hI' hI i1 i2 i3 i4 i5 i6 i7 i8 i9
    clear h t
    obtain⟨t,h,⟨f1,f2,f3,f4,f5,f6,f7⟩,hH⟩:=hF
    refine w7 (F:=FU) tok oS mixed hH (by kernel_rfl) (K:=fun x t' h'' e'=>x=.normal∧t'=t∧h''=h∧e'=e+1) (by simp only[tH,seval,f7]) ?_
    rintro x' t3 h3 e3 a3 w3 ⟨rfl,rfl,rfl,rfl⟩ ⟨blk3,hI3⟩
    replace hI3:qt 65 M none w0 blk3 (e+1) [] t3 h3 a3 w3:=hI3
    refine (show Code.wp _ (Code.block 3 (Code.seq (Code.region _ (List.toArray _) false) _)) _ a3 w3 from ?_)
    apply wp_block
    apply wp_seq
    apply wp_region_lit
    refine yS rfl hI3 (by decide) (K:=fun t' h'=>t'=bz t3 47 (.tup [.agg [.int .i64 k.1,.int .i64 k.2],.agg [.int .i64 x.aZ.ae,.sl false false x.aZ.aa.length (ab (eI .i64) x.aZ.aa),.int .i64 x.aX.ae,.sl false false x.aX.aa.length (ab (eI .i64) x.aX.aa)]])∧h'=h3) ?_ ?_
    ·refine dz.mono (PO hI3.inv (e:=e+1) (y:=44) (p := .tmp 44) (k:=wP.k k) (x:=(bL aB).d x) (ks:=di mr') (vs:=e8 (bL aB) mr') rfl (by simp[ev,f1]) f4 (by rw[bZ];decide)) fun v w' hA=>⟨_,⟨rfl,rfl⟩,tX hI3 (fun d hd=>by cases hd;exact⟨by simp,by decide⟩) (fS.refl _ _) hA⟩
    ·rintro t4 h4 a4 w4 blk4 ⟨rfl,rfl⟩ hI4
     refine Eu (F:=FU) tok oS hI4 (by decide) (by simp) (K:=fun t' h'=>t' 44=.ptr 44 vI 0∧t' 9=.ptr 9 v9 0∧t' 2=.ptr 2 v2 0∧t' 10=.ptr 10 (e+1) 0∧t' 11=.ptr 11 (e+1) 0 ∧
      h' 44=some ⟨vI,900001,[.mpc (di ((k,x)::mr')) (e8 (bL aB) ((k,x)::mr'))],false,true,true⟩∧h' 9=some ⟨v9,28,[.nr 63 6 nv [.int .i64 ports,.nx acc.length (ab aR acc)]],false,false,true⟩∧h' 2=some ⟨v2,28,[.int .i64 0,.sl true true 0 []],false,false,false⟩ ∧
      h' 10=some ⟨e+1,117,[.int .i64 k.1,.int .i64 k.2],false,false,false⟩∧h' 11=some ⟨e+1,42,[.int .i64 x.aZ.ae,.sl false false x.aZ.aa.length (ab (eI .i64) x.aZ.aa),.int .i64 x.aX.ae,.sl false false x.aX.aa.length (ab (eI .i64) x.aX.aa)],false,false,false⟩) (by simp only[tH,seval,f1,f2,f3,f4,f5,f6]) ?_
     rintro t5 h5 a5 w5 ⟨g1,g2,g3,g4,g5,g6,g7,g8,g9,g10⟩ hH5
     have hal:acc.length+1+mr'.length=m.length:=by
      have:=i11.length_eq
      simp only[agF,afZ]at this
      omega
     have happ:lk 80 acc [sh (k,x)]=some (acc++[sh (k,x)]):=by
      unfold lk
      have:(17592186044416:Nat)<=maxLen:=by decide
      rw[if_pos ⟨by simp;omega,by simp;omega⟩]
     obtain⟨qa,qb,qc,qd⟩:=gL aR happ
     simp only[bN,sh]at qb
     have bp:bump nv (e+1+1)=some (4*(e+1+1)+1):=Br (by omega)
     refine (show Code.wp _ (Code.region _ (List.toArray _) false) _ a5 w5 from ?_)
     refine w7 (F:=FU) tok oS mixed hH5 (by kernel_rfl) (K:=fun x' t' h' e'=>x'=.normal∧e'=e+1+1+1∧t' 44=.ptr 44 vI 0∧t' 9=.ptr 9 v9 0∧t' 2=.ptr 2 v2 0 ∧
      h' 44=some ⟨vI,900001,[.mpc (di ((k,x)::mr')) (e8 (bL aB) ((k,x)::mr'))],false,true,true⟩∧h' 9=some ⟨v9,28,[.nr 63 6 (4*(e+1+1)+1) [.int .i64 ports,.nx (acc++[sh (k,x)]).length (ab aR (acc++[sh (k,x)]))]],false,false,true⟩∧h' 2=some ⟨v2,28,[.int .i64 0,.sl true true 0 []],false,false,false⟩)
      (by simp only[tH,seval,g1,g2,g3,g4,g5,g6,g7,g8,g9,g10,qa,qb,qc,qd,bp,sh];exact⟨qc,qd⟩) ?_
     rintro x' t6 h6 e6 a6 w6 ⟨rfl,rfl,l1,l2,l3,l4,l5,l6⟩ hH6
     refine (show ∃n',n'<n∧∃(mr:List ((Int×Int)×ao)) (t:Nat->D) (h:Nat->Option Row) (e:Nat),mr.length=n'∧RO m ports mr t h e∧Holds 65 M none w0 ⟨t,h,e⟩ a6 w6 from ?_)
     refine⟨mr'.length,by omega,mr',t6,h6,_,rfl,⟨_,_,_,vI,900001,v9,v2,_,l1,l4,by decide,?_,?_,l2,l5,l3,l6,by omega,?_⟩,hH6⟩
     ·rw[show 900001-900000=1 from agT (n:=900000) (m:=1)];rfl
     ·rw[show 900001-900000=1 from agT (n:=900000) (m:=1)];rfl
     ·rw[agR]
      exact (List.Perm.append_left acc p1.symm).trans i11
def eK:=fc (eQ (bL dw)) (fun x:aj=>ck x) (fun r:Bool =>.clean (.bool r))
theorem cc (p0_0:Int) (p0_1:(List Int)):eK none [.agg [.int .i64 p0_0,.sl false false p0_1.length (ab (eI .i64) p0_1)]]=(ck (aj.mk p0_0 p0_1)).map fun r:Bool=>(.clean (.bool r),none):=aJ _ _ _ ((aj.mk p0_0 p0_1))
theorem Nx (p0:aj) (r:Bool) (hh:ck p0=some r):aW .clean tab aY FU Tryz.f140 none [.agg [.int .i64 p0.ae,.sl false false p0.aa.length (ab (eI .i64) p0.aa)]]=some (.clean (.bool r),none):=by
 apply aA rfl Tryz.ntmps140 Tryz.results140
 unfold ck at hh
 try simp only[w,seval]
 obtain⟨o5,ho5,hh⟩:=ah hh
 refine ay (fun s t H e=>match s with|s12a=>∃v1a:Nat,t 1=.ptr 1 v1a 0∧t 3=.int .i64 (p0.aa.length:Int)∧t 10=.sl false false p0.aa.length (ab (eI .i64) p0.aa)∧t 11=.int .i64 (p0.aa.length:Int)∧t 12=.int .i64 s12a∧H 1=some ⟨v1a,40,[.int .i64 p0.ae,.sl false false p0.aa.length (ab (eI .i64) p0.aa)],false,false,false⟩) (fun o x t H e=>match o with|(.inl _)=>x=.exit 0∧∃v1ax:Nat,t 1=.ptr 1 v1ax 0∧t 3=.int .i64 (p0.aa.length:Int)∧H 1=some ⟨v1ax,40,[.int .i64 p0.ae,.sl false false p0.aa.length (ab (eI .i64) p0.aa)],false,false,false⟩|(.inr r)=>x=.ret∧eZ .clean tab none [.tmp 2] ⟨t,EH H,e⟩=some (.clean (.bool r),none)) ho5 ?_ ?_ ?_
 ·refine⟨0,?_,?_,?_,?_,?_,?_⟩
  all_goals first|rfl|(simp only[w,seval]<;>rfl)
 ·rintro s12a t H e ⟨v1a,Za⟩ c hh
  simp only[mH]at hh
  try simp only[w,seval,Za]
  apply sp ak hh<;>intro _ hh
  ·obtain⟨x7,hx7,hh⟩:=ah hh
   have ax7:=bs (eI .i64) hx7
   simp only[bN]at ax7
   try simp only[w,seval,Za,ax7]
   apply sp aO hh<;>intro _ hh
   ·cases hh
    try simp only[w,seval]
    refine rT ⟨rfl,?_⟩
    try simp only[w,seval]
   ·try simp only[w,seval]
    apply sp ak hh<;>intro _ hh
    ·cases hh
     try simp only[w,seval]
     refine rT ⟨rfl,?_⟩
     try simp only[w,seval]
    ·cases hh
     try simp only[w,seval,Za]
     apply gV
     refine⟨v1a,?_,?_,?_,?_,?_,?_⟩
     all_goals first|rfl|(simp only[w,seval,Za]<;>rfl)
  ·cases hh
   try simp only[w,seval]
   apply jo
   refine⟨rfl,⟨v1a,?_,?_,?_⟩⟩
   all_goals first|rfl|(simp only[w,seval,Za]<;>rfl)
 ·rintro x t H e hx
  rcases o5 with _|ra
  ·dsimp only at hx hh
   obtain⟨rfl,⟨v1ax,Zax⟩⟩:=hx
   try simp only[w,seval,Zax]
   apply sp ak hh<;>intro _ hh
   ·cases hh
    try simp only[w,seval,Zax]
   ·try simp only[w,seval,Zax]
    apply sp aO hh<;>intro _ hh
    ·obtain⟨x12,hx12,hh⟩:=ah hh
     have ax12:=bs (eI .i64) hx12
     simp only[bN]at ax12
     cases hh
     try simp only[w,seval,Zax,ax12]
    ·try simp only[w,seval,Zax]
     apply sp cP hh<;>intro _ hh
     ·obtain⟨x14,hx14,hh⟩:=ah hh
      have ax14:=bs (eI .i64) hx14
      simp only[bN]at ax14
      cases hh
      try simp only[w,seval,Zax,ax14]
     ·cases hh
      try simp only[w,seval]
  ·dsimp only at hx hh
   obtain⟨rfl,hE⟩:=hx
   cases hh
   try simp only[a7,bh,cr,cn]
   exact hE
theorem fm:bP Tryz.prog 140 eK:=bP.of (mode := .clean) tok bA.none mixed Tryz.func140 (by kernel_rfl) ⟨by kernel_rfl,by kernel_rfl⟩ (fun _=>ahf (by kernel_rfl)) (fun x r h=>Nx x r h)
def jq:=fc (kp ac6 (eQ (bL dw))) (fun x:Bool×aj=>dL x.1 x.2) (fun r:aj×Int =>.clean (.tup [.agg [.int .i64 r.1.ae,.sl false false r.1.aa.length (ab (eI .i64) r.1.aa)],.int .i64 r.2]))
theorem eJ (p0:Bool) (p1_0:Int) (p1_1:(List Int)):jq none [.bool p0,.agg [.int .i64 p1_0,.sl false false p1_1.length (ab (eI .i64) p1_1)]]=(dL p0 (aj.mk p1_0 p1_1)).map fun r:aj×Int=>(.clean (.tup [.agg [.int .i64 r.1.ae,.sl false false r.1.aa.length (ab (eI .i64) r.1.aa)],.int .i64 r.2]),none):=aJ _ _ _ (p0,(aj.mk p1_0 p1_1))
theorem Fp (p0:Bool) (p1:aj) (r:aj×Int) (hh:dL p0 p1=some r):aW .clean tab aY FU Tryz.f148 none [.bool p0,.agg [.int .i64 p1.ae,.sl false false p1.aa.length (ab (eI .i64) p1.aa)]]=some (.clean (.tup [.agg [.int .i64 r.1.ae,.sl false false r.1.aa.length (ab (eI .i64) r.1.aa)],.int .i64 r.2]),none):=by
 apply aA rfl Tryz.ntmps148 Tryz.results148
 unfold dL at hh
 try simp only[w,seval]
 apply sp ak hh<;>intro _ hh
 ·cases hh
  try simp only[w,seval]
 ·cases hh
  try simp only[w,seval]
theorem nZ:bP Tryz.prog 148 jq:=bP.of (mode := .clean) tok bA.none mixed Tryz.func148 (by kernel_rfl) ⟨by kernel_rfl,by kernel_rfl⟩ (fun _=>ahf (by kernel_rfl)) (fun x r h=>Fp x.1 x.2 r h)
theorem te (r:(List Int)) (hh:bG []=some r):aW (.fresh 3 1) tab aY FU Tryz.f106 none [.sl true true 0 []]=some (.fresh 3 1 r.length (ab (eI .i64) r),none):=by
 unfold bG at hh
 obtain⟨qa,qb,qc⟩:=Bp hh
 subst qa
 apply aA rfl Tryz.ntmps106 Tryz.results106
 simp only[w,seval,Nat.lt_irrefl]
theorem tf (r:(List Int)) (hh:bG []=some r):aW (.fresh 3 1) tab aY FU Tryz.f106 none [.sl true false 0 []]=some (.fresh 3 1 r.length (ab (eI .i64) r),none):=by
 unfold bG at hh
 obtain⟨qa,qb,qc⟩:=Bp hh
 subst qa
 apply aA rfl Tryz.ntmps106 Tryz.results106
 simp only[w,seval,Nat.lt_irrefl]
theorem th (p0 r:(List Int)) (hp:0<p0.length) (hh:bG p0=some r):aW (.fresh 3 1) tab aY FU Tryz.f106 none [.sl false false p0.length (ab (eI .i64) p0)]=some (.fresh 3 1 r.length (ab (eI .i64) r),none):=by
 unfold bG at hh
 have hz:¬p0.length=0:=by omega
 obtain⟨qa,qb,qc⟩:=Bp hh
 subst qa
 apply aA rfl Tryz.ntmps106 Tryz.results106
 simp only[w,seval,hp,qb,qc]
def ey:=fc (eQ (po (eI .i64))) (fun x:(List Int)=>bG x) (fun r:(List Int) =>.fresh 3 1 r.length (ab (eI .i64) r))
theorem da (p0:(List Int)):ey none [.sl false false p0.length (ab (eI .i64) p0)]=(bG p0).map fun r:(List Int)=>(.fresh 3 1 r.length (ab (eI .i64) r),none):=aJ _ _ _ p0
theorem gq:bP Tryz.prog 106 ey:=bP.adn (mode:=(.fresh 3 1)) tok bA.none mixed Tryz.func106 (by kernel_rfl) ⟨by kernel_rfl,by kernel_rfl⟩ (ahf (by kernel_rfl)) te tf th
def sn:=fc (eQ (aI .i64)) (fun x:Int=>ll x) (fun r:Bool =>.clean (.bool r))
theorem AB (p0:Int):sn none [.int .i64 p0]=(ll p0).map fun r:Bool=>(.clean (.bool r),none):=aJ _ _ _ (p0)
theorem Nz (p0:Int) (r:Bool) (hh:ll p0=some r):aW .clean tab aY FU Tryz.f190 none [.int .i64 p0]=some (.clean (.bool r),none):=by
 apply aA rfl Tryz.ntmps190 Tryz.results190
 unfold ll at hh
 cases hh
 try simp only[w,seval]
theorem J4:bP Tryz.prog 190 sn:=bP.of (mode := .clean) tok bA.none mixed Tryz.func190 (by kernel_rfl) ⟨by kernel_rfl,by kernel_rfl⟩ (fun _=>ahf (by kernel_rfl)) (fun x r h=>Nz x r h)
def js:=fc (kp (aI .i64) (eQ (aI .i64))) (fun x:Int×Int=>eN x.1 x.2) (fun r:Int =>.clean (.int .i64 r))
theorem ic (p0:Int) (p1:Int):js none [.int .i64 p0,.int .i64 p1]=(eN p0 p1).map fun r:Int=>(.clean (.int .i64 r),none):=aJ _ _ _ (p0,p1)
def lI:Env:=(Am.ext aY 190 false sn)
theorem C5:bA Tryz.prog lI:=(bA.none.add J4 false)
theorem dE:type_of% (ai @w<|ai @AB<|@lI.eq_1):=⟨@w,@AB,@lI.eq_1⟩
theorem Fs (p0:Int) (p1:Int) (r:Int) (hh:eN p0 p1=some r):aW .clean tab lI FU Tryz.f139 none [.int .i64 p0,.int .i64 p1]=some (.clean (.int .i64 r),none):=by
 apply aA rfl Tryz.ntmps139 Tryz.results139
 unfold eN at hh
 obtain⟨r1,hr1,hh⟩:=ah hh
 obtain⟨r2,hr2,hh⟩:=ah hh
 try simp only[dE,seval,hr1,hr2]
 apply sp ak hh<;>intro _ hh
 ·try simp only[dE,seval]
  apply sp ak hh<;>intro _ hh
  ·cases hh
   try simp only[dE,seval]
  ·cases hh
   try simp only[dE,seval]
 ·try simp only[dE,seval]
  apply sp ak hh<;>intro _ hh
  ·cases hh
   try simp only[dE,seval]
  ·try simp only[dE,seval]
   apply sp ak hh<;>intro _ hh
   ·cases hh
    try simp only[dE,seval]
   ·try simp only[dE,seval]
    apply sp ak hh<;>intro _ hh
    ·cases hh
     try simp only[dE,seval]
    ·cases hh
     try simp only[dE,seval]
theorem n9:bP Tryz.prog 139 js:=bP.of (mode := .clean) tok C5 mixed Tryz.func139 (by kernel_rfl) ⟨by kernel_rfl,by kernel_rfl⟩ (fun _=>ahf (by kernel_rfl)) (fun x r h=>Fs x.1 x.2 r h)
def jr:=fc (kp (po (eI .i64)) (eQ (po (eI .i64)))) (fun x:(List Int)×(List Int)=>eM x.1 x.2) (fun r:Int =>.clean (.int .i64 r))
theorem ib (p0:(List Int)) (p1:(List Int)):jr none [.sl false false p0.length (ab (eI .i64) p0),.sl false false p1.length (ab (eI .i64) p1)]=(eM p0 p1).map fun r:Int=>(.clean (.int .i64 r),none):=aJ _ _ _ (p0,p1)
def lH:Env:=(Am.ext aY 139 false js)
theorem C4:bA Tryz.prog lH:=(bA.none.add n9 false)
theorem ct:type_of% (ai @w<|ai @ic<|@lH.eq_1):=⟨@w,@ic,@lH.eq_1⟩
theorem Fq (p0:(List Int)) (p1:(List Int)) (r:Int) (hh:eM p0 p1=some r):aW .clean tab lH FU Tryz.f150 none [.sl false false p0.length (ab (eI .i64) p0),.sl false false p1.length (ab (eI .i64) p1)]=some (.clean (.int .i64 r),none):=by
 apply aA rfl Tryz.ntmps150 Tryz.results150
 unfold eM at hh
 try simp only[ct,seval]
 apply sp ak hh<;>intro _ hh
 ·obtain⟨r2,hr2,hh⟩:=ah hh
  cases hh
  try simp only[ct,seval,hr2]
 ·try simp only[ct,seval]
  obtain⟨o8,ho8,hh⟩:=ah hh
  refine ay (fun s t H e=>match s with|s5a=>t 0=.sl false false p0.length (ab (eI .i64) p0)∧t 1=.sl false false p1.length (ab (eI .i64) p1)∧t 5=.int .i64 s5a) (fun o x t H e=>match o with|(.inl _)=>x=.exit 0|(.inr r)=>x=.ret∧eZ .clean tab none [.tmp 4] ⟨t,EH H,e⟩=some (.clean (.int .i64 r),none)) ho8 ?_ ?_ ?_
  ·refine⟨?_,?_,?_⟩
   all_goals first|rfl|(simp only[ct,seval]<;>rfl)
  ·rintro s5a t H e Za c hh
   simp only[kB]at hh
   try simp only[ct,seval,Za]
   apply sp ak hh<;>intro _ hh
   ·obtain⟨x10,hx10,hh⟩:=ah hh
    have ax10:=bs (eI .i64) hx10
    simp only[bN]at ax10
    obtain⟨x11,hx11,hh⟩:=ah hh
    have ax11:=bs (eI .i64) hx11
    simp only[bN]at ax11
    try simp only[ct,seval,Za,ax10,ax11]
    refine bB (by kernel_rfl) ?_
    try simp only[ct,seval,Za,ax10,ax11]
    apply sp ak hh<;>intro _ hh
    ·have ax10:=bs (eI .i64) hx10
     simp only[bN]at ax10
     have ax11:=bs (eI .i64) hx11
     simp only[bN]at ax11
     obtain⟨r13,hr13,hh⟩:=ah hh
     try simp only[ct,seval,Za,ax10,ax11,hr13]
     refine bB (by kernel_rfl) ?_
     cases hh
     try simp only[ct,seval,Za,ax10,ax11,ax10,ax11,hr13]
     refine rT ⟨rfl,?_⟩
     try simp only[ct,seval]
    ·cases hh
     try simp only[ct,seval,Za]
     apply gV
     refine⟨?_,?_,?_⟩
     all_goals first|rfl|(simp only[ct,seval,Za]<;>rfl)
   ·cases hh
    try simp only[ct,seval]
    apply jo
    exact rfl
  ·rintro x t H e hx
   rcases o8 with _|ra
   ·dsimp only at hx hh
    subst hx
    cases hh
    try simp only[ct,seval]
   ·dsimp only at hx hh
    obtain⟨rfl,hE⟩:=hx
    cases hh
    try simp only[a7,bh,cr,cn]
    exact hE
theorem n5:bP Tryz.prog 150 jr:=bP.of (mode := .clean) tok C4 mixed Tryz.func150 (by kernel_rfl) ⟨by kernel_rfl,by kernel_rfl⟩ (fun _=>ahf (by kernel_rfl)) (fun x r h=>Fq x.1 x.2 r h)
def sk:=fc (kp (po (eI .i64)) (eQ (aI .i64))) (fun x:(List Int)×Int=>kb x.1 x.2) (fun r:(List Int)×Int =>.clean (.tup [.sl false false r.1.length (ab (eI .i64) r.1),.int .i64 r.2]))
theorem AA (p0:(List Int)) (p1:Int):sk none [.sl false false p0.length (ab (eI .i64) p0),.int .i64 p1]=(kb p0 p1).map fun r:(List Int)×Int=>(.clean (.tup [.sl false false r.1.length (ab (eI .i64) r.1),.int .i64 r.2]),none):=aJ _ _ _ (p0,p1)
def oI:Env:=(Am.ext aY 196 false jN)
theorem JC:bA Tryz.prog oI:=(bA.none.add mh false)
theorem gK:type_of% (ai @w<|ai @fa<|@oI.eq_1):=⟨@w,@fa,@oI.eq_1⟩
theorem Ny (p0:(List Int)) (p1:Int) (r:(List Int)×Int) (hh:kb p0 p1=some r):aW .clean tab oI FU Tryz.f215 none [.sl false false p0.length (ab (eI .i64) p0),.int .i64 p1]=some (.clean (.tup [.sl false false r.1.length (ab (eI .i64) r.1),.int .i64 r.2]),none):=by
 apply aA rfl Tryz.ntmps215 Tryz.results215
 unfold kb at hh
 obtain⟨x1,hx1,hh⟩:=ah hh
 obtain⟨q2a,q2b,q2c,q2d,q2e⟩:=mk_one (eI .i64) hx1
 simp only[bN]at q2d
 try simp only[gK,seval,-Int.reduceToNat,q2a,q2b,q2c,q2d,q2e]
 obtain⟨o13,ho13,hh⟩:=ah hh
 refine ay (fun s t H e=>match s with|(s7a,s8a,l6a)=>∃v6a:Nat,t 0=.sl false false p0.length (ab (eI .i64) p0)∧t 1=.int .i64 p1∧t 6=.buf 6 v6a 1 0 (l6a).length∧t 7=.int .i64 s7a∧t 8=.int .i64 s8a∧H 6=some ⟨v6a,3,ab (eI .i64) l6a,false,true,false⟩) (fun o x t H e=>match o with|(s7ax,l6ax)=>x=.exit 0∧∃v6ax:Nat,t 6=.buf 6 v6ax 1 0 (l6ax).length∧t 7=.int .i64 s7ax∧H 6=some ⟨v6ax,3,ab (eI .i64) l6ax,false,true,false⟩) ho13 ?_ ?_ ?_
 ·refine⟨1,?_,?_,?_,?_,?_,?_⟩
  all_goals first|rfl|(simp only[gK,seval,-Int.reduceToNat,q2a,q2b,q2c,q2d,q2e]<;>rfl)
 ·rintro⟨s7a,s8a,l6a⟩ t H e ⟨v6a,Za⟩ c hh
  simp only[mJ]at hh
  try simp only[gK,seval,-Int.reduceToNat,Za]
  apply sp ak hh<;>intro _ hh
  ·obtain⟨x15,hx15,hh⟩:=ah hh
   have q16:=BB hx15
   obtain⟨x17,hx17,hh⟩:=ah hh
   have ax17:=bs (eI .i64) hx17
   simp only[bN]at ax17
   obtain⟨x18,hx18,hh⟩:=ah hh
   have q19:=qK hx18
   obtain⟨x20,hx20,hh⟩:=ah hh
   have ax20:=bs (eI .i64) hx20
   simp only[bN]at ax20
   have p21:=eV (eI .i64) (x':=x18) (fo:=0) (cs:=[.int .i64 x18]) hx20 rfl (ahf rfl)
   simp only[bN,Nat.add_zero]at p21
   have up21:=p21
   simp only[putCells,List.length_cons,List.length_nil,agj]at up21
   obtain⟨x22,hx22,hh⟩:=ah hh
   have q23:=xJ hx22
   cases hh
   try simp only[gK,seval,-Int.reduceToNat,Za,q16,ax17,q19,ax20,up21,q23]
   apply gV
   refine⟨v6a,?_,?_,?_,?_,?_,?_⟩
   all_goals first|rfl|(simp only[gK,seval,-Int.reduceToNat,Za]<;>rfl)
  ·cases hh
   try simp only[gK,seval,-Int.reduceToNat]
   apply jo
   refine⟨rfl,⟨v6a,?_,?_,?_⟩⟩
   all_goals first|rfl|(simp only[gK,seval,-Int.reduceToNat,Za]<;>rfl)
 ·rintro x t H e hx
  rcases o13 with⟨s7ax,l6ax⟩
  dsimp only at hx hh
  obtain⟨rfl,⟨v6ax,Zax⟩⟩:=hx
  obtain⟨r24,hr24,hh⟩:=ah hh
  cases hh
  try simp only[gK,seval,-Int.reduceToNat,Zax,hr24]
theorem J3:bP Tryz.prog 215 sk:=bP.of (mode := .clean) tok JC mixed Tryz.func215 (by kernel_rfl) ⟨by kernel_rfl,by kernel_rfl⟩ (fun _=>ahf (by kernel_rfl)) (fun x r h=>Ny x.1 x.2 r h)
def tN:=fc (kp (po (eI .i64)) (eQ (po (eI .i64)))) (fun x:(List Int)×(List Int)=>mI x.1 x.2) (fun r:(List Int) =>.fresh 3 1 r.length (ab (eI .i64) r))
theorem nh (p0:(List Int)) (p1:(List Int)):tN none [.sl false false p0.length (ab (eI .i64) p0),.sl false false p1.length (ab (eI .i64) p1)]=(mI p0 p1).map fun r:(List Int)=>(.fresh 3 1 r.length (ab (eI .i64) r),none):=aJ _ _ _ (p0,p1)
def uz:Env:=(Am.ext aY 196 true qe)
theorem Qg:bA Tryz.prog uz:=(bA.none.add FA true)
theorem eD:type_of% (ai @w<|@uz.eq_1):=⟨@w,@uz.eq_1⟩
theorem Vj (p0:(List Int)) (p1:(List Int)) (r:(List Int)) (hh:mI p0 p1=some r):aW (.fresh 3 1) tab uz FU Tryz.f197 none [.sl false false p0.length (ab (eI .i64) p0),.sl false false p1.length (ab (eI .i64) p1)]=some (.fresh 3 1 r.length (ab (eI .i64) r),none):=by
 apply aA rfl Tryz.ntmps197 Tryz.results197
 unfold mI at hh
 obtain⟨x1,hx1,hh⟩:=ah hh
 obtain⟨q2a,q2b,q2c,q2d,q2e⟩:=mk_one (eI .i64) hx1
 simp only[bN]at q2d
 try simp only[eD,seval,-Int.reduceToNat,q2a,q2b,q2c,q2d,q2e]
 obtain⟨o20,ho20,hh⟩:=ah hh
 refine ay (fun s t H e=>match s with|(s20a,l5a)=>∃v5a:Nat,t 1=.sl false false p1.length (ab (eI .i64) p1)∧t 5=.buf 5 v5a 1 0 (l5a).length∧t 18=.sl false false p0.length (ab (eI .i64) p0)∧t 19=.int .i64 (p0.length:Int)∧t 20=.int .i64 s20a∧H 5=some ⟨v5a,3,ab (eI .i64) l5a,false,true,false⟩) (fun o x t H e=>match o with|l5ax=>x=.exit 0∧∃v5ax:Nat,t 5=.buf 5 v5ax 1 0 (l5ax).length∧H 5=some ⟨v5ax,3,ab (eI .i64) l5ax,false,true,false⟩) ho20 ?_ ?_ ?_
 ·refine⟨1,?_,?_,?_,?_,?_,?_⟩
  all_goals first|rfl|(simp only[eD,seval,-Int.reduceToNat,q2a,q2b,q2c,q2d,q2e]<;>rfl)
 ·rintro⟨s20a,l5a⟩ t H e ⟨v5a,Za⟩ c hh
  simp only[qF]at hh
  try simp only[eD,seval,-Int.reduceToNat,Za]
  apply sp ak hh<;>intro _ hh
  ·obtain⟨x22,hx22,hh⟩:=ah hh
   have ax22:=bs (eI .i64) hx22
   simp only[bN]at ax22
   try simp only[eD,seval,-Int.reduceToNat,Za,ax22]
   obtain⟨o29,ho29,hh⟩:=ah hh
   refine ay (fun s t H e=>match s with|(s8c,s27c,l5c)=>∃v5c:Nat,t 1=.sl false false p1.length (ab (eI .i64) p1)∧t 5=.buf 5 v5c 1 0 (l5c).length∧t 6=.int .i64 s20a∧t 7=.int .i64 x22∧t 8=.int .i64 s8c∧t 18=.sl false false p0.length (ab (eI .i64) p0)∧t 19=.int .i64 (p0.length:Int)∧t 20=.int .i64 s20a∧t 25=.sl false false p1.length (ab (eI .i64) p1)∧t 26=.int .i64 (p1.length:Int)∧t 27=.int .i64 s27c∧H 5=some ⟨v5c,3,ab (eI .i64) l5c,false,true,false⟩) (fun o x t H e=>match o with|(s8cx,l5cx)=>x=.exit 2∧∃v5cx:Nat,t 1=.sl false false p1.length (ab (eI .i64) p1)∧t 5=.buf 5 v5cx 1 0 (l5cx).length∧t 6=.int .i64 s20a∧t 8=.int .i64 s8cx∧t 18=.sl false false p0.length (ab (eI .i64) p0)∧t 19=.int .i64 (p0.length:Int)∧t 20=.int .i64 s20a∧H 5=some ⟨v5cx,3,ab (eI .i64) l5cx,false,true,false⟩) ho29 ?_ ?_ ?_
   ·refine⟨v5a,?_,?_,?_,?_,?_,?_,?_,?_,?_,?_,?_,?_⟩
    all_goals first|rfl|(simp only[eD,seval,-Int.reduceToNat,Za]<;>rfl)
   ·rintro⟨s8c,s27c,l5c⟩ t H e ⟨v5c,Zc⟩ c hh
    simp only[qG]at hh
    try simp only[eD,seval,-Int.reduceToNat,Zc]
    apply sp ak hh<;>intro _ hh
    ·obtain⟨x31,hx31,hh⟩:=ah hh
     have ax31:=bs (eI .i64) hx31
     simp only[bN]at ax31
     obtain⟨x32,hx32,hh⟩:=ah hh
     have ax32:=bs (eI .i64) hx32
     simp only[bN]at ax32
     obtain⟨x33,hx33,hh⟩:=ah hh
     have q34:=va hx33
     have ax32:=bs (eI .i64) hx32
     simp only[bN]at ax32
     have p35:=eV (eI .i64) (x':=jh .and .i64 (IntKind.i64.wrap ((IntKind.i64.wrap (x32+(IntKind.i64.wrap (x22*x31))))+s8c)) 1048575) (fo:=0) (cs:=[.int .i64 (jh .and .i64 (IntKind.i64.wrap ((IntKind.i64.wrap (x32+(IntKind.i64.wrap (x22*x31))))+s8c)) 1048575)]) hx32 rfl (ahf rfl)
     simp only[bN,Nat.add_zero]at p35
     have up35:=p35
     simp only[putCells,List.length_cons,List.length_nil,agj]at up35
     cases hh
     try simp only[eD,seval,-Int.reduceToNat,Zc,ax31,q34,ax32,up35]
     apply gV
     refine⟨v5c,?_,?_,?_,?_,?_,?_,?_,?_,?_,?_,?_,?_⟩
     all_goals first|rfl|(simp only[eD,seval,-Int.reduceToNat,Zc]<;>rfl)
    ·cases hh
     try simp only[eD,seval,-Int.reduceToNat]
     apply jo
     refine⟨rfl,⟨v5c,?_,?_,?_,?_,?_,?_,?_,?_⟩⟩
     all_goals first|rfl|(simp only[eD,seval,-Int.reduceToNat,Zc]<;>rfl)
   ·rintro x t H e hx
    rcases o29 with⟨s8cx,l5cx⟩
    dsimp only at hx hh
    obtain⟨rfl,⟨v5cx,Zcx⟩⟩:=hx
    obtain⟨x36,hx36,hh⟩:=ah hh
    have ax36:=bs (eI .i64) hx36
    simp only[bN]at ax36
    have ax36:=bs (eI .i64) hx36
    simp only[bN]at ax36
    have p37:=eV (eI .i64) (x':=IntKind.i64.wrap (x36+s8cx)) (fo:=0) (cs:=[.int .i64 (IntKind.i64.wrap (x36+s8cx))]) hx36 rfl (ahf rfl)
    simp only[bN,Nat.add_zero]at p37
    have up37:=p37
    simp only[putCells,List.length_cons,List.length_nil,agj]at up37
    cases hh
    try simp only[eD,seval,-Int.reduceToNat,Zcx,ax36,up37]
    apply gV
    refine⟨v5cx,?_,?_,?_,?_,?_,?_⟩
    all_goals first|rfl|(simp only[eD,seval,-Int.reduceToNat,Zcx]<;>rfl)
  ·cases hh
   try simp only[eD,seval,-Int.reduceToNat]
   apply jo
   refine⟨rfl,⟨v5a,?_,?_⟩⟩
   all_goals first|rfl|(simp only[eD,seval,-Int.reduceToNat,Za]<;>rfl)
 ·rintro x t H e hx
  obtain⟨l5ax,rfl⟩:∃z,z=o20:=⟨_,rfl⟩
  dsimp only at hx hh
  obtain⟨rfl,⟨v5ax,Zax⟩⟩:=hx
  have i38:=Kf [] [] l5ax
  try simp only[List.nil_append,ahm,List.length_nil]at i38
  obtain⟨r39,hr39,hh⟩:=ah hh
  cases hh
  try simp only[eD,seval,-Int.reduceToNat,Zax,i38,hr39]
theorem DX:bP Tryz.prog 197 tN:=bP.of (mode:=(.fresh 3 1)) tok Qg mixed Tryz.func197 (by kernel_rfl) ⟨by kernel_rfl,by kernel_rfl⟩ (fun _=>ahf (by kernel_rfl)) (fun x r h=>Vj x.1 x.2 r h)
def ns:=mkW 3 (eI .i64) (kp (po (eI .i64)) (eQ (aI .i64))) (fun (l:(List Int)) (x:(List Int)×Int)=>fk l x.1 x.2) (fun r:Int =>.clean (.int .i64 r))
theorem Eh (pre post:List D) (p0:(List Int)) (p1:(List Int)) (p2:Int):ns (some (.buf 0 0 1 pre.length p0.length,⟨0,3,pre++(ab (eI .i64) p0++post),false,true,false⟩)) [.sl false false p1.length (ab (eI .i64) p1),.int .i64 p2]=(fk p0 p1 p2).map fun r=>(.clean (.int .i64 r.2),some ⟨0,3,pre++(ab (eI .i64) r.1++post),false,true,false⟩):=X5 _ _ _ _ _ pre post p0 (p1,p2)
theorem Dy (pre post:List D) (p0:(List Int)) (p1:(List Int)) (p2:Int) (r:(List Int)×(Int)) (hh:fk p0 p1 p2=some r):aW .clean tab aY FU Tryz.f216 (some (.buf 0 0 1 pre.length p0.length,⟨0,3,pre++(ab (eI .i64) p0++post),false,true,false⟩)) [.sl false false p1.length (ab (eI .i64) p1),.int .i64 p2]=some (.clean (.int .i64 r.2),some ⟨0,3,pre++(ab (eI .i64) r.1++post),false,true,false⟩):=by
 apply EY rfl Tryz.ntmps216 Tryz.results216
 unfold fk at hh
 obtain⟨rw,hrw,hh⟩:=ah hh
 split at hh
 rotate_left
 ·cases hh
 cases hh
 rename_i hlen
 replace hh:=hrw
 unfold nE at hh
 try simp only[w,seval,-Int.reduceToNat]
 obtain⟨o9,ho9,hh⟩:=ah hh
 refine ay (fun s t H e=>match s with|(s7a,s14a,l0a)=>t 0=.buf 0 0 1 pre.length (l0a).length∧t 1=.sl false false p1.length (ab (eI .i64) p1)∧t 2=.int .i64 p2∧t 7=.int .i64 s7a∧t 13=.int .i64 ((p0).length:Int)∧t 14=.int .i64 s14a∧H 0=some ⟨0,3,pre++(ab (eI .i64) l0a++post),false,true,false⟩) (fun o x t H e=>match o with|(s7ax,l0ax)=>x=.exit 0∧t 0=.buf 0 0 1 pre.length (l0ax).length∧t 1=.sl false false p1.length (ab (eI .i64) p1)∧t 2=.int .i64 p2∧t 7=.int .i64 s7ax∧H 0=some ⟨0,3,pre++(ab (eI .i64) l0ax++post),false,true,false⟩) ho9 ?_ ?_ ?_
 ·refine⟨?_,?_,?_,?_,?_,?_,?_⟩
  all_goals first|rfl|(simp only[w,seval,-Int.reduceToNat]<;>rfl)
 ·rintro⟨s7a,s14a,l0a⟩ t H e Za c hh
  simp only[jC]at hh
  try simp only[w,seval,-Int.reduceToNat,Za]
  apply sp ak hh<;>intro _ hh
  ·obtain⟨x11,hx11,hh⟩:=ah hh
   have ax11:=MP (pre:=pre) (post:=post) (eI .i64) hx11
   simp only[bN]at ax11
   try simp only[w,seval,-Int.reduceToNat,Za,ax11]
   obtain⟨o12,ho12,hh⟩:=ah hh
   refine jB 0 (fun s t H e=>match s with|s9j3=>t 0=.buf 0 0 1 pre.length (l0a).length∧t 1=.sl false false p1.length (ab (eI .i64) p1)∧t 2=.int .i64 p2∧t 8=.int .i64 s14a∧t 9=.int .i64 s9j3∧t 13=.int .i64 ((p0).length:Int)∧t 14=.int .i64 s14a∧H 0=some ⟨0,3,pre++(ab (eI .i64) l0a++post),false,true,false⟩) (fun s=>s=o12) ?_ ?_
   ·rintro s9j3 t H e Zj3 rfl
    try dsimp only at hh
    have ax11:=MP (pre:=pre) (post:=post) (eI .i64) hx11
    simp only[bN]at ax11
    have p13:=OA (pre:=pre) (post:=post) (eI .i64) (y':=jh .and .i64 s9j3 1048575) hx11
    simp only[bN]at p13
    have up13:=p13
    simp only[putCells,List.length_cons,List.length_nil,agj]at up13
    obtain⟨x14,hx14,hh⟩:=ah hh
    have q15:=va hx14
    cases hh
    try simp only[w,seval,-Int.reduceToNat,Zj3,ax11,up13,q15]
    apply gV
    refine⟨?_,?_,?_,?_,?_,?_,?_⟩
    all_goals first|rfl|(simp only[w,seval,-Int.reduceToNat,Zj3]<;>rfl)
   ·clear hh
    have hh:=ho12
    try simp only[w,seval,-Int.reduceToNat]
    apply sp ak hh<;>intro _ hh
    ·obtain⟨x17,hx17,hh⟩:=ah hh
     have ax17:=bs (eI .i64) hx17
     simp only[bN]at ax17
     cases hh
     try simp only[w,seval,-Int.reduceToNat,Za,ax11,ax17]
     rw[an]
     refine⟨_,rfl,?_⟩
     refine⟨?_,?_,?_,?_,?_,?_,?_,?_⟩
     all_goals first|rfl|(simp only[w,seval,-Int.reduceToNat,Za]<;>rfl)
    ·cases hh
     try simp only[w,seval,-Int.reduceToNat]
     rw[an]
     refine⟨_,rfl,?_⟩
     refine⟨?_,?_,?_,?_,?_,?_,?_,?_⟩
     all_goals first|rfl|(simp only[w,seval,-Int.reduceToNat,Za]<;>rfl)
  ·cases hh
   try simp only[w,seval,-Int.reduceToNat]
   apply jo
   refine⟨rfl,⟨?_,?_,?_,?_,?_⟩⟩
   all_goals first|rfl|(simp only[w,seval,-Int.reduceToNat,Za]<;>rfl)
 ·rintro x t H e hx
  rcases o9 with⟨s7ax,l0ax⟩
  dsimp only at hx hh
  obtain⟨rfl,Zax⟩:=hx
  try simp only[w,seval,-Int.reduceToNat,Zax]
  apply sp ak hh<;>intro _ hh
  ·cases hh
   try simp only[w,seval,-Int.reduceToNat,Zax]
  ·try simp only[w,seval,-Int.reduceToNat,Zax]
   obtain⟨o27,ho27,hh⟩:=ah hh
   refine ay (fun s t H e=>match s with|(s10d,s49d,l0d)=>t 0=.buf 0 0 1 pre.length (l0d).length∧t 1=.sl false false p1.length (ab (eI .i64) p1)∧t 2=.int .i64 p2∧t 10=.int .i64 s10d∧t 48=.int .i64 ((l0ax).length:Int)∧t 49=.int .i64 s49d∧H 0=some ⟨0,3,pre++(ab (eI .i64) l0d++post),false,true,false⟩) (fun o x t H e=>match o with|l0dx=>x=.exit 2∧t 0=.buf 0 0 1 pre.length (l0dx).length∧t 2=.int .i64 p2∧H 0=some ⟨0,3,pre++(ab (eI .i64) l0dx++post),false,true,false⟩) ho27 ?_ ?_ ?_
   ·refine⟨?_,?_,?_,?_,?_,?_,?_⟩
    all_goals first|rfl|(simp only[w,seval,-Int.reduceToNat,Zax]<;>rfl)
   ·rintro⟨s10d,s49d,l0d⟩ t H e Zd c hh
    simp only[jD]at hh
    try simp only[w,seval,-Int.reduceToNat,Zd]
    apply sp ak hh<;>intro _ hh
    ·obtain⟨x29,hx29,hh⟩:=ah hh
     have ax29:=MP (pre:=pre) (post:=post) (eI .i64) hx29
     simp only[bN]at ax29
     try simp only[w,seval,-Int.reduceToNat,Zd,ax29]
     obtain⟨o30,ho30,hh⟩:=ah hh
     refine jB 0 (fun s t H e=>match s with|s10j6=>t 0=.buf 0 0 1 pre.length (l0d).length∧t 1=.sl false false p1.length (ab (eI .i64) p1)∧t 2=.int .i64 p2∧t 10=.int .i64 s10j6∧t 11=.int .i64 s49d∧t 48=.int .i64 ((l0ax).length:Int)∧t 49=.int .i64 s49d∧H 0=some ⟨0,3,pre++(ab (eI .i64) l0d++post),false,true,false⟩) (fun s=>s=o30) ?_ ?_
     ·rintro s10j6 t H e Zj6 rfl
      try dsimp only at hh
      have ax29:=MP (pre:=pre) (post:=post) (eI .i64) hx29
      simp only[bN]at ax29
      have p31:=OA (pre:=pre) (post:=post) (eI .i64) (y':=jh .and .i64 s10j6 1048575) hx29
      simp only[bN]at p31
      have up31:=p31
      simp only[putCells,List.length_cons,List.length_nil,agj]at up31
      obtain⟨x32,hx32,hh⟩:=ah hh
      have q33:=va hx32
      cases hh
      try simp only[w,seval,-Int.reduceToNat,Zj6,ax29,up31,q33]
      apply gV
      refine⟨?_,?_,?_,?_,?_,?_,?_⟩
      all_goals first|rfl|(simp only[w,seval,-Int.reduceToNat,Zj6]<;>rfl)
     ·clear hh
      have hh:=ho30
      try simp only[w,seval,-Int.reduceToNat]
      apply sp ak hh<;>intro _ hh
      ·obtain⟨x35,hx35,hh⟩:=ah hh
       have ax35:=bs (eI .i64) hx35
       simp only[bN]at ax35
       cases hh
       try simp only[w,seval,-Int.reduceToNat,Zd,ax29,ax35]
       rw[an]
       refine⟨_,rfl,?_⟩
       refine⟨?_,?_,?_,?_,?_,?_,?_,?_⟩
       all_goals first|rfl|(simp only[w,seval,-Int.reduceToNat,Zd]<;>rfl)
      ·cases hh
       try simp only[w,seval,-Int.reduceToNat]
       rw[an]
       refine⟨_,rfl,?_⟩
       refine⟨?_,?_,?_,?_,?_,?_,?_,?_⟩
       all_goals first|rfl|(simp only[w,seval,-Int.reduceToNat,Zd]<;>rfl)
    ·cases hh
     try simp only[w,seval,-Int.reduceToNat]
     apply jo
     refine⟨rfl,⟨?_,?_,?_⟩⟩
     all_goals first|rfl|(simp only[w,seval,-Int.reduceToNat,Zd]<;>rfl)
   ·rintro x t H e hx
    obtain⟨l0dx,rfl⟩:∃z,z=o27:=⟨_,rfl⟩
    dsimp only at hx hh
    obtain⟨rfl,Zdx⟩:=hx
    cases hh
    try simp only[w,seval,-Int.reduceToNat,Zdx]
theorem Bc:bP Tryz.prog 216 ns:=bP.adl (mode := .clean) tok bA.none mixed Tryz.func216 (by kernel_rfl) ⟨by kernel_rfl,by kernel_rfl⟩ (fun _=>ahf (by kernel_rfl)) (fun pre post l x l' r h=>Dy pre post l x.1 x.2 (l',r) h)
def tM:=fc (kp (po (eI .i64)) (eQ (po (eI .i64)))) (fun x:(List Int)×(List Int)=>oD x.1 x.2) (fun r:(List Int)×(List Int) =>.clean (.tup [.sl false false r.1.length (ab (eI .i64) r.1),.sl false false r.2.length (ab (eI .i64) r.2)]))
theorem uQ (p0:(List Int)) (p1:(List Int)):tM none [.sl false false p0.length (ab (eI .i64) p0),.sl false false p1.length (ab (eI .i64) p1)]=(oD p0 p1).map fun r:(List Int)×(List Int)=>(.clean (.tup [.sl false false r.1.length (ab (eI .i64) r.1),.sl false false r.2.length (ab (eI .i64) r.2)]),none):=aJ _ _ _ (p0,p1)
end Go.Proofs.YtmcncjgbkobjnaaGreat.Am
