import Derived.Test.YtobnihfgnbnncaaGreatLb
set_option linter.unusedSimpArgs false
set_option linter.unusedVariables false
set_option linter.defProp false
noncomputable section
open Go.Proofs.Tryz
namespace Go.Proofs.YtobnihfgnbnncaaGreat.Am
open Go.RowKit
structure nQ where
 tc:List Nat
 q:Bool
def Ac(ops:Array Oper)(t:Nat->D)(o:Oper):Option Bool :=
 match o.guard with
 | none=>some true
 | some (j,a) =>
  match (ops[j]?).bind (·.dst) with
  | some g=>match t g with | .bool b=>some (b==a) | .skp=>some false|_=>none
  | none=>none
def gq(t:Nat->D)(dst:Option Nat)(d:D):Nat->D :=
 match dst with
 | none=>t
 | some i=>cq t i d
def fits(N:Nat)(dst:Option Nat):Bool :=
 match dst with
 | none=>true
 | some i=>decide (i<N)
def step1(T:Nat->Option Ty)(Γ:Env)(N e:Nat)(ops:Array Oper)(o:Oper)(t:Nat->D)(h:Nat->Option Row):Option ((Nat->D)×(Nat->Option Row)×nQ) :=
 if fits N o.dst then
  match Ac ops t o with
  | some true =>
   match tE T Γ e o (ev t) h with
   | some E=>some (gq t o.dst E.val,aW h E.hw,⟨dn o (ev t),E.hw.isEmpty⟩)
   | none=>none
  | some false=>some (gq t o.dst .skp,h,⟨[],true⟩)
  | none=>none
 else none
section
variable {P:Program} {T:Nat->Option Ty} {N:Nat} {M:Nat->Prop} {L:mc} {w0:World} {blk:Nat->Option (Nat×Nat)} {t:Nat->D} {h:Nat->Option Row} {a:Act} {w:World} {e:Nat} {o:Oper} {Γ:Env} {ops:Array Oper}
def DL{V:Nat->Nat->Prop}(l:Inv N M L w0 blk V t h a w){b:Bool}(c:Ac ops t o=some b):Region.wanted o (yielded ops a.tmps)=b:=by
 unfold Ac at c;split at c
 ·grind[Region.wanted,Option.some.injEq]
 ·rename_i j m q;split at c
  ·rename_i g i;split at c
   ·rename_i p k;simp only[anf]at c;subst c;have e:=l.slots g;rw[k]at e;have d:=A4 e;have n:a.tmps[g]? = some (.bool p):=by
     simp only[ana]at d;cases f:a.tmps[g]? with
     | none=>rw[f]at d;cases d
     | some v=>simp_all
    grind[yielded,Region.wanted]
   ·rename_i k;simp only[anf]at c;subst c;have e:=l.slots g;rw[k]at e;have d:a.tmps.getD g undef=undef:=e;have r:yielded ops a.tmps j=none:=by
     unfold yielded;rw[i];simp only[ana]at d;cases f:a.tmps[g]? with
     | none=>simp_all
     | some v=>rw[f]at d;simp only[Option.getD_some]at d;subst d;simp only[Option.bind_some,f];rfl
    grind[Region.wanted]
   ·cases c
  ·cases c
def Inv.ajd{V:Nat->Nat->Prop}(b:Inv N M L w0 blk V t h a w)(c:fits N o.dst=true){d:D}{v:Value}(e:RT w (Own M h blk) h blk V d v):Inv N M L w0 blk V (gq t o.dst d) h (a.put o.dst v) w:=by
 cases f:o.dst with
 | none=>simpa [gq,Act.put] using b
 | some i =>
  rw[f]at c;exact b.put (by simpa [fits] using c) e
def Qr(y:km P T)(z:bN P Γ){done:List Nat}{p:Nat->D}{q:Nat->Option Row}{f:nQ}{K:Act->World->Prop}{Q:Exit->Act->World->Prop}(i:xE N M L w0 blk e done t h a w)
  (b:step1 T Γ N e ops o t h=some (p,q,f)) (A:∀d,o.dst=some d->d∉done) (r:∀s k c,xE N M L w0 c e (o.dst.toList++done) p q s k->K s k) :
  if Region.wanted o (yielded ops a.tmps) then o.wp P a w K Q∨(o.asks P a w∧LetsOut Q) else K (a.put o.dst undef) w:=by
 unfold step1 at b;split at b
 ·rename_i u;split at b
  ·rename_i l;rw[DL i.inv l];simp only[if_true];split at b
   ·rename_i E B;simp only[anf,Prod.mk.injEq]at b;obtain⟨rfl,rfl,_⟩:=b;have:=V2 y z i (fun d m=>⟨A d m,by grind[fits]⟩) B;refine .inl (this.wp fun v k C =>?_);obtain⟨c,j,F⟩:=C;exact r _ _ c ⟨j.inv.ajd u F,j.nv⟩
   ·cases b
  ·rename_i l;rw[DL i.inv l];simp only[anD,if_false];simp only[anf,Prod.mk.injEq]at b;obtain⟨rfl,rfl,_⟩:=b;have g:∀x,x∈done->x∈o.dst.toList++done:=fun x hx=>anl _ hx;exact r _ _ blk ⟨(i.inv.ajd u (d:=.skp) (v:=undef) rfl).weaken fun x n hx=>hx.step (.refl e h) g,i.nv.step (.refl e h) g⟩
  ·cases b
 ·cases b
theorem pW{x:Nat}:∀{l:List (Nat×Option Row)}{h:Nat->Option Row},(∀p∈l,p.1≠x)->aW h l x=h x
 | [],_,_=>rfl
 | (y,r)::l,h,hn=>by
  simp only[aW];rw[pW (fun p a=>hn p (by simp[a]))];exact aG _ _ (fun e=>hn (y,r) (by simp) e.symm)
theorem L4{x:Nat}:∀{l:List (Nat×Option Row)}{h a:Nat->Option Row},(∃p∈l,p.1=x)->aW h l x=aW a l x
 | [],_,_,he=>by simp_all
 | (y,r)::l,h,a,he=>by
  simp only[aW]
  by_cases b:∃p∈l,p.1=x
  ·exact L4 b
  grind[pW,aA]
theorem Q7{l a:List (Nat×Option Row)}{h:Nat->Option Row}(b:∀p∈l,∀q∈a,p.1≠q.1):aW (aW h l) a=aW (aW h a) l:=by
 grind[pW,L4]
theorem abB{t:Nat->D}{x y:Option Nat}{v u:D}(hne:∀d,x=some d->y≠some d):gq (gq t x v) y u=gq (gq t y u) x v:=by
 cases x with
 | none=>rfl
 | some i =>
  cases y with
  | none=>rfl
  | some j=>exact afQ t v u (fun e=>hne i rfl (by rw[e]))
def ZF{t:Nat->D}{x:Option Nat}{v:D}{s:Nat}(hne:x≠some s):gq t x v s=t s:=by
 cases x with
 | none=>rfl
 | some i=>exact aG _ _ (fun e=>hne (by rw[e]))
def Vb{t t1:Nat->D}{h l:Nat->Option Row}{f:nQ}(b:step1 T Γ N e ops o t h=some (t1,l,f)) :
  ∃v hw,t1=gq t o.dst v∧l=aW h hw∧(∀p∈hw,p.1∈f.tc)∧(f.q=true->hw=[]) ∧
   ∀a c,(∀s∈o.looksAt ops,t s=a s)->(∀x∈f.tc,h x=c x)->step1 T Γ N e ops o a c=some (gq a o.dst v,aW c hw,f):=by
 have j:∀a:Nat->D,(∀s∈o.looksAt ops,t s=a s)->Ac ops t o=Ac ops a o:=by
  grind[Ac,Oper.looksAt]
 have k:∀a:Nat->D,(∀s∈o.looksAt ops,t s=a s)->∀y∈o.op.operands.toList,ev t y=ev a y:=by
  intro a d y z;cases y with
  | tmp i=>exact d i (by unfold Oper.looksAt;grind)
  | const v=>rfl
  | global g=>rfl
  | func f=>rfl
 unfold step1 at b;split at b
 ·rename_i n;split at b
  ·rename_i m;split at b
   ·rename_i E q;simp only[anf,Prod.mk.injEq]at b;obtain⟨rfl,rfl,rfl⟩:=b;refine⟨E.val,E.hw,rfl,rfl,V1 q,fun r=>by simpa using r,fun a c d u =>?_⟩;obtain⟨A,B⟩:=agw (T:=T) (Γ:=Γ) (e:=e) (h:=h) (k a d);have C:tE T Γ e o (ev a) c=some E:=by
     grind[V0]
    unfold step1;grind
   ·cases b
  ·rename_i m;simp only[anf,Prod.mk.injEq]at b;obtain⟨rfl,rfl,rfl⟩:=b;refine⟨.skp,[],rfl,rfl,fun p w=>by simp at w,fun _=>rfl,fun a c d u =>?_⟩;unfold step1;rw[if_pos n,<- j a d,m];rfl
  ·cases b
 ·cases b
def VF(T:Nat->Option Ty)(Γ:Env)(N e:Nat)(ops:Array Oper)(F:Nat->nQ):List Nat->(Nat->D)->(Nat->Option Row)->(Nat->D)->(Nat->Option Row)->Prop
 | [],t,h,a,h'=>t=a∧h=h'
 | i::L,t,h,a,h'=>∃o t1 b,ops[i]? = some o∧step1 T Γ N e ops o t h=some (t1,b,F i)∧VF T Γ N e ops F L t1 b a h'
def ags(l a:List Nat):Bool:=l.all fun x => !a.contains x
structure XW(ops:Array Oper)(F:Nat->nQ)(j i:Nat):Prop where
 apart:∀oj oi,ops[j]? = some oj->ops[i]? = some oi->oj.apart ops oi=true
 foot:((F j).q&&(F i).q||ags (F j).tc (F i).tc)=true
def swap{F:Nat->nQ}{i j:Nat}{L:List Nat}{t v:Nat->D}{h w:Nat->Option Row}(B:VF T Γ N e ops F (j::i::L) t h v w)(y:XW ops F j i):VF T Γ N e ops F (i::j::L) t h v w:=by
 obtain⟨z,t1,E,b,l,m,t2,G,c,n,o⟩:=B;obtain⟨a1,H,a3⟩:=Oper.apart_spec (y.apart z m b c);obtain⟨I,C,rfl,rfl,J,K,d⟩:=Vb l;obtain⟨vi,A,rfl,rfl,M,O,f⟩:=Vb n;have a:=y.foot;simp only[Bool.or_eq_true,anF]at a;have d1:∀x∈(F i).tc,∀p∈C,p.1≠x:=by
  grind[ags,List.all_eq_true]
 have d2:∀x∈(F j).tc,∀p∈A,p.1≠x:=by
  grind[ags,List.all_eq_true]
 have g:=f t h (fun s q=>ZF (fun r=>a1 s r q)) (fun x u=>pW (d1 x u));have k:=d (gq t m.dst vi) (aW h A) (fun s q=>(ZF (fun r=>a3 s r q)).symm) (fun x u=>(pW (d2 x u)).symm);refine⟨m,_,_,c,g,z,_,_,b,k,?_⟩;grind[abB,Q7]
def front{F:Nat->nQ}{i:Nat}{a:List Nat}:∀{pre:List Nat}{t c:Nat->D}{h d:Nat->Option Row},VF T Γ N e ops F (pre++i::a) t h c d->(∀j∈pre,XW ops F j i)->VF T Γ N e ops F (i::(pre++a)) t h c d
 | [],_,_,_,_,hr,_=>hr
 | j::pre,t,c,h,d,hr,hi=>by
  obtain⟨l,t1,m,f,g,b⟩:=hr;have n:=front (pre:=pre) b (fun k o=>hi k (by simp[o]));exact swap ⟨l,t1,m,f,g,n⟩ (hi j (by simp))
def direct(o:Oper):List Nat:=(o.after.toList.filter (Region.binds .any)).map (·.on)
def Bc:List Oper->List (List Nat)->List (List Nat)
 | [],acc=>acc
 | o::l,acc=>Bc l (acc++[direct o++(direct o).flatMap fun k=>acc.getD k []])
def aiI(ops:Array Oper):List (List Nat):=Bc ops.toList []
def Ic(S:Nat->Prop):∀(l:List Oper)(acc:List (List Nat))(k:Nat),k=acc.length->(∀i j,j∈acc.getD i []->i<k->(∀m o,ops[m]? = some o->S m->∀d∈direct o,S d)->(∀o,ops[i]? = some o->∀d∈direct o,S d)->S j) ->
  (∀j,l[j]? = ops[k+j]?)->∀i j,j∈(Bc l acc).getD i []->(∀m o,ops[m]? = some o->S m->∀d∈direct o,S d)->(∀o,ops[i]? = some o->∀d∈direct o,S d)->S j
 | [],acc,k,hk,a,c,i,j,e,g,h=>by
  grind[Bc]
 | o::l,acc,k,hk,a,c,i,j,e,g,h=>by
  simp only[Bc]at e;refine Ic S l _ (k+1) (by simp[hk]) ?_ (fun j=>by have:=c (j+1);grind) i j e g h;intro b s f n p q
  by_cases r:b<k
  ·grind
  ·obtain rfl:b=k:=by omega
   have:(acc++[direct o++(direct o).flatMap fun k=>acc.getD k []]).getD b []=direct o++(direct o).flatMap fun k=>acc.getD k []:=by
    simp_all
   rw[this]at f;have t:ops[b]? = some o:=by have:=c 0;simp_all
   grind
def agp{S:Nat->Prop}{i j:Nat}(a:j∈(aiI ops).getD i [])(b:∀m o,ops[m]? = some o->S m->∀d∈direct o,S d)(c:∀o,ops[i]? = some o->∀d∈direct o,S d):S j :=
 Ic S ops.toList [] 0 rfl (fun i j a _ _ _=>by simp at a) (fun j=>by simp) i j a b c
def adr(acc:List Nat):List Nat->Nat
 | []=>0
 | k::l=>(2 ^ k ||| acc.getD k 0) ||| adr acc l
def Ie:List Oper->List Nat->List Nat
 | [],acc=>acc
 | o::l,acc=>Ie l (acc++[adr acc (direct o)])
def Ys(ops:Array Oper):List Nat:=Ie ops.toList []
theorem Yu{a:List Nat}{j:Nat}:∀{l:List Nat},(adr a l).testBit j=true->j∈l∨∃k∈l,(a.getD k 0).testBit j=true
 | [],h=>by simp[adr]at h
 | k::l,h=>by
  simp only[adr,Nat.testBit_or,Bool.or_eq_true,Nat.testBit_two_pow,decide_eq_true_eq]at h;rcases h with (rfl|h)|h
  ·simp_all
  ·simp_all
  ·rcases Yu h with h|⟨b,c,d⟩
   ·simp_all
   grind
def F6:∀(l:List Oper)(a:List Nat)(b:List (List Nat)),a.length=b.length->(∀i j,(a.getD i 0).testBit j=true->j∈b.getD i [])->∀i j,((Ie l a).getD i 0).testBit j=true->j∈(Bc l b).getD i []
 | [],_,_,_,h,i,j,d=>h i j d
 | o::l,a,b,e,h,i,j,d=>by
  refine F6 l _ _ (by simp[e]) (fun f m c =>?_) i j d
  by_cases g:f<a.length
  ·rw[anG,anV g,<- anG]at c;grind
  ·by_cases k:f=a.length
   ·subst k;rw[anG,anX (am6 _),aoa]at c;simp only[List.getElem?_cons_zero,Option.getD_some]at c;rw[e,anG,anX (am6 _),aoa];grind[List.getElem?_cons_zero,Yu]
   grind
def adh{i j:Nat}(h:((Ys ops).getD i 0).testBit j=true):j∈(aiI ops).getD i [] :=
 F6 ops.toList [] [] rfl (fun i j h=>by simp at h) i j h
def X2(ops:Array Oper)(F:Nat->nQ):Prop:=∀j i,j<i->i<ops.size->j∈(aiI ops).getD i []∨XW ops F j i
def ace(hT:km P T)(hΓ:bN P Γ){F:Nat->nQ}{Q:Exit->Act->World->Prop}{t':Nat->D}{h':Nat->Option Row}(hp:X2 ops F)(O:∀i o,ops[i]? = some o->∀d∈direct o,d<i)
  (ae:∀(i j:Nat)(oi oj:Oper)(d:Nat),ops[i]? = some oi->ops[j]? = some oj->oi.dst=some d->oj.dst=some d->i=j) (hQ:∀C E f done,xE N M L w0 f e done t' h' C E->Q .normal C E) :
  ∀(n:Nat)(LL:List Nat)(listed:Array Bool)(t:Nat->D)(h:Nat->Option Row)(a:Act)(w:World)(blk:Nat->Option (Nat×Nat))(done:List Nat),LL.length=n->(∀i,i∈LL↔listed.getD i true=false)->LL.Pairwise (· < ·)->(∀i∈LL,i<ops.size)->listed.size=ops.size ->
   (∀i o,ops[i]? = some o->listed.getD i false=true->∀d∈direct o,listed.getD d false=true)->(∀d∈done,∃i o,ops[i]? = some o∧o.dst=some d∧listed.getD i false=true) ->
   VF T Γ N e ops F LL t h t' h'->xE N M L w0 blk e done t h a w->wpAny P .any ops Q n listed a w:=by
 intro n
 induction n with
 | zero =>
  intro LL listed t h a w blk done R U hs hlt v hdown g G V;have:LL=[]:=aod R;subst this;obtain⟨rfl,rfl⟩:=G;refine⟨?_,hQ a w blk done V⟩;refine List.eq_nil_iff_forall_not_mem.2 fun i hi =>?_;grind[mem_ready]
 | succ n ih =>
  intro LL listed t h a w blk done R U hs hlt v hdown g G V;refine⟨fun H =>?_,fun i hi =>?_⟩
  ·cases LL with
   | nil=>simp at R
   | cons i LL =>
    obtain⟨o,t1,h1,I,_⟩:=G;have J:i∈Region.ready .any ops listed:=by
     refine mem_ready.2 ⟨(U i).1 (by simp),o,I,fun W x hb =>?_⟩;have c:W.on∈direct o:=am5.2 ⟨W,aop.2 ⟨by simpa using x,hb⟩,rfl⟩;grind[List.pairwise_cons]
    grind
  ·obtain⟨X,o,I,K⟩:=mem_ready.1 hi;have y:i∈LL:=(U i).2 X;obtain⟨p,l,rfl⟩:=List.append_of_mem y;have z:i<listed.size:=by grind
   have A:∀d∈direct o,listed.getD d false=true:=by
    intro d c;obtain⟨W,x,rfl⟩:=am5.1 c;grind
   have B:∀j∈p,XW ops F j i:=by
    intro j hj;have Y:j<i:=by
     grind
    rcases hp j i Y (hlt i y) with Z|Z
    ·have ah:listed.getD j false=true:=agp (S:=fun m=>listed.getD m false=true) Z (fun m om hm aa d c=>hdown m om hm aa d c) (fun o' q d c=>by
      grind)
     grind
    ·exact Z
   obtain⟨o',t1,h1,q,r,s⟩:=front G B;rw[I]at q;cases q;unfold wpOp;simp only[I];refine Qr hT hΓ V r (fun d c ai =>?_) (fun C E f ab =>?_)
   ·grind
   ·have ag:∀k,(listed.setIfInBounds i true).getD k false=true↔k=i∨listed.getD k false=true:=by
     intro k
     by_cases b:k=i
     ·subst b;simp[z]
     ·rw[getD_set_ne false (Ne.symm b)];simp[b]
    have u:∀k,(listed.setIfInBounds i true).getD k true=false↔k≠i∧listed.getD k true=false:=by
     intro k
     by_cases b:k=i
     ·grind
     ·rw[getD_set_ne true (Ne.symm b)];simp[b]
    have aj:(p++i::l).Nodup:=hs.imp (fun h=>Nat.ne_of_lt h);refine ih (p++l) (listed.setIfInBounds i true) t1 h1 C E f _ (by grind) (fun k =>?_) ?_ (fun k hk=>hlt k (by grind)) (by simpa using v) (fun k ok hk ad d c =>?_) (fun d c =>?_) s ab
    ·rw[u];constructor
     ·intro hk;have ak:k∈p++i::l:=by grind
      grind
     grind
    ·grind
    ·grind
    ·rcases aoh.1 c with c|c
     ·grind
     ·obtain⟨k,ok,hk,al,ad⟩:=g d c;grind
end
def FB(T:Nat->Option Ty)(Γ:Env)(N e:Nat)(ops:Array Oper):List Oper->(Nat->D)->(Nat->Option Row)->Option ((Nat->D)×(Nat->Option Row)×List nQ)
 | [],t,h=>some (t,h,[])
 | o::l,t,h =>
  match step1 T Γ N e ops o t h with
  | some (t1,a,f) =>
   match FB T Γ N e ops l t1 a with
   | some (t2,h2,fs)=>some (t2,h2,f::fs)
   | none=>none
  | none=>none
def PT:List Nat->Bool
 | []=>true
 | x::l => !l.contains x&&PT l
def adI(ops:Array Oper):Bool:=PT (ops.toList.filterMap (·.dst))
def Yc(ops:Array Oper)(j i:Nat):Bool :=
 match ops[j]?,ops[i]? with
 | some oj,some oi=>oj.apart ops oi
 | _,_=>true
def VZ(ops:Array Oper):Bool :=
 (ops.toList.zipIdx.all fun p=>(direct p.1).all fun d=>decide (d<p.2)) &&
 ((List.range ops.size).all fun i=>(List.range i).all fun j=>((Ys ops).getD i 0).testBit j||Yc ops j i)
def N2(ops:Array Oper):List (Nat×Nat):=(List.range ops.size).flatMap fun i=>((List.range i).filter fun j => !((Ys ops).getD i 0).testBit j).map fun j=>(j,i)
def ae0(fs:List nQ)(p:Nat×Nat):Bool :=
 match fs[p.1]?,fs[p.2]? with
 | some f,some g=>f.q&&g.q||ags f.tc g.tc
 | _,_=>false
def Ix(ops:Array Oper)(fs:List nQ):Bool:=(N2 ops).all (ae0 fs)
inductive Ex where
 | normal
 | exit (n:Nat)
 | ret
structure St where
 t:Nat->D
 h:Nat->Option Row
 e:Nat
def iter(f:St->Option (Ex×St)):Nat->St->Option (Ex×St)
 | 0,_=>none
 | n+1,s =>
  match f s with
  | some (.normal,s1)=>iter f n s1
  | r=>r
def BB(T:Nat->Option Ty)(Γ:Env)(N:Nat)(ops:Array Oper)(a:Bool)(s:St):Option (Ex×St) :=
 match FB T Γ N s.e ops ops.toList s.t s.h with
 | some (t,h,fs)=>if !a||Ix ops fs then some (.normal,⟨t,h,s.e+1⟩) else none
 | none=>none
def Vs(d:D)(x y:Option (Ex×St)):Option (Ex×St) :=
 match d with
 | .bool b=>if b then x else y
 | _=>none
def ajL(r:Option (Ex×St))(k:St->Option (Ex×St)):Option (Ex×St) :=
 match r with
 | some (.normal,s)=>k s
 | r=>r
def XJ(id:Nat)(r:Option (Ex×St)):Option (Ex×St) :=
 match r with
 | some (.exit n,s)=>if n=id then some (.normal,s) else some (.exit n,s)
 | r=>r
def iP(T:Nat->Option Ty)(Γ:Env)(N F:Nat):Code->St->Option (Ex×St)
 | .skip,s=>some (.normal,s)
 | .region _ ops draw,s=>BB T Γ N ops draw s
 | .seq a b,s=>ajL (iP T Γ N F a s) (iP T Γ N F b)
 | .cond c x y,s=>Vs (ev s.t c) (iP T Γ N F x s) (iP T Γ N F y s)
 | .block id b,s=>XJ id (iP T Γ N F b s)
 | .loop b,s=>iter (iP T Γ N F b) F s
 | .exit id,s=>some (.exit id,s)
 | .ret,s=>some (.ret,s)
 | _,_=>none
def codeOk:Code->Bool
 | .region _ ops draw=>adI ops&&(!draw||VZ ops)
 | .seq a b=>codeOk a&&codeOk b
 | .cond _ x y=>codeOk x&&codeOk y
 | .block _ b=>codeOk b
 | .loop b=>codeOk b
 | _=>true
section
variable {P:Program} {T:Nat->Option Ty} {N:Nat} {M:Nat->Prop} {L:mc} {w0:World} {blk:Nat->Option (Nat×Nat)} {t:Nat->D} {h:Nat->Option Row} {a:Act} {w:World} {e:Nat} {o:Oper} {Γ:Env} {ops:Array Oper}
def NS:∀{l:List Nat},PT l=true->l.Nodup
 | [],_=>List.nodup_nil
 | x::l,h=>by
  simp only[PT,anF,Bool.not_eq_true',List.contains_eq_mem,decide_eq_false_iff_not]at h;exact List.nodup_cons.2 ⟨h.1,NS h.2⟩
def Li:∀{l:List Oper}{done:List Nat},(l.filterMap (·.dst)).Nodup->(∀o∈l,∀d,o.dst=some d->d∉done)->∀o a,l=o::a->(a.filterMap (·.dst)).Nodup∧∀b∈a,∀d,b.dst=some d->d∉o.dst.toList++done:=by
 grind
theorem C3(u:km P T)(v:bN P Γ){Q:Exit->Act->World->Prop}:∀{l:List Oper}{t g:Nat->D}{h i:Nat->Option Row}{fs:List nQ}{a:Act}{w:World}{blk:Nat->Option (Nat×Nat)}{done:List Nat},
  FB T Γ N e ops l t h=some (g,i,fs)->(l.filterMap (·.dst)).Nodup->(∀o∈l,∀d,o.dst=some d->d∉done)->xE N M L w0 blk e done t h a w ->
  (∀j k c done,xE N M L w0 c e done g i j k->Q .normal j k)->wpList P ops Q l a w
 | [],t,g,h,i,fs,a,w,blk,done,b,_,_,m,n=>by
  simp only[FB,anf,Prod.mk.injEq]at b;obtain⟨rfl,rfl,_⟩:=b;exact n a w blk done m
 | o::l,t,g,h,i,fs,a,w,blk,done,b,y,x,m,n=>by
  simp only[FB]at b;split at b
  ·rename_i t1 B f z;split at b
   ·rename_i t2 C A p;simp only[anf,Prod.mk.injEq]at b;obtain⟨rfl,rfl,_⟩:=b;obtain⟨q,r⟩:=Li y x o l rfl;have:=Qr (K:=wpList P ops Q l) (Q:=Q) u v m z (x o (by simp)) (fun j k c s=>C3 u v p q r s n);unfold wpList;exact this
   ·cases b
  ·cases b
def D4{F:Nat->nQ}:∀{l:List Oper}{k:Nat}{t b:Nat->D}{h c:Nat->Option Row}{fs:List nQ},FB T Γ N e ops l t h=some (b,c,fs)->(∀j,l[j]? = ops[k+j]?)->(∀j f,fs[j]? = some f->F (k+j)=f) ->
  fs.length=l.length∧VF T Γ N e ops F (List.range' k l.length) t h b c
 | [],k,t,b,h,c,fs,a,_,_=>by
  simp only[FB,anf,Prod.mk.injEq]at a;obtain⟨rfl,rfl,rfl⟩:=a;exact⟨rfl,rfl,rfl⟩
 | o::l,k,t,b,h,c,fs,a,g,i=>by
  simp only[FB]at a;split at a
  ·rename_i t1 m f u;split at a
   ·rename_i t2 v n d;simp only[anf,Prod.mk.injEq]at a;obtain⟨rfl,rfl,rfl⟩:=a;obtain⟨p,q⟩:=D4 (k:=k+1) d (fun j=>by have:=g (j+1);grind) (fun j r s=>by have:=i (j+1) r (by simpa using s);rwa [show k+(j+1)=k+1+j by omega]at this);refine⟨by simp[p],o,t1,m,by have:=g 0;simp_all,?_,q⟩;have:=i 0 f rfl;simp_all
   ·cases a
  ·cases a
def Holds(N:Nat)(M:Nat->Prop)(L:mc)(w0:World)(s:St)(a:Act)(w:World):Prop:=∃blk,xE N M L w0 blk s.e [] s.t s.h a w
def LW(hT:km P T)(hΓ:bN P Γ)(hm:P.follows .mixedOrders=true){id:Nat}{b:Bool}{s:St}{x:Ex}{S:St}{Q:Exit->Act->World->Prop}(q:BB T Γ N ops b s=some (x,S))(e:(adI ops&&(!b||VZ ops))=true)
  (hH:Holds N M L w0 s a w) (hQ:∀u y,Holds N M L w0 S u y->Q .normal u y):x=.normal∧(Code.region id ops b).wp P Q a w:=by
 unfold BB at q;split at q
 ·rename_i t h fs B;split at q
  ·rename_i m;simp only[anf,Prod.mk.injEq]at q;obtain⟨rfl,rfl⟩:=q;refine⟨rfl,?_⟩;simp only[anF]at e;have J:(ops.toList.filterMap (·.dst)).Nodup:=NS e.1;obtain⟨blk,U⟩:=hH;have C:∀u y c done,xE N M L w0 c s.e done t h u y->Q .normal u y:=by
    intro u y c done D;refine hQ u y ⟨c,D.inv.weaken fun x v K =>?_,fun x r ty s nv cs k1 k2 k3 k4 =>?_⟩
    ·rcases K with⟨I,K|⟨K,_⟩⟩|⟨I,O,h3,h4⟩
     ·exact .inl ⟨I,.inl (by simp only;omega)⟩
     ·exact .inl ⟨I,.inl (by simp only;omega)⟩
     ·exact .inr ⟨I,by simp only;omega,fun _=>by simp only;omega,h4⟩
    ·have:=D.nv x r ty s nv cs k1 k2 k3 k4;grind
   cases b with
   | false =>
    grind[wp_region_list,C3]
   | true =>
    simp only[aor,an1]at m e;apply wp_region_any hm;have z:=e.2;simp only[VZ,anF]at z
    let F:Nat->nQ:=fun i=>fs.getD i ⟨[],true⟩
    obtain⟨V,n⟩:=D4 (F:=F) (k:=0) B (fun j=>by simp) (fun j f W=>by grind);have A:∀i o,ops[i]? = some o->∀d∈direct o,d<i:=by
     intro i o ho d X;have h1:=z.1;rw[anh]at h1;have E:(o,i)∈ops.toList.zipIdx:=by
      grind
     grind
    have G:∀(i j:Nat)(oi oj:Oper)(d:Nat),ops[i]? = some oi->ops[j]? = some oj->oi.dst=some d->oj.dst=some d->i=j:=by
     have key:∀(l:List Oper),(l.filterMap (·.dst)).Nodup->∀(i j:Nat)(oi oj:Oper)(d:Nat),l[i]? = some oi->l[j]? = some oj->oi.dst=some d->oj.dst=some d->i=j:=by
      intro l
      induction l with
      | nil=>simp_all
      | cons o l ih =>
       grind
     intro i j oi oj d p W;exact key ops.toList J i j oi oj d (by simpa using p) (by simpa using W)
    have g:X2 ops F:=by
     intro j i H p
     by_cases Y:((Ys ops).getD i 0).testBit j=true
     ·exact .inl (adh Y)
     ·refine .inr ⟨fun oj oi aa ab =>?_,?_⟩
      ·have O:=z.2;rw[anh]at O;have:=O i (aos.2 p);rw[anh]at this;have:=this j (aos.2 H);simp only[Bool.or_eq_true]at this;grind[absurd,Yc]
      ·rw[Ix,anh]at m;have E:(j,i)∈N2 ops:=by
        refine aog.2 ⟨i,aos.2 p,am5.2 ⟨j,aop.2 ⟨aos.2 H,?_⟩,rfl⟩⟩;simpa using Y
       grind[ae0,List.getElem?_eq_getElem]
    rw[anH,<- List.range_eq_range']at n;have Z:∀i,(Array.replicate ops.size false).getD i false=false:=by
     intro i
     by_cases p:i<ops.size
     ·simp[Array.getD,p]
     grind
    have R:∀i,(Array.replicate ops.size false).getD i true=false↔i<ops.size:=by
     grind
    exact ace hT hΓ g A G C ops.size (List.range ops.size) (Array.replicate ops.size false) s.t s.h a _ blk [] (by simp) (fun i=>by grind) aot (fun i p=>aos.1 p) (by simp)
     (fun i o _ hl=>by grind) (fun d X=>by simp at X) n ⟨U.inv.drew,U.nv⟩
  ·cases q
 ·cases q
def IS:Ex->Exit
 | .normal =>.normal
 | .exit n =>.exit n
 | .ret =>.ret
def lj(D:km P T)(E:bN P Γ)(G:P.follows .mixedOrders=true){F:Nat}:∀(c:Code)(s:St)(x:Ex)(i:St)(Q:Exit->Act->World->Prop)(a:Act)(w:World),iP T Γ N F c s=some (x,i)->codeOk c=true->Holds N M L w0 s a w ->
  (∀k l,Holds N M L w0 i k l->Q (IS x) k l)->c.wp P Q a w:=by
 intro c
 induction c with
 | skip =>
  intro s x i Q a w e _ j h;simp only[iP,anf,Prod.mk.injEq]at e;obtain⟨rfl,rfl⟩:=e;exact wp_skip (h a w j)
 | region id ops draw =>
  intro s x i Q a w e f j h;simp only[iP]at e;have H:x=.normal:=by
   unfold BB at e;grind
  subst H;exact (LW D E G e f j h).2
 | seq b c m ihc =>
  intro s x i Q a w e f j h;simp only[codeOk,anF]at f;simp only[iP,ajL]at e;apply wp_seq;split at e
  ·rename_i p o;exact m s .normal p _ a w o f.1 j (fun k l g=>ihc p x i Q k l e f.2 g h)
  ·rename_i r q;refine m s x i _ a w e f.1 j (fun k l g =>?_);cases x with
   | normal=>simp_all
   | exit n=>exact h k l g
   | ret=>exact h k l g
 | cond c b d m y =>
  intro s x i Q a w e f j h;simp only[codeOk,anF]at f;simp only[iP]at e;unfold Vs at e;split at e
  ·rename_i A I;obtain⟨blk,z⟩:=j;have B:=z.inv.ev c;rw[I]at B;refine wp_cond (t:=A) (A4 B) ?_;cases A with
   | true=>exact m s x i Q a w e f.1 ⟨blk,z⟩ h
   | false=>exact y s x i Q a w e f.2 ⟨blk,z⟩ h
  ·cases e
 | block id b u =>
  intro s x i Q a w e f j h;simp only[iP]at e;apply wp_block;unfold XJ at e;split at e
  ·rename_i n p o;refine u s (.exit n) p _ a w o f j (fun k l g =>?_);split at e
   ·rename_i J;simp only[anf,Prod.mk.injEq]at e;obtain⟨rfl,rfl⟩:=e;simp_all[IS,Exit.inBlock,if_true]
   ·rename_i J;simp only[anf,Prod.mk.injEq]at e;obtain⟨rfl,rfl⟩:=e;simp_all[IS,Exit.inBlock,if_false]
  ·rename_i r q;refine u s x i _ a w e f j (fun k l g =>?_);cases x with
   | normal=>exact h k l g
   | exit n=>simp_all
   | ret=>exact h k l g
 | loop b u =>
  intro s x i Q a w e f j h;simp only[iP]at e;refine wp_loop_ghost (fun n a w=>∃s,Holds N M L w0 s a w∧iter (iP T Γ N F b) n s=some (x,i)) F ⟨s,j,e⟩ ?_;intro n a w ⟨p,v,o⟩;cases n with
  | zero=>simp[iter]at o
  | succ n =>
   simp only[iter]at o;split at o
   ·rename_i C K;exact u p .normal C _ a w K f v (fun k l g=>⟨n,by omega,C,g,o⟩)
   ·rename_i r q;refine u p x i _ a w o f v (fun k l g =>?_);cases x with
    | normal=>simp_all
    | exit n=>exact h k l g
    | ret=>exact h k l g
 | exit id =>
  intro s x i Q a w e _ j h;simp only[iP,anf,Prod.mk.injEq]at e;obtain⟨rfl,rfl⟩:=e;exact wp_exit (h a w j)
 | ret =>
  intro s x i Q a w e _ j h;simp only[iP,anf,Prod.mk.injEq]at e;obtain⟨rfl,rfl⟩:=e;exact wp_ret (h a w j)
 | _=>grind[iP]
end
def Uz(T:Nat->Option Ty)(s:St):ResultVar->Option (D×List Nat)
 | .tmp i=>cO s.h (s.t i)
 | .cell i ty =>
  match T ty,s.t i with
  | some τ,.ptr x v o=>match gi τ s.h (.ptr x v o) with|some E=>some (kJ E.val,[])|none=>none
  | _,_=>none
def AB(T:Nat->Option Ty)(s:St):List ResultVar->Option (List D×List Nat)
 | []=>some ([],[])
 | r::rs =>
  match Uz T s r with
  | some (d,fr)=>match AB T s rs with
   | some (ds,a)=>some (d::ds,fr++a)
   | none=>none
  | none=>none
def pe:List D->D
 | [d]=>d
 | ds =>.tup ds
inductive Mode where
 | clean|same|tight
 | fresh (ty s:Nat)
def cP:Option (D×Row)->List D->St
 | none,args=>⟨fun i=>args.getD i .und,fun _=>none,0⟩
 | some (d0,r),args=>⟨fun i=>(d0::args).getD i .und,fun x=>if x=0 then some { r with v:=0 } else none,1⟩
def oN:Option (D×Row)->St->Option (Option Row)
 | none,_=>some none
 | some (_,r),s =>
  match s.h 0 with
  | some a=>if a.v=0∧a.fz=false∧a.ty=r.ty∧(a.mp=r.mp∧ze a=true) then some (some a) else none
  | none=>none
def aeV:Option (D×Row)->List Nat->Bool
 | none,_=>true
 | some _,fr => !fr.contains 0
def uJ(T:Nat->Option Ty)(cg:Option (D×Row))(rs:List ResultVar)(s:St):Option (RK×Option Row) :=
 match AB T s rs,oN cg s with
 | some (a,fr),some o=>if aeV cg fr then some (.clean (pe a),o) else none
 | _,_=>none
def Pm(cg:Option (D×Row))(rs:List ResultVar)(s:St):Option (RK×Option Row) :=
 match rs with
 | [.tmp i] =>
  match s.t i,oN cg s with
  | .buf 0 0 sz o n,some (some r)=>some (.same sz o n,some r)
  | _,_=>none
 | _=>none
def M4:D->Option (RK×Option Row)
 | .sl nl a n xs=>some (.clean (.sl nl a n xs),none)
 | _=>none
def IP(cg:Option (D×Row))(rs:List ResultVar)(s:St):Option (RK×Option Row) :=
 match cg,rs with
 | none,[.tmp i]=>M4 (s.t i)
 | _,_=>none
def Bh(ty s o n:Nat):Option Row->Option (RK×Option Row)
 | some r=>if r.fz=false∧r.ty=ty∧o+n*s<=r.cells.length then some (.fresh ty s n ((r.cells.drop o).take (n*s)),none) else none
 | none=>none
def tU(ty s:Nat)(h:Nat->Option Row):D->Option (RK×Option Row)
 | .buf x v a o n=>if a=s then Bh ty s o n (live h x v) else none
 | .sl _ b 0 _=>if b=true then some (.fresh ty s 0 [],none) else none
 | _=>none
def xb(ty s:Nat)(rs:List ResultVar)(a:St):Option (RK×Option Row) :=
 match rs with
 | [.tmp i]=>tU ty s a.h (a.t i)
 | _=>none
def gF(a:Mode)(T:Nat->Option Ty)(cg:Option (D×Row))(rs:List ResultVar)(s:St):Option (RK×Option Row) :=
 match a with
 | .clean=>uJ T cg rs s
 | .same=>Pm cg rs s
 | .tight=>IP cg rs s
 | .fresh ty sz=>xb ty sz rs s
def lP(a:Mode)(T:Nat->Option Ty)(Γ:Env)(F:Nat)(d:Func)(cg:Option (D×Row))(b:List D):Option (RK×Option Row) :=
 match d.body with
 | some c =>
  if d.ntmps<=PK then
   match iP T Γ d.ntmps F c (cP cg b) with
   | some (.exit _,_)=>none
   | some (_,s)=>gF a T cg d.results.toList ⟨s.t,EH s.h,s.e⟩
   | none=>none
  else none
 | none=>none
def JR:Option (D×Row)->Bool
 | none=>true
 | some (.buf 0 0 _ _ _,_)=>true
 | some (.ptr 0 0 _,_)=>true
 | some (.mp 0 0,_)=>true
 | _=>false
def JF:Option (D×Row)->List D->Nat
 | none,am1=>am1.length
 | some _,am1=>am1.length+1
section
variable {P:Program} {T:Nat->Option Ty} {N:Nat} {M:Nat->Prop} {L:mc} {w0:World} {blk:Nat->Option (Nat×Nat)} {a:Act} {w:World} {Γ:Env}
def Inv.aey{V:Nat->Nat->Prop}{t:Nat->D}{h:Nat->Option Row}(d:Inv N M L w0 blk V t h a w)(fr:List Nat):tu M h blk fr M where
 le b c:=.inl c
 no x i r g e f c:=d.notM e f c
def Fz(a:Array Value):ResultVar->Sem Value
 | .tmp t=>pure (a.getD t undef)
 | .cell b t=>do loadVar t (<- asAddr (a.getD b undef))
def Kr(a:Func)(b:Array Value):results a b=(do
  let vs <- a.results.mapM (Fz b)
  pure (if h:vs.size=1 then vs[0] else .tuple vs)):=by
 unfold results;congr 1
def abG(l:km P T){f:Nat->Prop}{ty:Nat}{τ:Ty}{g c:Nat}{xs:List D}{d:D}(m:T ty=some τ)(b:At w f g c xs)(n:xs.length=τ.size)(e:mE τ xs=some d) :
  ∃u,(loadVar ty ⟨g,c,none⟩).run P w=.ok u w∧RP w f d u:=by
 obtain⟨h,i,o,p,q⟩:=b.FM;have j:τ.ds.xt=false->xs.length=1∧xs=[d]:=by
  intro k;simp only[mE,k,anD,if_false]at e;grind
 have a:=nI (l ty τ m) w g c h (by rw[i,n]) o (fun k=>by simp_all);refine⟨_,a,?_⟩;cases r:τ.ds.xt with
 | true =>
  simp only[mE,r,if_true,anf]at e;subst e;exact .agg xs h i p q
 | false =>
  grind
def afb(y:km P T){q:Nat->Prop}{V:Nat->Nat->Prop}{s:St}(j:Inv N M L w0 blk V s.t s.h a w){r:ResultVar}{d:D}{fr:List Nat}(c:Uz T s r=some (d,fr))(hl:tu M s.h blk fr q):∃u,(Fz a.tmps r).run P w=.ok u w∧RP w q d u:=by
 cases r with
 | tmp i =>
  simp only[Uz]at c;exact⟨a.tmps.getD i undef,rfl,j.cO c hl (j.slots i)⟩
 | cell i ty =>
  simp only[Uz]at c;split at c
  ·rename_i τ x v o z A;split at c
   ·rename_i E e;simp only[anf,Prod.mk.injEq]at c;obtain⟨rfl,_⟩:=c;have f:=j.slots i;rw[A]at f;simp only[gi]at e;split at e
    ·rename_i B h;obtain⟨t,C⟩:=da h;split at e
     ·rename_i F;split at e
      ·rename_i I k;simp only[anf]at e;subst e;obtain⟨g,G,l⟩:=f.2 B t C;have m:=((j.rowAt t G (kc h)).drop o).take τ.size;obtain⟨u,n,p⟩:=abG y z m (by simp;omega) k;refine⟨u,?_,(p.less fun b H=>hl.le b H).kJ⟩;simp only[Fz,l,asAddr,anB,Sem.run_pure,Result.andThen_ok,n]
      ·cases e
     ·cases e
    ·cases e
   ·cases c
  ·cases c
def UO(g:km P T){i:Nat->Prop}{V:Nat->Nat->Prop}{s:St}(k:Inv N M L w0 blk V s.t s.h a w):∀(rs:List ResultVar)(b:List D)(fr:List Nat),AB T s rs=some (b,fr)->tu M s.h blk fr i ->
  ∃c:List Value,(rs.mapM (Fz a.tmps)).run P w=.ok c w∧c.length=b.length∧∀j d,b[j]? = some d->RP w i d (c.getD j undef)
 | [],b,fr,h,_=>by
  simp only[AB,anf,Prod.mk.injEq]at h;simp_all
 | r::rs,b,fr,h,l=>by
  simp only[AB]at h;split at h
  ·rename_i d m n;split at h
   ·rename_i e f o;simp only[anf,Prod.mk.injEq]at h;obtain⟨rfl,rfl⟩:=h;obtain⟨c,v,p,x⟩:=UO g k rs e f o l.right;obtain⟨u,q,t⟩:=afb (P:=P) g k n l.left;refine⟨u::c,?_,by simp[p],fun j d y =>?_⟩
    ·simp_all
    grind
   ·cases h
  ·cases h
def wg(k:km P T){i:Nat->Prop}{V:Nat->Nat->Prop}{s:St}(l:Inv N M L w0 blk V s.t s.h a w){f:Func}{b:List D}{fr:List Nat}(h:AB T s f.results.toList=some (b,fr))(m:tu M s.h blk fr i) :
  ∃v,(results f a.tmps).run P w=.ok v w∧RP w i (pe b) v:=by
 obtain⟨e,n,g,c⟩:=UO (P:=P) k l _ b fr h m;have o:(f.results.mapM (Fz a.tmps)).run P w=.ok e.toArray w:=by
  rw[anR,Sem.run_map,n];rfl
 rw[Kr];simp only[anB,o,Result.andThen_ok,Sem.run_pure];refine⟨_,rfl,?_⟩
 match e,b,g,c with
 | [u],[d],_,c=>simpa [pe] using c 0 d rfl
 | [],[],_,_=>exact .tup [] [] rfl (fun j x p=>by simp at p)
 | q::r::e,d1::d2::b,g,c =>
  have:¬(q::r::e).toArray.size=1:=by simp
  rw[dif_neg this];exact .tup _ _ (by simpa using g) c
def pH{a:Func}{b:Array Value}{i:Nat}(h:a.results.toList=[.tmp i]):(results a b).run P w=.ok (b.getD i undef) w:=by
 have c:a.results = #[.tmp i]:=by rw[<- h]
 rw[Kr,c];simp[Fz]
def Inv.xb{V:Nat->Nat->Prop}{s:St}{q Q:Nat}(t:Inv N M L w0 blk V s.t s.h a w){G:Func}{y:RK}{out:Option Row}(e:Am.xb q Q G.results.toList s=some (y,out)) :
  out=none∧∃v ty p n cells,y=.fresh ty p n cells∧(results G a.tmps).run P w=.ok v w∧zm w0 w M (LB L) v y:=by
 unfold Am.xb at e;split at e
 ·rename_i i k;have f:=t.slots i;unfold tU at e;split at e
  ·rename_i x v p o n z;rw[z]at f;split at e
   ·rename_i B;subst B;unfold Bh at e;split at e
    ·rename_i r l;split at e
     ·rename_i h;obtain⟨R,S,T⟩:=h;simp only[anf,Prod.mk.injEq]at e;obtain⟨rfl,rfl⟩:=e;refine⟨rfl,a.tmps.getD i undef,_,_,_,_,rfl,pH k,?_⟩;obtain⟨H,hv⟩:=da l;have U:((r.cells.drop o).take (n*p)).length=n*p:=by simp;omega
      rcases t.De l f with⟨g,o',c,cs,C,I,J,D,g4,W,g7,K⟩|⟨C,rfl,J,A,D⟩
      ·by_cases X:0<c∨o=0
       ·obtain⟨Y,Z⟩:=W X;subst Y;refine .inl ⟨(g.1,g.2+o),c,cs,I,(show w0.heap.size<=g.1∨LB L g.1 from t.base H C),by simp_all,J,D,Z,by omega,fun j d m =>?_⟩;rw[lp]at m;split at m
        ·rw[anp];refine⟨(K _ _ m).1,(K _ _ m).2.less fun b E =>?_⟩;rcases E with E|rfl
         ·exact .inl E
         ·exact .inr ⟨x,r,g,H,R,C,rfl⟩
        ·cases m
       ·have hn:n=0:=by omega
        have F:c=0:=by omega
        subst hn F;exact .inr ⟨rfl,by simp,_,I⟩
      ·exact .inr ⟨rfl,by simp,A,D⟩
     ·cases e
    ·cases e
   ·cases e
  ·rename_i O tg xs z;rw[z]at f;split at e
   ·rename_i aa;simp only[anf,Prod.mk.injEq]at e;obtain⟨rfl,rfl⟩:=e;refine⟨rfl,a.tmps.getD i undef,_,_,_,_,rfl,pH k,.inr ⟨rfl,rfl,?_⟩⟩;have hr:RP w (Own M s.h blk) (.sl O tg 0 xs) (a.tmps.getD i undef):=f;generalize a.tmps.getD i undef=u at *;cases hr with
    | sl A c O tight n xs us h1 h2 h3 h4 h5 h6 h7 h8 =>
     simp_all
   ·cases e
  ·cases e
 ·cases e
def AG{args:List D}{vs:Array Value}{n i:Nat}(a:vs.size=args.length):(vs++Array.replicate (n-vs.size) undef).getD i undef=vs.getD i undef∨args.getD i .und=.und:=by
 by_cases b:i<args.length
 ·left;have:i<vs.size:=by omega
  simp[ana,Array.getElem?_append_left this]
 simp_all
def aas{h:Nat->Option Row}(d:∀k r,h k=some r->k<2*PK∧ze r=true):EH h=h:=by
 funext k
 by_cases e:k<2*PK
 ·rw[wV e];cases a:h k with
  | none=>rfl
  | some r =>
   simp only[Option.map_some,HA];split
   ·rename_i c;obtain⟨f,vs,b⟩:=DQ (d k r a).2 c;cases r;simp only at b;subst b;rfl
   ·rfl
 ·have g:h k=none:=by
   cases a:h k with
   | none=>rfl
   | some r=>simp_all
  rw[g];unfold EH;rw[if_neg e];cases a:h (k % PK) with
  | none=>rfl
  | some r =>
   simp only[Option.bind_some,vS];split
   ·rename_i c;obtain⟨f,vs,b⟩:=DQ (d _ r a).2 c;rw[b];rfl
   ·rfl
def HG{h:Nat->Option Row}(b:∀k r,h k=some r->k<2*PK∧r.mp=false):EH h=h:=by
 funext k
 by_cases c:k<2*PK
 ·rw[wV c];cases a:h k with
  | none=>rfl
  | some r =>
   simp only[Option.map_some,HA,(b k r a).2];rfl
 ·have d:h k=none:=by
   cases a:h k with
   | none=>rfl
   | some r=>simp_all
  rw[d];unfold EH;rw[if_neg c];cases a:h (k % PK) with
  | none=>rfl
  | some r =>
   simp only[Option.bind_some,vS,(b _ r a).2];rfl
def mT(hT:km P T)(hΓ:bN P Γ)(hm:P.follows .mixedOrders=true){K:Mode}{f:FuncId}{A:Func}{F:Nat}{cg:Option (D×Row)}{a:List D}{rk:RK}{ad:Option Row}(hf:P.funcs[f]? = some A)
  (V:(match A.body with|some c=>codeOk c|none=>true)=true) (hn:JF cg a<=A.ntmps) (W:JR cg=true)
  (d:lP K T Γ F A cg a=some (rk,ad)):uc P f cg a rk ad:=by
 unfold lP at d;split at d<;>try (cases d;done)
 rename_i c hc;rw[hc]at V;simp only at V;split at d<;>try (cases d;done)
 rename_i aa;split at d<;>try (cases d;done)
 rename_i x s az hv;cases cg with
 | none =>
  intro w M vs hM h;have hI:Inv A.ntmps M none w (fun _=>none) (fun x v=>x<A.ntmps∧v<0) (cP none a).t (cP none a).h { tmps:=vs++Array.replicate (A.ntmps-vs.size) undef,defers:=[] } w:={
   tab:=fun b e=>(h.tab b e).less fun b e=>by
    rcases e with e|⟨x,r,g,l,_⟩
    ·exact e
    ·cases l
   below:=fb.refl _ _
   mlt:=hM
   cg:=fun b e=>absurd e tq
   pin:=fun B I=>by cases I
   defers:=rfl
   tsz:=by have:=h.1;simp only[JF]at hn;simp;omega
   slots:=fun i=>by
    simp only[cP];rcases AG (n:=A.ntmps) (i:=i) h.1 with he|he
    ·rw[he]
     by_cases hi:i<a.length
     ·have C:=h.2 i _ (anj hi);have L:a.getD i .und=a[i]:=by simp_all
      rw[L];exact cd (C.less fun b e=>by
       rcases e with e|⟨x,r,g,l,_⟩
       ·exact e
       ·cases l)
     ·have L:a.getD i .und=.und:=by simp_all
      rw[L];trivial
    ·rw[he];trivial
   rows:=fun x r l=>by cases l
   inj:=fun x y r s g g' l=>by cases l
   big:=aa
   pha:=fun y r g J=>by cases J
   ali:=fun y r g J=>by cases J }
  apply calls_of_wp hf hc;refine lj hT hΓ hm c (cP none a) x s _ _ _ hv V ⟨_,⟨(by rw[HG (fun k r X=>by cases X)];exact hI.weaken fun x v l=>absurd l.2 (Nat.not_lt_zero _)),fun x r ty s nv cs l=>by cases l⟩⟩ (fun U w' hH =>?_);obtain⟨q,ae⟩:=hH;obtain⟨sE,N⟩:∃sE:St,sE=⟨s.t,EH s.h,s.e⟩:=⟨_,rfl⟩;have hI':Inv A.ntmps M none w q (VE A.ntmps s.e [] s.h) sE.t sE.h U w':=by rw[N];exact ae.inv
  rw[<- N]at d;have t:Below w.heap.size w w':=hI'.below.below (fun b e=>absurd e tq);have u:U.defers=[]∧∃v,(results A U.tmps).run P w'=.ok v w'∧(∃v',Ending.returned v=.returned v'∧Below w.heap.size w w'∧zm w w' M (fun _=>False) v' rk):=by
   refine⟨hI'.defers,?_⟩;cases K with
   | clean =>
    simp only[gF,uJ,oN]at d;split at d<;>try (cases d;done)
    rename_i ds fr o O ho;split at d<;>try (cases d;done)
    simp only[anf,Prod.mk.injEq]at d;obtain⟨rfl,_⟩:=d;obtain⟨v,E,z⟩:=wg (P:=P) hT hI' O (hI'.aey fr);exact⟨v,E,v,rfl,t,z⟩
   | same =>
    simp only[gF,Pm,oN]at d;grind
   | tight =>
    simp only[gF,IP]at d;split at d<;>try (cases d;done)
    rename_i i _ ag;have Y:=hI'.slots i;generalize sE.t i=dd at *;unfold M4 at d;split at d<;>try (cases d;done)
    rename_i nl tg n xs;simp only[anf,Prod.mk.injEq]at d;obtain⟨rfl,_⟩:=d;have ao:RP w' (Own M sE.h q) (.sl nl tg n xs) (U.tmps.getD i undef):=Y;exact⟨U.tmps.getD i undef,pH ag,_,rfl,t,ao.less fun b e =>.inl e⟩
   | fresh au s0 =>
    obtain⟨rfl,v,ty,sz,n,cells,rfl,E,z⟩:=hI'.xb (P:=P) d;refine⟨v,E,v,rfl,t,?_⟩;rcases z with⟨g,k1,cs,k2,k3,k4⟩|z
    ·exact .inl ⟨g,k1,cs,k2,k3.imp id (fun e=>absurd e tq),k4⟩
    ·exact .inr z
  cases x with
  | normal=>exact u
  | ret=>exact u
  | exit n=>simp_all
 | some p =>
  obtain⟨d0,r⟩:=p;intro w M B u0 vs hM hgoM hz ah ab ai h;have Q:∀b,Own M (cP (some (d0,r)) a).h (fun x=>if x=0 then B else none) b↔(M b∨yN B b):=by
   intro b;constructor
   ·rintro (e|⟨x,R,g,l,_,I,he⟩)
    ·exact .inl e
    ·simp only[cP]at l;split at l
     ·rename_i h0;subst h0;simp only[if_true]at I;exact .inr ⟨g,I,he.symm⟩
     ·cases l
   ·rintro (e|⟨g,I,he⟩)
    ·exact .inl e
    ·exact .inr ⟨0,{ r with v:=0 },g,rfl,hz,by simpa using I,he.symm⟩
  have hI:Inv A.ntmps M (PL B) w (fun x=>if x=0 then B else none) (fun x v=>x<A.ntmps∧v<1) (cP (some (d0,r)) a).t (cP (some (d0,r)) a).h { tmps:=(#[u0]++vs)++Array.replicate (A.ntmps-(#[u0]++vs).size) undef,defers:=[] } w:={
   tab:=fun b e=>(h.tab b e).less fun b e=>(Q b).1 e
   below:=fb.refl _ _
   mlt:=hM
   cg:=fun b e=>hgoM b (OS.1 e)
   pin:=fun aA I=>by
    cases I;exact⟨⟨by simp only[JF]at hn;omega,aou⟩,fun R _ _=>⟨rfl,fun g _=>rfl⟩⟩
   defers:=rfl
   tsz:=by have:=h.1;simp only[JF]at hn;simp;omega
   slots:=fun i=>by
    simp only[cP];rcases AG (args:=d0::a) (vs:=#[u0]++vs) (n:=A.ntmps) (i:=i) (by simp[h.1];omega) with he|he
    ·rw[he];cases i with
     | zero =>
      have L:(#[u0]++vs).getD 0 undef=u0:=by simp[Array.getElem?_append]
      rw[L];simp only[an2];cases d0 with
      | buf x v sz o n =>
       have S:x=0∧v=0:=by
        simp only[JR]at W;grind
       obtain⟨rfl,rfl⟩:=S;exact⟨⟨by simp only[JF]at hn;omega,aou⟩,fun R C h2=>by simpa using ai.2 ⟨0,0,[],false,false,false⟩ rfl rfl⟩
      | ptr x v o =>
       have S:x=0∧v=0:=by
        simp only[JR]at W;grind
       obtain⟨rfl,rfl⟩:=S;exact⟨⟨by simp only[JF]at hn;omega,aou⟩,fun R C h2=>by simpa using ai.2 ⟨0,0,[],false,false,false⟩ rfl rfl⟩
      | mp x v =>
       have S:x=0∧v=0:=by
        simp only[JR]at W;grind
       obtain⟨rfl,rfl⟩:=S;exact⟨⟨by simp only[JF]at hn;omega,aou⟩,fun R C h2=>by simpa using ai.2 ⟨0,0,[],false,false,false⟩ rfl rfl⟩
      | _=>simp[JR]at W
     | succ i =>
      have L:(#[u0]++vs).getD (i+1) undef=vs.getD i undef:=by
       simp only[ana];rw[Array.getElem?_append_right (by simp)];simp
      rw[L];simp only[an3]
      by_cases hi:i<a.length
      ·have C:=h.2 i _ (anj hi);have L:a.getD i .und=a[i]:=by simp_all
       rw[L];exact cd (C.less fun b e=>(Q b).1 e)
      ·have L:a.getD i .und=.und:=by simp_all
       rw[L];trivial
    ·rw[he];trivial
   rows:=fun x R l=>by
    simp only[cP]at l;split at l
    ·rename_i h0;subst h0;simp only[anf]at l;subst l;refine⟨fun hn=>⟨hn,aou⟩,?_⟩;simp only[if_true];cases B with
     | none=>exact ab
     | some g =>
      exact⟨.inr (OS.2 ⟨g,rfl,rfl⟩),fp.keep (r':={ r with v:=0 }) ab rfl rfl rfl rfl (fun b C h2=>⟨C,fun e=>h2 ((Q b).1 e),rfl⟩)⟩
    ·cases l
   inj:=fun x y m r2 g g' l J _ _ _=>by
    simp_all
   big:=aa
   pha:=fun y m g J hm _ j x s n hj=>by
    simp only[cP]at J;split at J
    ·simp only[anf]at J;subst J;obtain⟨ks,av,hc⟩:=DQ ah hm;grind
    ·cases J
   ali:=fun y m g J aB=>by
    simp only[cP]at J;grind }
  have Z:EH (cP (some (d0,r)) a).h=(cP (some (d0,r)) a).h:=by
   refine aas fun k R X =>?_;simp only[cP]at X;split at X
   ·rename_i h0;subst h0;simp only[anf]at X;subst X;exact⟨(by have:=gr;omega),by simpa [ze] using ah⟩
   ·cases X
  have aq:La (cP (some (d0,r)) a).e [] (cP (some (d0,r)) a).h:=by
   intro x R ty s nv cs l aw;simp only[cP]at l;split at l
   ·simp only[anf]at l;subst l;intro aC;obtain⟨ks,av,hc⟩:=DQ ah aw;simp_all
   ·cases l
  apply calls_of_wp hf hc;refine lj hT hΓ hm c (cP (some (d0,r)) a) x s _ _ _ hv V ⟨_,⟨(by rw[Z];exact hI.weaken fun x v l =>.inl ⟨l.1,.inl l.2⟩),aq⟩⟩ (fun U w' hH =>?_);obtain⟨q,ae⟩:=hH;obtain⟨sE,N⟩:∃sE:St,sE=⟨s.t,EH s.h,s.e⟩:=⟨_,rfl⟩;have hI':Inv A.ntmps M (PL B) w q (VE A.ntmps s.e [] s.h) sE.t sE.h U w':=by rw[N];exact ae.inv
  rw[<- N]at d;have t:fb (yN B) w w':=⟨hI'.below.os,hI'.below.tape,hI'.below.output,hI'.below.size,fun k X hn=>hI'.below.block k X (fun e=>hn (OS.1 e))⟩;have G:∀m,oN (some (d0,r)) sE=some (some m)->sE.h 0=some m∧m.v=0∧m.fz=false∧(m.ty=r.ty∧(m.mp=r.mp∧ze m=true))∧q 0=B∧(∀g,B=some g->w'.shape? g.1=w.shape? g.1)∧(∀b,(M b∨yN B b)->Own M sE.h q b):=by
   intro m hl;simp only[oN]at hl;split at hl<;>try (cases hl;done)
   rename_i r2 h2;split at hl<;>try (cases hl;done)
   rename_i aj;simp only[anf]at hl;subst hl;obtain⟨c1,c2,c3⟩:=aj;obtain⟨_,k2⟩:=hI'.pin _ rfl;obtain⟨k3,k4⟩:=k2 r2 h2 c1;refine⟨h2,c1,c2,c3,k3,k4,?_⟩;rintro b (e|⟨g,I,he⟩)
   ·exact .inl e
   ·exact .inr ⟨0,r2,g,h2,c2,k3.trans I,he.symm⟩
  have H:∀m,oN (some (d0,r)) sE=some (some m)->X4 w' (fun b=>M b∨yN B b) B m:=by
   intro m hl;obtain⟨C,_,_,h4,h5,_,h7⟩:=G m hl;have:=(hI'.rows 0 m C).2;rw[h5]at this;cases B with
   | none=>exact this
   | some g =>
    exact fp.keep this.2 rfl rfl rfl rfl (fun b C h2=>⟨C,fun e=>h2 (h7 b e),rfl⟩)
  have u:U.defers=[]∧∃v,(results A U.tmps).run P w'=.ok v w'∧(∃v',Ending.returned v=.returned v'∧fb (yN B) w w'∧ahH w w' M B r ad∧ahJ w w' M B v' rk):=by
   refine⟨hI'.defers,?_⟩;cases K with
   | clean =>
    simp only[gF,uJ]at d;split at d<;>try (cases d;done)
    rename_i ds fr o O ho;split at d<;>try (cases d;done)
    rename_i ax;simp only[aeV,Bool.not_eq_true',List.contains_eq_mem,decide_eq_false_iff_not]at ax;simp only[anf,Prod.mk.injEq]at d;obtain⟨rfl,rfl⟩:=d;cases o with
    | none =>
     simp only[oN]at ho;grind
    | some m =>
     obtain⟨C,h2,h3,h4,h5,h6,h7⟩:=G m ho;have ak:tu M sE.h q fr (fun b=>M b∨yN B b):=by
      refine⟨h7,fun x l R g ar I e =>?_⟩;rcases e with e|⟨g',ay,he⟩
      ·exact hI'.notM ar I e
      ·have:x=0:=hI'.inj x 0 R m g g' ar C I (h5.trans ay) he;simp_all
     obtain⟨v,E,z⟩:=wg (P:=P) hT hI' O ak;exact⟨v,E,v,rfl,t,⟨h4.1,h3,h4.2,h6,H m ho⟩,z⟩
   | same =>
    simp only[gF,Pm]at d;split at d<;>try (cases d;done)
    rename_i i ag;split at d<;>try (cases d;done)
    rename_i sz o n m ht ho;simp only[anf,Prod.mk.injEq]at d;obtain⟨rfl,rfl⟩:=d;obtain⟨C,h2,h3,h4,h5,h6,h7⟩:=G m ho;refine⟨U.tmps.getD i undef,pH ag,_,rfl,t,⟨h4.1,h3,h4.2,h6,H m ho⟩,?_⟩;have Y:=hI'.slots i;rw[ht]at Y;refine⟨trivial,fun R _ _ =>?_⟩;have:=Y.2 m C h2;rw[h5]at this;exact this
   | tight =>
    simp only[gF,IP]at d;cases d
   | fresh au s0 =>
    obtain⟨rfl,v,ty,sz,n,cells,rfl,E,z⟩:=hI'.xb (P:=P) d;refine⟨v,E,v,rfl,t,trivial,?_⟩;rcases z with⟨g,k1,cs,k2,k3,k4⟩|z
    ·exact .inl ⟨g,k1,cs,k2,k3.imp id (fun e=>OS.1 e),k4⟩
    ·exact .inr z
  cases x with
  | normal=>exact u
  | ret=>exact u
  | exit n=>simp_all
def ext(Γ:Env)(f:Nat)(l:Bool)(G:Option (D×Row)->List D->Option (RK×Option Row)):Env:=⟨fun g=>if g=f then l else Γ.lends g,fun g cg am1=>if g=f then G cg am1 else Γ.sem g cg am1,Γ.own,Γ.hint,Γ.ins,Γ.grw,Γ.nst,Γ.nx⟩
def bN.ext(b:bN P Γ){f:Nat}{l:Bool}{G:Option (D×Row)->List D->Option (RK×Option Row)}(d:∀cg am1 c a,G cg am1=some (c,a)->uc P f cg am1 c a)(e:fB P f):bN P (Am.ext Γ f l G):=by
 refine⟨fun g cg am1 c a h =>?_,b.ins,b.grw,b.lnd,b.res⟩;simp only[Am.ext]at h;split at h
 ·simp_all
 ·exact b.calls g cg am1 c a h
def bd:Env:=⟨fun _=>false,fun _ _ _=>none,fun _=>true,fun _=>none,fun _=>none,fun _=>none,fun _=>none,{}⟩
def bN.none:bN P bd:=⟨fun f cg a c b h=>(by cases h),fun f p h=>(by cases h),fun f p h=>(by cases h),fun f p h=>(by cases h),fun f p h=>(by cases h)⟩
def keep(d:Nat)(Γ:Env):Env:=⟨Γ.lends,Γ.sem,fun i=>i != d&&Γ.own i,Γ.hint,Γ.ins,Γ.grw,Γ.nst,Γ.nx⟩
def bN.keep(a:bN P Γ)(d:Nat):bN P (Am.keep d Γ):=⟨a.calls,a.ins,a.grw,a.lnd,a.res⟩
def Jl(f:Nat)(p:Nat×Nat×Nat)(Γ:Env):Env:=⟨Γ.lends,Γ.sem,Γ.own,Γ.hint,fun g=>if g=f then some p else Γ.ins g,Γ.grw,Γ.nst,Γ.nx⟩
def bN.Jl(a:bN P Γ){f:Nat}{p:Nat×Nat×Nat}(b:acs P f p):bN P (Am.Jl f p Γ):=⟨a.calls,fun g q h=>by
 simp only[Am.Jl]at h;split at h
 ·simp_all
 ·exact a.ins g q h,a.grw,a.lnd,a.res⟩
def zf(d:Nat)(p:Nat×Nat×Nat)(Γ:Env):Env:=⟨Γ.lends,Γ.sem,Γ.own,Γ.hint,Γ.ins,Γ.grw,fun i=>if i=d then some p else Γ.nst i,Γ.nx⟩
def bN.zf(a:bN P Γ)(d:Nat)(p:Nat×Nat×Nat):bN P (Am.zf d p Γ):=⟨a.calls,a.ins,a.grw,a.lnd,a.res⟩
def tH(f:Nat)(p:Nat×(Nat->Nat->Nat->Nat->List D->List D->Option (D×List D)))(Γ:Env):Env:=⟨Γ.lends,Γ.sem,Γ.own,Γ.hint,Γ.ins,Γ.grw,Γ.nst,⟨fun g=>if g=f then some p else Γ.nx.lnd g,Γ.nx.res⟩⟩
def bN.tH(b:bN P Γ){f:Nat}{p:Nat×(Nat->Nat->Nat->Nat->List D->List D->Option (D×List D))}(e:fB P f)(i:∀ty t s o cs a d c,p.2 ty t s o cs a=some (d,c)->OQ P f ty t s o cs a d c):bN P (Am.tH f p Γ):=⟨b.calls,b.ins,b.grw,fun g q h=>by
 simp only[Am.tH]at h;split at h
 ·simp_all
 ·exact b.lnd g q h,b.res⟩
def DW(f:Nat)(p:List D->Option (Nat×Nat×Nat×Nat×Nat×List D))(Γ:Env):Env:=⟨Γ.lends,Γ.sem,Γ.own,Γ.hint,Γ.ins,Γ.grw,Γ.nst,⟨Γ.nx.lnd,fun g=>if g=f then some p else Γ.nx.res g⟩⟩
def bN.DW(b:bN P Γ){f:Nat}{p:List D->Option (Nat×Nat×Nat×Nat×Nat×List D)}(c:fB P f)(d:∀a ty t s S n cs,p a=some (ty,t,s,S,n,cs)->OP P f a ty t s S n cs):bN P (Am.DW f p Γ):=⟨b.calls,b.ins,b.grw,b.lnd,fun g q h=>by
 simp only[Am.DW]at h;split at h
 ·simp_all
 ·exact b.res g q h⟩
end
def yC(ty t s o:Nat)(cs a:List D):St:=⟨fun i=>(.ptr 0 0 o::a).getD i .und,pP (kd ty t s 0 cs),1⟩
def adS(t s:Nat)(b:List D):List D->Option (D×List D)
 | [.nr c d _ a]=>if c=t∧d=s then some (pe b,a) else none
 | _=>none
def Sm(ty t s:Nat):Option (List D×List Nat)->Option Row->Option (D×List D)
 | some (a,fr),some r=>if r.v=0∧r.fz=false∧r.ty=ty∧r.mp=true∧fr.all (fun k=>rt k != 0)=true then adS t s a r.cells else none
 | _,_=>none
def aaU(T:Nat->Option Ty)(ty t s:Nat)(rs:List ResultVar)(a:St):Option (D×List D):=Sm ty t s (AB T ⟨a.t,EH a.h,a.e⟩ rs) (a.h 0)
def yJ(T:Nat->Option Ty)(Γ:Env)(F:Nat)(b:Func)(ty t s o:Nat)(cs a:List D):Option (D×List D) :=
 match b.body with
 | some c =>
  if b.ntmps<=PK then
   match iP T Γ b.ntmps F c (yC ty t s o cs a) with
   | some (.exit _,_)=>none
   | some (_,st)=>aaU T ty t s b.results.toList st
   | none=>none
  else none
 | none=>none
def adQ(x S n:Nat)(ty:Nat):List D->Option (Nat×Nat×Nat×Nat×Nat×List D)
 | [.nr t s _ cs]=>if x<PK then some (ty,t,s,S,n,cs) else none
 | _=>none
def Sk(x v S n:Nat):Option Row->Option (Nat×Nat×Nat×Nat×Nat×List D)
 | some r=>if r.v=v∧r.fz=false∧r.mp=true then adQ x S n r.ty r.cells else none
 | none=>none
def YD(h:Nat->Option Row):D->Option (Nat×Nat×Nat×Nat×Nat×List D)
 | .buf x v S 0 n=>Sk x v S n (h x)
 | _=>none
def adP(rs:List ResultVar)(a:St):Option (Nat×Nat×Nat×Nat×Nat×List D) :=
 match rs with
 | [.tmp i]=>YD a.h (a.t i)
 | _=>none
def yI(T:Nat->Option Ty)(Γ:Env)(F:Nat)(b:Func)(a:List D):Option (Nat×Nat×Nat×Nat×Nat×List D) :=
 match b.body with
 | some c =>
  if b.ntmps<=PK then
   match iP T Γ b.ntmps F c (cP none a) with
   | some (.exit _,_)=>none
   | some (_,st)=>adP b.results.toList st
   | none=>none
  else none
 | none=>none
def adU(T:Nat->Option Ty):Option (Nat×Nat×Nat×Nat×Nat×List D)->Option D
 | some (_,_,s,S,n,cs)=>if n*S<=cs.length∧cs.all (wR s)=true then some (.sl false false n ((cs.map C8).take (n*S))) else none
 | none=>none
def XL(T:Nat->Option Ty)(Γ:Env)(F:Nat)(b:Func)(a:List D):Option D:=adU T (yI T Γ F b a)
section
variable {P:Program} {T:Nat->Option Ty} {N:Nat} {M:Nat->Prop} {L:mc} {w0:World} {blk:Nat->Option (Nat×Nat)} {a:Act} {w:World} {Γ:Env}
def QL(hT:km P T)(hΓ:bN P Γ)(hm:P.follows .mixedOrders=true){f:FuncId}{K:Func}{F:Nat}{ty t s o:Nat}{cs a ab:List D}{d:D}(hf:P.funcs[f]? = some K)
  (V:(match K.body with|some c=>codeOk c|none=>true)=true) (hn:a.length+1<=K.ntmps)
  (z:yJ T Γ F K ty t s o cs a=some (d,ab)):OQ P f ty t s o cs a d ab:=by
 unfold yJ at z;split at z<;>try (cases z;done)
 rename_i c hc;rw[hc]at V;simp only at V;split at z<;>try (cases z;done)
 rename_i ad;split at z<;>try (cases z;done)
 rename_i x st az hv;intro w M blk E C m vs L N hM hdis ae hR A;have aA:=gr;have ak:∀k r,E k=some r->r.fz=false:=by
  intro k r J;rw[L]at J;rcases lA J with⟨_,rfl⟩|⟨_,_,_,_,_,rfl⟩<;>rfl
 have G:∀b,Own M E blk b↔(M b∨A2 blk E b):=by
  intro b;constructor
  ·rintro (e|⟨k,r,g,C,_,h2,h3⟩)
   ·exact .inl e
   ·exact .inr ⟨k,r,g,C,h2,h3⟩
  ·rintro (e|⟨k,r,g,C,h2,h3⟩)
   ·exact .inl e
   ·exact .inr ⟨k,r,g,C,ak k r C,h2,h3⟩
 have W:E 0=some ⟨0,ty,cs.mapIdx (wT 0 s),false,true,true⟩:=by rw[L];exact AD
 obtain⟨LL,ag⟩:∃LL:mc,LL=some (some m,A2 blk E):=⟨_,rfl⟩;have X:∀b,LB LL b↔A2 blk E b:=by
  intro b;subst ag;constructor
  ·rintro⟨p,hp,h⟩;cases hp;rcases h with⟨g,R,rfl⟩|h
   ·cases R;exact⟨0,_,m,W,ae,rfl⟩
   ·exact h
  ·exact fun h=>⟨_,rfl,.inr h⟩
 have hI:Inv K.ntmps M LL w blk (fun x v=>x<K.ntmps∧v<1) (yC ty t s o cs a).t E { tmps:=(#[Value.pointer (some ⟨m.1,m.2+o,none⟩)]++vs)++Array.replicate (K.ntmps-(#[Value.pointer (some ⟨m.1,m.2+o,none⟩)]++vs).size) undef,defers:=[] } w:={
  tab:=fun b e=>(A.tab b e).less fun b e=>(G b).1 e
  below:=fb.refl _ _
  mlt:=hM
  cg:=fun b e=>hdis b ((X b).1 e)
  pin:=fun p hp=>by
   grind
  defers:=rfl
  tsz:=by have:=A.1;simp;omega
  slots:=fun i=>by
   simp only[yC];rcases AG (args:=.ptr 0 0 o::a) (vs:=#[.pointer (some ⟨m.1,m.2+o,none⟩)]++vs) (n:=K.ntmps) (i:=i) (by simp[A.1];omega) with he|he
   ·rw[he];cases i with
    | zero =>
     have Y:(#[Value.pointer (some ⟨m.1,m.2+o,none⟩)]++vs).getD 0 undef=.pointer (some ⟨m.1,m.2+o,none⟩):=by simp[Array.getElem?_append]
     rw[Y];simp only[an2];exact⟨⟨by omega,aou⟩,fun r' _ _=>⟨m,ae,rfl⟩⟩
    | succ i =>
     have Y:(#[Value.pointer (some ⟨m.1,m.2+o,none⟩)]++vs).getD (i+1) undef=vs.getD i undef:=by
      simp only[ana];grind
     rw[Y];simp only[an3]
     by_cases hi:i<a.length
     ·have C:=A.2 i _ (anj hi);have Y:a.getD i .und=a[i]:=by simp_all
      rw[Y];exact cd (C.less fun b e=>(G b).1 e)
     ·have Y:a.getD i .und=.und:=by simp_all
      rw[Y];trivial
   ·rw[he];trivial
  rows:=fun k r J=>by
   refine⟨fun hn =>?_,?_⟩
   ·rw[L]at J;rcases lA J with⟨rfl,rfl⟩|⟨o',_,_,rfl,_,rfl⟩
    ·simp_all
    simp_all
   ·have:=hR.rows k r J;cases R:blk k with
    | none=>rw[R]at this;exact this
    | some g =>
     rw[R]at this;exact⟨.inr ((X g.1).2 ⟨k,r,g,J,R,rfl⟩),this.keep rfl rfl rfl rfl fun b S q2=>⟨S,fun e=>q2 ((G b).1 e),rfl⟩⟩
  inj:=hR.inj
  big:=ad
  pha:=hR.pha
  ali:=fun y r g hy hz=>by grind }
 have ah:La (yC ty t s o cs a).e [] (yC ty t s o cs a).h:=by
  intro k r' aB s' al ao U aC aq;simp only[yC,pP]at U;split at U
  ·simp only[anf]at U;subst U;simp only[kd,ans,D.nr.injEq,and_true]at aq;omega
  ·cases U
 have ar:EH (yC ty t s o cs a).h=E:=L.symm;apply calls_of_wp hf hc;refine lj hT hΓ hm c (yC ty t s o cs a) x st _ _ _ hv V ⟨_,⟨(by rw[ar];exact hI.weaken fun x v U=>Or.inl ⟨U.1,Or.inl U.2⟩),ah⟩⟩ (fun a' w' hH =>?_);obtain⟨u,au⟩:=hH;have hI':=au.inv;unfold aaU Sm at z;split at z<;>try (cases z;done)
 rename_i ds fr r1 ai O;split at z<;>try (cases z;done)
 rename_i Z;obtain⟨c1,c2,c3,c4,c5⟩:=Z;unfold adS at z;split at z<;>try (cases z;done)
 rename_i t' s' al ao j;split at z<;>try (cases z;done)
 rename_i av;obtain⟨rfl,rfl⟩:=av;simp only[anf,Prod.mk.injEq]at z;obtain⟨rfl,rfl⟩:=z;have aw:=im O c4 j qY;obtain⟨p1,p2⟩:=(hI'.pin (some m,A2 blk E) ag).2 _ aw c1;have Q:=OR (blk:=u) O c4 j qY;rw[c3]at Q;have hQ:∀b,(M b∨A2 (vt u 0) C b)->Own M (EH st.h) u b:=by
  rintro b (e|e)
  ·exact .inl e
  ·rw[N]at e;obtain⟨k,r',g',q0,S,q2,q3⟩:=(Q b).1 e;refine .inr ⟨k,r',g',S,?_,q2,q3⟩;rcases fT O c4 j qY q0 S with⟨_,rfl⟩|⟨_,_,_,_,_,rfl⟩<;>exact c2
 have aa:tu M (EH st.h) u fr (fun b=>M b∨A2 (vt u 0) C b):=by
  refine⟨hQ,fun k J r' g aj R e =>?_⟩;rcases e with e|e
  ·exact hI'.notM aj R e
  ·rw[N]at e;obtain⟨l,r2,g',q0,S,q2,q3⟩:=(Q _).1 e;have:=hI'.inj k l r' r2 g g' aj S R q2 q3.symm;simp_all
 obtain⟨v,ax,ay⟩:=wg (P:=P) (s:=⟨st.t,EH st.h,st.e⟩) hT hI' ai aa;have H:=hI'.ai0 O c4 j c2 qY hQ;rw[c3,<- N]at H;have I:a'.defers=[]∧∃v,(results K a'.tmps).run P w'=.ok v w'∧(∃v' B,Ending.returned v=.returned v'∧fb (A2 blk E) w w'∧B 0=some m∧w'.shape? m.1=w.shape? m.1∧(∀b,A2 B C b->w.heap.size<=b∨A2 blk E b)∧L1 w' (fun b=>M b∨A2 B C b) B C∧RP w' (fun b=>M b∨A2 B C b) (pe ds) v'):=by
  refine⟨hI'.defers,v,ax,v,vt u 0,rfl,⟨hI'.below.os,hI'.below.tape,hI'.below.output,hI'.below.size,fun k J hn=>hI'.below.block k J fun e=>hn ((X k).1 e)⟩,by rw[vt,wQ];exact p1,p2 m rfl,fun b e =>?_,H,ay⟩;rw[N]at e;obtain⟨k,r',g',q0,S,q2,q3⟩:=(Q b).1 e;rcases hI'.base S q2 with q|q
  ·omega
  simp_all
 cases x with
 | normal=>exact I
 | ret=>exact I
 | exit n=>simp_all
def akN(G:km P T)(H:bN P Γ)(I:P.follows .mixedOrders=true){f:FuncId}{e:Func}{F:Nat}{a:List D}{c:Code}{x:Ex}{p:St}(J:P.funcs[f]? = some e)(K:e.body=some c)(z:codeOk c=true)(W:a.length<=e.ntmps)(t:e.ntmps<=PK)
  (L:iP T Γ e.ntmps F c (cP none a)=some (x,p)) (N:∀n,x ≠ .exit n) {w:World} {M:Nat->Prop} {vs:Array Value} (O:∀b,M b->b<w.heap.size) (d:C9 w M a vs) {Φ:Ending->World->Prop}
  (A:∀q o h,Inv e.ntmps M none w h (VE e.ntmps p.e [] p.h) p.t (EH p.h) q o->∃v,(results e q.tmps).run P o=.ok v o∧Φ (.returned v) o):Calls P f vs w Φ:=by
 have Q:Inv e.ntmps M none w (fun _=>none) (fun x v=>x<e.ntmps∧v<0) (cP none a).t (cP none a).h { tmps:=vs++Array.replicate (e.ntmps-vs.size) undef,defers:=[] } w:={
  tab:=fun b j=>(d.tab b j).less fun b j=>by
   rcases j with j|⟨x,r,g,l,_⟩
   ·exact j
   ·cases l
  below:=fb.refl _ _
  mlt:=O
  cg:=fun b j=>absurd j tq
  pin:=fun X R=>by cases R
  defers:=rfl
  tsz:=by have:=d.1;simp;omega
  slots:=fun i=>by
   simp only[cP];rcases AG (n:=e.ntmps) (i:=i) d.1 with he|he
   ·rw[he]
    by_cases S:i<a.length
    ·have B:=d.2 i _ (anj S);have C:a.getD i .und=a[i]:=by simp_all
     rw[C];exact cd (B.less fun b j=>by
      rcases j with j|⟨x,r,g,l,_⟩
      ·exact j
      ·cases l)
    ·have C:a.getD i .und=.und:=by simp_all
     rw[C];trivial
   ·rw[he];trivial
  rows:=fun x r l=>by cases l
  inj:=fun x y r s g Y l=>by cases l
  big:=t
  pha:=fun y r g E=>by cases E
  ali:=fun y r g E=>by cases E }
 apply calls_of_wp J K;refine lj G H I c (cP none a) x p _ _ _ L z ⟨_,⟨(by rw[HG (fun k r A=>by cases A)];exact Q.weaken fun x v l=>absurd l.2 (Nat.not_lt_zero _)),fun x r ty s nv cs l=>by cases l⟩⟩ (fun q o U =>?_);obtain⟨h,u⟩:=U;obtain⟨v,B,V⟩:=A q o h u.inv;have m:q.defers=[]∧∃v,(results e q.tmps).run P o=.ok v o∧Φ (.returned v) o:=⟨u.inv.defers,v,B,V⟩;cases x with
 | normal=>exact m
 | ret=>exact m
 | exit n=>simp_all
def GV{F:Nat}{d:Func}{b:List D}{ty t s S n:Nat}{cs:List D}(a:yI T Γ F d b=some (ty,t,s,S,n,cs)) :
  ∃c x e i k v r nv,d.body=some c∧d.ntmps<=PK∧iP T Γ d.ntmps F c (cP none b)=some (x,e)∧(∀m,x ≠ .exit m)∧d.results.toList=[.tmp i]∧e.t i=.buf k v S 0 n∧e.h k=some r∧r.v=v∧r.fz=false∧r.mp=true∧k<PK∧r.ty=ty∧r.cells=[.nr t s nv cs]:=by
 unfold yI at a;split at a<;>try (cases a;done)
 rename_i c l;split at a<;>try (cases a;done)
 rename_i g;split at a<;>try (cases a;done)
 rename_i x e h o;unfold adP at a;split at a<;>try (cases a;done)
 rename_i i j;unfold YD at a;split at a<;>try (cases a;done)
 rename_i k v p q u;unfold Sk at a;split at a<;>try (cases a;done)
 rename_i r w;split at a<;>try (cases a;done)
 rename_i f;unfold adQ at a;grind
def QK(X:km P T)(Y:bN P Γ)(Z:P.follows .mixedOrders=true){f:FuncId}{E:Func}{F:Nat}{e:List D}{ty t s S n:Nat}{cs:List D}(hf:P.funcs[f]? = some E)
  (m:(match E.body with|some c=>codeOk c|none=>true)=true) (hn:e.length<=E.ntmps)
  (hr:yI T Γ F E e=some (ty,t,s,S,n,cs)):OP P f e ty t s S n cs:=by
 obtain⟨c,x,st,i,k,v,r,nv,Q,y,hv,K,L,ht,G,c1,R,H,I,z,a⟩:=GV hr;rw[Q]at m;simp only at m;intro w M h vs A hM o;refine akN X Y Z hf Q m hn y hv K hM o fun a' w' d j =>?_;have p:=OR (blk:=d) G H a I;rw[z,<- A]at p;have B:Below w.heap.size w w':=j.below.below (fun b u=>absurd u tq);have hQ:∀b,(M b∨A2 (vt d k) h b)->Own M (EH st.h) d b:=by
  rintro b (u|u)
  ·exact .inl u
  ·obtain⟨l,N,U,V,J,O,W⟩:=(p b).1 u;refine .inr ⟨l,N,U,J,?_,O,W⟩;rcases fT G H a I V J with⟨_,rfl⟩|⟨_,_,_,_,_,rfl⟩<;>exact R
 have g:=j.ai0 G H a R I hQ;rw[z,<- A]at g;have C:=j.slots i;rw[ht]at C;refine⟨_,pH L,_,vt d k,rfl,B,fun b u =>?_,g,trivial,fun N _ _ =>?_⟩
 ·obtain⟨l,N,U,V,J,O,W⟩:=(p b).1 u;rcases j.base J O with q|q
  ·omega
  ·exact absurd q tq
 ·rw[vt,wQ];exact C.2 _ (im G H a I) c1
def afO{s:Nat}{d:D}(h:wR s d=true):gD (C8 d)=true:=by
 cases d<;>first|rfl|exact h
def QM(hT:km P T)(hΓ:bN P Γ)(hm:P.follows .mixedOrders=true){f:FuncId}{J:Func}{F:Nat}{a:List D}{d:D}(hf:P.funcs[f]? = some J)
  (l:(match J.body with|some c=>codeOk c|none=>true)=true) (hn:a.length<=J.ntmps)
  (m:XL T Γ F J a=some d):uc P f none a (.clean d) none:=by
 unfold XL adU at m;split at m<;>try (cases m;done)
 rename_i ty t s S n cs hF;split at m<;>try (cases m;done)
 rename_i p;simp only[anf]at m;subst m;obtain⟨aa,y⟩:=p;obtain⟨c,x,st,i,k,v,r,nv,X,z,hv,K,L,ht,hh,c1,c2,c3,N,ab,e⟩:=GV hF;rw[X]at l;simp only at l;intro w M vs hM q;refine akN hT hΓ hm hf X l hn z hv K hM q fun a' O A B =>?_;have C:Below w.heap.size w O:=B.below.below (fun b hb=>absurd hb tq);obtain⟨E,_⟩:=B.agD (o:=0) hh c3 e c2 N cs.length (by simp_all);have hw:pQ cs.length 0 cs=cs.map C8:=by
  apply aoZ;intro j;rw[wq,am3];grind
 rw[hw]at E;generalize Q:cq st.h k (some (⟨r.v,r.ty,[.nr t s nv (cs.map C8)],false,r.lst,true⟩:Row))=h2 at E;have G:h2 k=some ⟨r.v,r.ty,[.nr t s nv (cs.map C8)],false,r.lst,true⟩:=by rw[<- Q,aA]
 have H:=im G rfl rfl N;have R:=E.lM (x:=k) (r:=⟨r.v,r.ty,(cs.map C8).mapIdx (wT k s),false,r.lst,true⟩) (r0:=⟨r.v,r.ty,cs.map C8,false,r.lst,false⟩) (w':=O) H rfl rfl rfl rfl rfl (am6 _) (fun _ _ _=>rfl) (by
  cases Y:A k with
  | none =>
   have:=(E.rows k _ H).2;rw[Y]at this;have h1:(cs.map C8).mapIdx (wT k s)=[]:=this;simp_all
  | some g =>
   obtain⟨U,a1,a2,a3⟩:=E.DV G rfl rfl N Y;refine⟨rfl,U,a1,a2,fun j d Z =>?_⟩;have hd:gD d=true:=by
    have:=Z;simp only[am3,am4]at this;obtain⟨d0,V,rfl⟩:=this;exact afO (anh.1 y d0 (anv V))
   exact⟨(gE hd).1,a3 j d Z hd⟩) (fun h=>by cases h)
 have u:live (cq (EH h2) k (some ⟨r.v,r.ty,cs.map C8,false,r.lst,false⟩)) k v=some ⟨r.v,r.ty,cs.map C8,false,r.lst,false⟩:=by
  unfold live;rw[aA];simp[c1]
 have W:Am.cO (cq (EH h2) k (some ⟨r.v,r.ty,cs.map C8,false,r.lst,false⟩)) (.buf k v S 0 n)=some (.sl false false n ((cs.map C8).take (n*S)),[k]):=by
  simp only[Am.cO,Am.b7,Am.eS,u,an5,aoE];rw[if_pos (by simp_all)];rfl
 have I:=R.slots i;rw[ht]at I;exact⟨_,pH L,_,rfl,C,R.cO W (R.aey [k]) I⟩
end
def aek:eE->D
 | (n,none) =>.int .i64 n
 | (a,some b) =>.agg [.int .i64 a,.int .i64 b]
def Tg{w:World}{M:Nat->Prop}(k:eE):RP w M (aek k) (oY k):=by
 obtain⟨a,x⟩:=k;cases x with
 | none=>exact .int _ _
 | some b =>
  refine .agg [.int .i64 a,.int .i64 b] [.int .i64 a,.int .i64 b] rfl (fun j x c =>?_) (fun x d =>?_)
  ·match j,c with
   | 0,c=>simp only[List.getElem?_cons_zero,anf]at c;subst c;exact .int _ _
   | 1,c=>simp only[List.getElem?_cons_succ,List.getElem?_cons_zero,anf]at c;subst c;exact .int _ _
   | j+2,c=>simp at c
  ·simp only[anc,aon,or_false]at d;rcases d with rfl|rfl<;>rfl
section
variable {P:Program} {T:Nat->Option Ty} {N:Nat} {M:Nat->Prop} {L:mc} {w0:World} {blk:Nat->Option (Nat×Nat)} {V:Nat->Nat->Prop} {t:Nat->D} {h:Nat->Option Row} {a:Act} {w:World} {e:Nat} {o:Oper} {Γ:Env} {done:List Nat}
def zk{x v ty:Nat}{a:List eE}{vs:List D}{fz lst:Bool}(b:h x=some ⟨v,ty,[.mpc a vs],fz,lst,true⟩)(c:x<PK):EH h x=some ⟨v,ty,[.mpc a vs],fz,lst,true⟩∧∀o,EH h (NK x o)=none:=by
 constructor
 ·rw[wV (by omega),b];rfl
 ·intro o;rw[wU c,b];rfl
def A6(m:xE N M L w0 blk e done t h a w)(p:∀d:Nat,o.dst=some d->d∉done∧d<N){E:cI}{v:Value}{l:World}(b:jX e h (aW h E.hw))(q:l7 N M L w0 (VE N e done h) t h a e o.dst E v l):HE N M L w0 t h a e (o.dst.toList++done) E v l:=by
 have c:∀x,x∈done->x∈o.dst.toList++done:=fun x k=>anl _ k;obtain⟨f,g,i⟩:=q;have j:∀x n,VE N e done h x n∨(o.dst=some x∧n=e)->VE N e (o.dst.toList++done) (aW h E.hw) x n:=by
  rintro x n (r|⟨k,rfl⟩)
  ·exact r.step b c
  ·exact .inl ⟨(p x k).2,.inr ⟨rfl,ank _ (by rw[k];simp)⟩⟩
 exact⟨f,⟨g.weaken j,m.nv.step b c⟩,i.mono ⟨fun _ g i=>⟨g,i,rfl⟩,j,fun _ _ _ s g i=>⟨⟨s,g,i⟩,rfl,fun _ _=>rfl⟩⟩⟩
def Er{ops:Array Oper}{l:List Oper}{Q:Exit->Act->World->Prop}(j:o.guard=none){K:(Nat->D)->(Nat->Option Row)->Prop}(s:xE N M L w0 blk e done t h a w)(k:fits N o.dst=true)
  (m:fC P o a w fun v c=>∃E:cI,K (gq t o.dst E.val) (aW h E.hw)∧HE N M L w0 t h a e (o.dst.toList++done) E v c)
  (n:∀f g i c b,K f g->xE N M L w0 b e (o.dst.toList++done) f g i c->wpList P ops Q l i c):wpList P ops Q (o::l) a w:=by
 unfold wpList;have:Region.wanted o (yielded ops a.tmps)=true:=by simp[Region.wanted,j]
 rw[this];simp only[if_true];refine .inl (m.wp fun v c p =>?_);obtain⟨E,q,b,d,r⟩:=p;exact n _ _ _ _ b q ⟨d.inv.ajd k r,d.nv⟩
def VV(hT:km P T)(Z:Inv N M L w0 blk V t (EH h) a w){ty d x v v' f k el:Nat}{m:Operand}{l:List eE}{vs:List D}{lst:Bool}(ho:o.op=.range ty m)(hd:o.dst=some d)(hV:lE N V d e)(hu:P.underlying ty=some (.map k el))(hm:ev t m=.mp x v)
  (hx:h x=some ⟨v,f,[.mpc l vs],false,lst,true⟩) (ak:f<900000) (H:x<PK) (J:d≠x) :
  fC P o a w (l7 N M L w0 V t h a e o.dst ⟨.ptr d e 0,[(x,some ⟨v,f,[.mpc l vs],true,true,true⟩),(d,some ⟨e,900000,[.mpc l vs],false,true,true⟩)]⟩):=by
 have al:=gr;have aj:=Z.big;have ao:d<N:=hV.lt;have s:d<PK:=by omega
 obtain⟨aq,ar⟩:=zk hx H;have K:=Z.ev m;rw[hm]at K;have aa:nP (EH h) x v=some (l,vs):=by unfold nP;simp_all
 obtain⟨g,r,h1,h2,h3,h4,h5,ab,O,F,c,p,au,ad,us,hk,hv⟩:=Z.TD aa K;have Q:=run_range_map (P:=P) w ty k el g.1 F c hu p;have ae:=Z.le (Dv (h:=h) d s);have ag:cq h d none x=some ⟨v,f,[.mpc l vs],false,lst,true⟩:=by rw[aG _ _ (Ne.symm J)];exact hx
 obtain⟨R,S⟩:=zk ag H;have hA:=ae.freeze [x];have u:∀z,aW (EH (cq h d none)) (lJ (EH (cq h d none)) [x]) z=if z=x then some ⟨v,f,[.mpc l vs],true,true,true⟩ else EH (cq h d none) z:=by
  intro z;rw[Ez]
  by_cases hz:z=x
  ·subst hz;rw[if_pos (by simp),if_pos rfl,R];rfl
  simp_all
 generalize av:aW (EH (cq h d none)) (lJ (EH (cq h d none)) [x])=A at hA u;have U:=heap_alloc_new w (.mapIter (some g.1) c #[] c);have hold:∀b,b<w.heap.size->(w.alloc (.mapIter (some g.1) c #[] c)).heap[b]? = w.heap[b]?:=fun b G=>Below.heap_alloc w _ b G;have B:=(Below.refl w.heap.size w).alloc (am6 _) (.mapIter (some g.1) c #[] c);have W:g.1<w.heap.size:=(an6.1 p).1;have X:A x=some ⟨v,f,[.mpc l vs],true,true,true⟩:=by simp_all
 have aw:¬Own M A blk g.1:=by
  rintro (G|⟨y,r',g',I,C,E,he⟩)
  ·exact hA.notM X h5 G
  ·have:y=x:=hA.inj y x r' _ g' g I X E h5 he;grind
 have hB:=hA.HS (w':=w.alloc (.mapIter (some g.1) c #[] c)) (h1:=A) (old:=none) (d:=d) (e:=e) (r0:=⟨e,900000,[.mpc l vs],false,true,true⟩) (go:=some (w.heap.size,0)) B.os B.tape B.output B.size (fun k hk _=>hold k hk) (fun y I=>by cases I) rfl hV
  ⟨.inl (am6 _),.inl ⟨l,vs,rfl,O,fun q=>absurd q (Nat.lt_irrefl _),fun _=>⟨rfl,g.1,F,c,#[],[],List.range l.length,us,U,by grind,by
   grind,(hold _ W).trans p,ad,(aoa 900000).symm,am7 _,by simp,List.nodup_range,fun i=>by
   rw[aos];constructor
   ·simp_all
   grind,fun i hi=>by simp at hi,fun j k' hj=>by
   grind,fun j y hj=>(hv j y hj).keep fun b q1 q2=>⟨by grind,by
    rintro (G|G)
    ·apply q2;rcases G with G|⟨y,r',g',I,C,E,he⟩
     ·exact .inl G
     ·by_cases ah:y=x
      ·grind
      ·rw[u,if_neg ah]at I;obtain⟨r2,q3,q4⟩:=Dv (h:=h) d s y r' I;refine .inr ⟨y,r2,g',q3,?_,E,he⟩;rcases q4 with rfl|⟨_,cs,rfl,_⟩|⟨_,kk,rfl⟩
       ·exact C
       ·exact C
       ·exact C
    omega,hold b q1⟩⟩⟩⟩ rfl rfl (fun _ g' E j x' s' n' hj=>by grind)
 have Y:cq A d (some (⟨e,900000,[.mpc l vs],false,true,true⟩:Row))=EH (aW h [(x,some ⟨v,f,[.mpc l vs],true,true,true⟩),(d,some ⟨e,900000,[.mpc l vs],false,true,true⟩)]):=by
  have ai:aW h [(x,some ⟨v,f,[.mpc l vs],true,true,true⟩),(d,some ⟨e,900000,[.mpc l vs],false,true,true⟩)]=cq (cq h x (some ⟨v,f,[.mpc l vs],true,true,true⟩)) d (some ⟨e,900000,[.mpc l vs],false,true,true⟩):=rfl;rw[ai];have k1:cq (cq h x (some (⟨v,f,[.mpc l vs],true,true,true⟩:Row))) d (some ⟨e,900000,[.mpc l vs],false,true,true⟩) d=some ⟨e,900000,[.mpc l vs],false,true,true⟩:=aA _ _ _;have k2:cq (cq h x (some (⟨v,f,[.mpc l vs],true,true,true⟩:Row))) d (some ⟨e,900000,[.mpc l vs],false,true,true⟩) x=some ⟨v,f,[.mpc l vs],true,true,true⟩:=by rw[aG _ _ (Ne.symm J),aA]
  obtain⟨m1,m2⟩:=zk k1 s;obtain⟨m3,m4⟩:=zk k2 H;have k3:cq h d none d=none:=aA _ _ _;funext z
  by_cases hzd:rt z=d
  ·rcases s5 hzd with rfl|⟨o',rfl⟩
   ·rw[aA,m1]
   ·rw[aG _ _ (by grind),m2,u,if_neg (by grind),wU s,k3];rfl
  ·rw[aG _ _ (fun e=>hzd (by rw[e,kh (by omega)])),u]
   by_cases hzx:rt z=x
   ·rcases s5 hzx with rfl|⟨o',rfl⟩
    ·rw[if_pos rfl,m3]
    ·rw[if_neg (by grind),m4,S]
   ·rw[if_neg (fun e=>hzx (by rw[e,kh (by omega)]))];exact fD (by rw[aG _ _ hzd,aG _ _ hzd,aG _ _ hzx])
 rw[Y]at hB;refine aP (v:=.pointer (some ⟨w.heap.size,0,none⟩)) (w':=w.alloc (.mapIter (some g.1) c #[] c)) ?_ ⟨cq blk d (some (w.heap.size,0)),hB.weaken fun x n hx =>?_,?_⟩
 ·simp[execOp,ho,ab,Q]
 ·grind
 ·exact⟨.inr ⟨hd,rfl⟩,fun r hr hv=>⟨(w.heap.size,0),aA _ _ _,rfl⟩⟩
def Inv.iter(i:Inv N M L w0 blk V t (EH h) a w){y v ty:Nat}{p:Operand}{e:List eE}{vs:List D}{lst:Bool}(k:Am.ev t p=.ptr y v 0)(l:h y=some ⟨v,ty,[.mpc e vs],false,lst,true⟩)(m:900000<=ty)(f:y<PK) :
  ∃(g:Nat×Nat),blk y=some g∧a.eval p=.pointer (some ⟨g.1,g.2+0,none⟩)∧vs.length=e.length∧QW w (Own M (EH h) blk) g ty e vs:=by
 obtain⟨c,_⟩:=zk l f;have d:=i.ev p;rw[k]at d;obtain⟨g,n,r⟩:=d.2 _ c rfl;have b:=i.rowIs c n;unfold fp at b;simp only at b;rcases b with⟨o,q,j,s,_,u⟩|⟨j,_⟩
 ·simp_all
 ·have:=j _ (anr.2 rfl);cases this
def XU{y v ty b:Nat}{i c:List eE}{vs d:List D}{fz lst fz' a:Bool}(j:h y=some ⟨v,ty,[.mpc i vs],fz,lst,true⟩)(f:y<PK):EH (cq h y (some ⟨v,b,[.mpc c d],fz',a,true⟩))=cq (EH h) y (some ⟨v,b,[.mpc c d],fz',a,true⟩):=by
 obtain⟨_,k⟩:=zk j f;have g:cq h y (some (⟨v,b,[.mpc c d],fz',a,true⟩:Row)) y=some ⟨v,b,[.mpc c d],fz',a,true⟩:=aA _ _ _;obtain⟨l,m⟩:=zk g f;funext z
 by_cases hz:rt z=y
 ·rcases s5 hz with rfl|⟨n,rfl⟩
  ·rw[aA,l]
  ·rw[aG _ _ (by have:=jM y n;have:=gr;omega),m,k]
 ·rw[aG _ _ (fun e=>hz (by rw[e,kh (by have:=gr;omega)]))];exact fD (by rw[aG _ _ hz])
def aaN(hI:Inv N M L w0 blk V t (EH h) a w){y v ty:Nat}{p:Operand}{I:List eE}{vs:List D}{lst:Bool}(ho:o.op=.next p false)(hp:ev t p=.ptr y v 0)(hy:h y=some ⟨v,ty,[.mpc I vs],false,lst,true⟩)(az:900000<=ty)(R:y<PK) :
  fC P o a w fun v' w'=>(I.drop (ty-900000)=[]∧l7 N M L w0 V t h a e o.dst ⟨.tup [.bool false],[]⟩ v' w') ∨
   ∃(j:Nat)(k:eE)(x:D),(I.drop (ty-900000))[j]? = some k∧(vs.drop (ty-900000))[j]? = some x∧l7 N M L w0 V t h a e o.dst ⟨.tup [.bool true,aek k,x],[(y,some ⟨v,900001,[.mpc (k::(I.drop (ty-900000)).eraseIdx j) (x::(vs.drop (ty-900000)).eraseIdx j)],false,lst,true⟩)]⟩ v' w':=by
 obtain⟨g,hg,ae,aq,ar,b,s,f,seen,c,l,us,h1,h2,h3,h4,ag,k1,k2,k3,k4,k5,k6,k7,k8⟩:=hI.iter hp hy az R;rw[ar,anE]at ae;obtain⟨ah,_⟩:=zk hy R;rw[<- k1];have S:(I.drop c.length).length=l.length:=by rw[ano,<- k3,an7];omega
 have aA:(vs.drop c.length).length=l.length:=by rw[ano,aq,<- k3,an7];omega
 rcases run_next_at (P:=P) w o.type g.1 b f f seen s f h1 h4 ag.1 (am6 _) with⟨aB,F⟩|⟨B,aC,w1,aD,F⟩
 ·refine aP (v:=.tuple #[.bool false]) (w':=w) (by simp[execOp,ho,ae,F]) (.inl ⟨?_,?_⟩)
  ·have aE:l=[]:=by
    refine List.eq_nil_iff_forall_not_mem.2 fun i T =>?_;obtain⟨e1,G,q2⟩:=(k5 i).1 T;have:e1∈(leftOf s seen).toList:=by
     unfold leftOf;simp only[Array.toList_filter,aop];exact⟨by simpa using Array.mem_of_getElem? G,by rw[q2];rfl⟩
    have h0:(leftOf s seen).toList.length=0:=by simpa using aB
    rw[aod h0]at this;cases this
   rw[aE]at S;exact aod S
  ·refine bz.fa (h:=EH h) hI (cd (.tup _ [_] rfl fun j x O =>?_))
   match j,O with
   | 0,O=>simp only[List.getElem?_cons_zero,anf]at O;subst O;exact .bool _
   | j+1,O=>simp at O
 ·obtain⟨m1,m2⟩:=mem_left aC;obtain⟨i,T⟩:=anq m1;rw[an9]at T;have aF:i∈l:=(k5 i).2 ⟨B,T,m2⟩;obtain⟨j,O⟩:∃j,j=l.idxOf i:=⟨_,rfl⟩;have aH:j<l.length:=by rw[O];exact List.idxOf_lt_length_of_mem aF
  have aI:l[j]? = some i:=by rw[anj aH];simp[O]
  have au:l.erase i=l.eraseIdx j:=List.erase_eq_eraseIdx_of_idxOf O.symm;have U:(I.drop c.length)[j]? = some ((I.drop c.length)[j]'(by omega)):=anj _;have W:(vs.drop c.length)[j]? = some ((vs.drop c.length)[j]'(by omega)):=anj _;generalize (I.drop c.length)[j]'(by omega)=k at U;generalize (vs.drop c.length)[j]'(by omega)=x at W;have av:∀n:Nat,(c++l)[c.length+n]? = l[n]?:=fun n=>by rw[anX (by omega)];congr 1;omega
  have H:B.key=oY k∧B.val=us (c.length+j):=by
   rw[ant]at U;obtain⟨i',J,G,q2,X,q4⟩:=k7 _ _ U;rw[av,aI]at G;cases G;rw[T]at q2;cases q2;exact⟨X,q4⟩
  have Z:RP w (Own M (EH h) blk) x (us (c.length+j)):=by
   rw[ant]at W;exact k8 _ _ W
  have aw:w1.heap=w.heap∧w1.os=w.os∧w1.tape=w.tape∧w1.output=w.output:=by rcases aD with rfl|rfl<;>exact⟨rfl,rfl,rfl,rfl⟩
  obtain⟨p1,p2,p3,p4⟩:=aw;generalize Y:ChangeMaps.setBlock w1 g.1 (.mapIter (some b) f (seen.push B.born) f)=w' at F;have ax:g.1<w.heap.size:=(an6.1 h1).1;have ai:w'.heap=w.heap.setIfInBounds g.1 (.mapIter (some b) f (seen.push B.born) f):=by rw[<- Y,<- p1];rfl
  have aj:w'.heap.size=w.heap.size:=by rw[ai];simp
  have aa:w'.heap[g.1]? = some (.mapIter (some b) f (seen.push B.born) f):=by rw[ai,Array.getElem?_setIfInBounds,if_pos rfl,if_pos ax]
  have hheap:∀Q,Q≠g.1->w'.heap[Q]? = w.heap[Q]?:=fun Q hb=>by rw[ai,Array.getElem?_setIfInBounds,if_neg (Ne.symm hb)]
  have ab:Own M (EH h) blk g.1:=.inr ⟨y,_,g,ah,rfl,hg,rfl⟩;have aJ:b≠g.1:=fun e=>h3 (e ▸ ab);have ak:∀{d:D}{u:Value},RP w (Own M (EH h) blk) d u->RP w' (Own M (EH h) blk) d u:=fun hr=>hr.keep fun b G q2=>⟨by rw[aj];exact G,q2,hheap b (fun e=>q2 (e ▸ ab))⟩;have ad:∀{n:Nat}{J:MapEntry},s[n]? = some J->(J.born==B.born)=decide (n=i):=by
   intro n J A
   by_cases al:n=i
   ·subst al;rw[T]at A;cases A;simp
   ·have:J.born≠B.born:=by
     intro he;have aK:=ag.2.1;have a1:(s.toList.map (·.born))[n]? = some J.born:=by simp[A]
     have a2:(s.toList.map (·.born))[i]? = some B.born:=by simp[T]
     have aL:=(anx.1 a1).1;have aM:=(anx.1 a2).1;exact al ((List.getElem_inj (h₀:=aL) (h₁:=aM) aK).1 (by
      have b1:=(anx.1 a1).2;have b2:=(anx.1 a2).2;rw[b1,b2,he]))
    simp[al,this]
  have hB:=hI.lM (x:=y) (r:=⟨v,ty,[.mpc I vs],false,lst,true⟩) (r0:=⟨v,900001,[.mpc (k::(I.drop c.length).eraseIdx j) (x::(vs.drop c.length).eraseIdx j)],false,lst,true⟩) (w':=w') ah rfl rfl
   (by rw[<- Y];exact p2) (by rw[<- Y];exact p3) (by rw[<- Y];exact p4) (by rw[aj];exact am6 _) (fun Q _ hb=>hheap Q (hb g hg)) (by
   rw[hg];refine⟨by simp[World.shape?,aa,h1],.inl ⟨_,_,rfl,?_,fun q=>absurd q (by show ¬(900001<900000);omega),fun _=>⟨ar,b,s,f,seen.push B.born,[i],l.eraseIdx j,fun m=>if m=0 then B.val else us (c.length+(if m-1<j then m-1 else m)),aa,by rw[aj];exact h2,h3,(hheap b aJ).trans h4,ag,(aoQ (n:=900000) (m:=1)).symm,am6 _,?_,?_,fun n =>?_,fun n A =>?_,fun m k' E =>?_,fun m x' E =>?_⟩⟩⟩
   ·simp only[List.length_cons,List.length_eraseIdx];rw[S,aA]
   ·simp only[an7,List.length_cons,List.length_nil,List.length_eraseIdx];rw[S];split<;>omega
   ·rw[<- au];exact k4.erase _
   ·rw[<- au,k4.mem_erase_iff,k5];constructor
    ·rintro⟨G,J,q2,X⟩;exact⟨J,q2,by rw[contains_push,X,ad q2];simpa using G⟩
    ·rintro⟨J,q2,X⟩;rw[contains_push,ad q2,Bool.or_eq_false_iff,decide_eq_false_iff_not]at X;exact⟨X.2,J,q2,X.1⟩
   ·simp only[anr]at A;subst A;exact⟨B,T,by simp⟩
   ·cases m with
    | zero =>
     simp only[List.getElem?_cons_zero,anf]at E;subst E;exact⟨i,B,rfl,T,H.1,by simp⟩
    | succ m =>
     rw[an4,List.getElem?_eraseIdx]at E;have K:(I.drop c.length)[if m<j then m else m+1]? = some k':=by
      by_cases C:m<j
      ·rw[if_pos C]at E ⊢;exact E
      ·rw[if_neg C]at E ⊢;exact E
     rw[ant]at K;obtain⟨i',J,G,q2,X,q4⟩:=k7 _ _ K;rw[av]at G;refine⟨i',J,?_,q2,X,?_⟩
     ·rw[List.singleton_append,an4,List.getElem?_eraseIdx]
      by_cases C:m<j
      ·rw[if_pos C]at G ⊢;exact G
      ·rw[if_neg C]at G ⊢;exact G
     ·simp only[Nat.add_eq_zero_iff,aoV,and_false,if_false,aoA];exact q4
   ·cases m with
    | zero =>
     simp only[List.getElem?_cons_zero,anf]at E;subst E;simp only[if_true];rw[H.2];exact ak Z
    | succ m =>
     rw[an4,List.getElem?_eraseIdx]at E;have K:(vs.drop c.length)[if m<j then m else m+1]? = some x':=by
      by_cases C:m<j
      ·rw[if_pos C]at E ⊢;exact E
      ·rw[if_neg C]at E ⊢;exact E
     rw[ant]at K;simp only[Nat.add_eq_zero_iff,aoV,and_false,if_false,aoA];exact ak (k8 _ _ K)) (fun hh=>by cases hh) (fun _ g' ao j' x' s' n' aN=>by cases j'<;>simp at aN)
  refine aP (v:=.tuple #[.bool true,B.key,B.val]) (w':=w') (by simp[execOp,ho,ae,F]) (.inr ⟨j,k,x,U,W,blk,?_,?_⟩)
  ·show Inv _ _ _ _ _ _ _ (EH (cq h y (some _))) _ _;rw[XU hy R];exact hB.weaken fun _ _ h =>.inl h
  ·have aO:∀Q,Own M (EH (cq h y (some ⟨v,900001,[.mpc (k::(I.drop c.length).eraseIdx j) (x::(vs.drop c.length).eraseIdx j)],false,lst,true⟩))) blk Q->Own M (EH h) blk Q:=by
    rw[XU hy R];rintro Q (hb|⟨z,r',g',hz,aQ,ao,he⟩)
    ·exact .inl hb
    ·by_cases ay:z=y
     ·subst ay;exact .inr ⟨z,_,g',ah,rfl,ao,he⟩
     ·rw[aG _ _ ay]at hz;exact .inr ⟨z,r',g',hz,aQ,ao,he⟩
   refine cd (.tup _ [.bool true,B.key,B.val] rfl fun n d A =>?_)
   match n,A with
   | 0,A=>simp only[List.getElem?_cons_zero,anf]at A;subst A;exact .bool _
   | 1,A =>
    simp only[List.getElem?_cons_succ,List.getElem?_cons_zero,anf]at A;subst A;simp only[an3,an2];rw[H.1];exact Tg k
   | 2,A =>
    simp only[List.getElem?_cons_succ,List.getElem?_cons_zero,anf]at A;subst A;simp only[an3,an2];rw[H.2];exact (ak Z).less aO
   | n+3,A=>simp at A
def VS(E:Inv N M L w0 blk V t (EH h) a w){y v:Nat}{p:Operand}{k:eE}{x:D}{ks:List eE}{vs:List D}{lst:Bool}(J:o.op=.entry p)(K:ev t p=.ptr y v 0)(O:h y=some ⟨v,900001,[.mpc (k::ks) (x::vs)],false,lst,true⟩)(u:y<PK) :
  fC P o a w (l7 N M L w0 V t h a e o.dst ⟨.tup [aek k,x],[]⟩):=by
 obtain⟨g,Z,m,F,z,b,q,f,seen,c,l,us,G,h2,h3,Q,A,R,k2,k3,k4,k5,S,T,k8⟩:=E.iter K O (by omega) u;rw[z,anE]at m;have B:c.length=1:=by rw[R]
 match c,B with
 | [i],_ =>
  obtain⟨r,U,W⟩:=S i (by simp);obtain⟨i',e',H,I,X,r4⟩:=T 0 k rfl;simp only[List.singleton_append,List.getElem?_cons_zero,anf]at H;subst H;rw[U]at I;cases I;obtain⟨Y,C⟩:=Array.back?_eq_some_iff.1 W;rw[C]at G;have s:=run_entry_at (P:=P) w g.1 b f Y q f r G Q (by grind) A.2.1;refine aP (v:=.tuple #[r.key,r.val]) (w':=w) (by simp[execOp,J,m,s]) (bz.fa (h:=EH h) E (cd (.tup _ [r.key,r.val] rfl fun n d j =>?_)))
  match n,j with
  | 0,j =>
   simp only[List.getElem?_cons_zero,anf]at j;subst j;simp only[an2];rw[X];exact Tg k
  | 1,j =>
   simp_all
  | n+2,j=>simp at j
end
def tab(t:Nat):Option Ty :=
 match t with
 | 2=>some ⟨.int .i64,1,8,[.int .i64 0],false⟩
 | 3=>some ⟨.int .i64,1,8,[.int .i64 0],false⟩
 | 4=>some ⟨.bool,1,1,[.bool false],false⟩
 | 5=>some ⟨.int .u8,1,1,[.int .u8 0],false⟩
 | 9=>some ⟨.str,1,16,[.string ⟨#[]⟩],false⟩
 | 12=>some ⟨.int .u64,1,8,[.int .u64 0],false⟩
 | 21=>some ⟨.int .i32,1,4,[.int .i32 0],false⟩
 | 22=>some ⟨.slice 3,1,24,[.slice none 0 0],false⟩
 | 23=>some ⟨.slice 57,1,24,[.slice none 0 0],false⟩
 | 24=>some ⟨.struct [(22,0),(23,1)],2,48,[.slice none 0 0,.slice none 0 0],false⟩
 | 25=>some ⟨.struct [(22,0),(23,1)],2,48,[.slice none 0 0,.slice none 0 0],false⟩
 | 26=>some ⟨.slice 27,1,24,[.slice none 0 0],false⟩
 | 27=>some ⟨.slice 41,1,24,[.slice none 0 0],false⟩
 | 31=>some ⟨.int .i64,1,8,[.int .i64 0],false⟩
 | 38=>some ⟨.struct [(3,0),(22,1)],2,32,[.int .i64 0,.slice none 0 0],false⟩
 | 39=>some ⟨.struct [(3,0),(22,1)],2,32,[.int .i64 0,.slice none 0 0],false⟩
 | 40=>some ⟨.struct [(39,0),(39,2)],4,64,[.int .i64 0,.slice none 0 0,.int .i64 0,.slice none 0 0],false⟩
 | 41=>some ⟨.struct [(39,0),(39,2)],4,64,[.int .i64 0,.slice none 0 0,.int .i64 0,.slice none 0 0],false⟩
 | 51=>some ⟨.slice 83,1,24,[.slice none 0 0],false⟩
 | 52=>some ⟨.slice 60,1,24,[.slice none 0 0],false⟩
 | 53=>some ⟨.struct [(51,0),(52,1),(26,2)],3,72,[.slice none 0 0,.slice none 0 0,.slice none 0 0],false⟩
 | 54=>some ⟨.struct [(51,0),(52,1),(26,2)],3,72,[.slice none 0 0,.slice none 0 0,.slice none 0 0],false⟩
 | 55=>some ⟨.slice 72,1,24,[.slice none 0 0],false⟩
 | 56=>some ⟨.struct [(54,0),(55,3),(22,4)],5,120,[.slice none 0 0,.slice none 0 0,.slice none 0 0,.slice none 0 0,.slice none 0 0],false⟩
 | 57=>some ⟨.struct [(54,0),(55,3),(22,4)],5,120,[.slice none 0 0,.slice none 0 0,.slice none 0 0,.slice none 0 0,.slice none 0 0],false⟩
 | 59=>some ⟨.struct [(3,0),(3,1),(3,2),(9,3)],4,40,[.int .i64 0,.int .i64 0,.int .i64 0,.string ⟨#[]⟩],true⟩
 | 60=>some ⟨.struct [(3,0),(3,1),(3,2),(9,3)],4,40,[.int .i64 0,.int .i64 0,.int .i64 0,.string ⟨#[]⟩],true⟩
 | 63=>some ⟨.int .u16,1,2,[.int .u16 0],false⟩
 | 64=>some ⟨.slice 118,1,24,[.slice none 0 0],false⟩
 | 65=>some ⟨.struct [(3,0),(64,1)],2,32,[.int .i64 0,.slice none 0 0],false⟩
 | 66=>some ⟨.struct [(3,0),(64,1)],2,32,[.int .i64 0,.slice none 0 0],false⟩
 | 69=>some ⟨.slice 4,1,24,[.slice none 0 0],false⟩
 | 71=>some ⟨.struct [(3,0),(3,1)],2,16,[.int .i64 0,.int .i64 0],true⟩
 | 72=>some ⟨.struct [(3,0),(3,1)],2,16,[.int .i64 0,.int .i64 0],true⟩
 | 77=>some ⟨.slice 133,1,24,[.slice none 0 0],false⟩
 | 82=>some ⟨.struct [(3,0),(3,1),(3,2)],3,24,[.int .i64 0,.int .i64 0,.int .i64 0],true⟩
 | 83=>some ⟨.struct [(3,0),(3,1),(3,2)],3,24,[.int .i64 0,.int .i64 0,.int .i64 0],true⟩
 | 113=>some ⟨.map 116 41,1,8,[.map none],false⟩
 | 115=>some ⟨.struct [(3,0),(3,1)],2,16,[.int .i64 0,.int .i64 0],true⟩
 | 116=>some ⟨.struct [(3,0),(3,1)],2,16,[.int .i64 0,.int .i64 0],true⟩
 | 117=>some ⟨.struct [(3,0),(3,1),(41,2)],6,80,[.int .i64 0,.int .i64 0,.int .i64 0,.slice none 0 0,.int .i64 0,.slice none 0 0],false⟩
 | 118=>some ⟨.struct [(3,0),(3,1),(41,2)],6,80,[.int .i64 0,.int .i64 0,.int .i64 0,.slice none 0 0,.int .i64 0,.slice none 0 0],false⟩
 | 124=>some ⟨.slice 128,1,24,[.slice none 0 0],false⟩
 | 126=>some ⟨.slice 130,1,24,[.slice none 0 0],false⟩
 | 127=>some ⟨.struct [(41,0),(126,4)],5,88,[.int .i64 0,.slice none 0 0,.int .i64 0,.slice none 0 0,.slice none 0 0],false⟩
 | 128=>some ⟨.struct [(41,0),(126,4)],5,88,[.int .i64 0,.slice none 0 0,.int .i64 0,.slice none 0 0,.slice none 0 0],false⟩
 | 129=>some ⟨.struct [(3,0),(41,1)],5,72,[.int .i64 0,.int .i64 0,.slice none 0 0,.int .i64 0,.slice none 0 0],false⟩
 | 130=>some ⟨.struct [(3,0),(41,1)],5,72,[.int .i64 0,.int .i64 0,.slice none 0 0,.int .i64 0,.slice none 0 0],false⟩
 | 132=>some ⟨.struct [(3,0),(41,1)],5,72,[.int .i64 0,.int .i64 0,.slice none 0 0,.int .i64 0,.slice none 0 0],false⟩
 | 133=>some ⟨.struct [(3,0),(41,1)],5,72,[.int .i64 0,.int .i64 0,.slice none 0 0,.int .i64 0,.slice none 0 0],false⟩
 | 152=>some ⟨.int .u64,1,8,[.int .u64 0],false⟩
 | 153=>some ⟨.int .u64,1,8,[.int .u64 0],false⟩
 | 183=>some ⟨.int .i64,1,8,[.int .i64 0],false⟩
 | 190=>some ⟨.int .u32,1,4,[.int .u32 0],false⟩
 | 199=>some ⟨.slice 22,1,24,[.slice none 0 0],false⟩
 | 207=>some ⟨.int .u64,1,8,[.int .u64 0],false⟩
 | _=>none
def aac:tab 3=some ⟨.int .i64,1,8,[.int .i64 0],false⟩:=rfl
def air:tab 4=some ⟨.bool,1,1,[.bool false],false⟩:=rfl
def ais:tab 5=some ⟨.int .u8,1,1,[.int .u8 0],false⟩:=rfl
def afC:tab 9=some ⟨.str,1,16,[.string ⟨#[]⟩],false⟩:=rfl
def Qu:tab 22=some ⟨.slice 3,1,24,[.slice none 0 0],false⟩:=rfl
def Xo:tab 23=some ⟨.slice 57,1,24,[.slice none 0 0],false⟩:=rfl
def Qv:tab 25=some ⟨.struct [(22,0),(23,1)],2,48,[.slice none 0 0,.slice none 0 0],false⟩:=rfl
def Qw:tab 26=some ⟨.slice 27,1,24,[.slice none 0 0],false⟩:=rfl
def Qx:tab 27=some ⟨.slice 41,1,24,[.slice none 0 0],false⟩:=rfl
def Xp:tab 39=some ⟨.struct [(3,0),(22,1)],2,32,[.int .i64 0,.slice none 0 0],false⟩:=rfl
def Qy:tab 41=some ⟨.struct [(39,0),(39,2)],4,64,[.int .i64 0,.slice none 0 0,.int .i64 0,.slice none 0 0],false⟩:=rfl
def Xq:tab 51=some ⟨.slice 83,1,24,[.slice none 0 0],false⟩:=rfl
def Xr:tab 52=some ⟨.slice 60,1,24,[.slice none 0 0],false⟩:=rfl
def Xs:tab 54=some ⟨.struct [(51,0),(52,1),(26,2)],3,72,[.slice none 0 0,.slice none 0 0,.slice none 0 0],false⟩:=rfl
def Xt:tab 55=some ⟨.slice 72,1,24,[.slice none 0 0],false⟩:=rfl
def Qz:tab 57=some ⟨.struct [(54,0),(55,3),(22,4)],5,120,[.slice none 0 0,.slice none 0 0,.slice none 0 0,.slice none 0 0,.slice none 0 0],false⟩:=rfl
def QA:tab 60=some ⟨.struct [(3,0),(3,1),(3,2),(9,3)],4,40,[.int .i64 0,.int .i64 0,.int .i64 0,.string ⟨#[]⟩],true⟩:=rfl
def afA:tab 64=some ⟨.slice 118,1,24,[.slice none 0 0],false⟩:=rfl
def afB:tab 66=some ⟨.struct [(3,0),(64,1)],2,32,[.int .i64 0,.slice none 0 0],false⟩:=rfl
def QB:tab 72=some ⟨.struct [(3,0),(3,1)],2,16,[.int .i64 0,.int .i64 0],true⟩:=rfl
def QC:tab 83=some ⟨.struct [(3,0),(3,1),(3,2)],3,24,[.int .i64 0,.int .i64 0,.int .i64 0],true⟩:=rfl
def Z2:tab 113=some ⟨.map 116 41,1,8,[.map none],false⟩:=rfl
def Z3:tab 116=some ⟨.struct [(3,0),(3,1)],2,16,[.int .i64 0,.int .i64 0],true⟩:=rfl
def Z4:tab 118=some ⟨.struct [(3,0),(3,1),(41,2)],6,80,[.int .i64 0,.int .i64 0,.int .i64 0,.slice none 0 0,.int .i64 0,.slice none 0 0],false⟩:=rfl
def Z5:tab 124=some ⟨.slice 128,1,24,[.slice none 0 0],false⟩:=rfl
def Z6:tab 126=some ⟨.slice 130,1,24,[.slice none 0 0],false⟩:=rfl
def Qt:tab 128=some ⟨.struct [(41,0),(126,4)],5,88,[.int .i64 0,.slice none 0 0,.int .i64 0,.slice none 0 0,.slice none 0 0],false⟩:=rfl
def Z7:tab 130=some ⟨.struct [(3,0),(41,1)],5,72,[.int .i64 0,.int .i64 0,.slice none 0 0,.int .i64 0,.slice none 0 0],false⟩:=rfl
def Z8:tab 152=some ⟨.int .u64,1,8,[.int .u64 0],false⟩:=rfl
def Z9:tab 153=some ⟨.int .u64,1,8,[.int .u64 0],false⟩:=rfl
def aaa:tab 190=some ⟨.int .u32,1,4,[.int .u32 0],false⟩:=rfl
def aab:tab 199=some ⟨.slice 22,1,24,[.slice none 0 0],false⟩:=rfl
def amw:eY prog 2 ⟨.int .i64,1,8,[.int .i64 0],false⟩:=⟨by kernel_rfl,by kernel_rfl,by kernel_rfl,fun h=>by cases h⟩
def amx:eY prog 3 ⟨.int .i64,1,8,[.int .i64 0],false⟩:=⟨by kernel_rfl,by kernel_rfl,by kernel_rfl,fun h=>by cases h⟩
def amy:eY prog 4 ⟨.bool,1,1,[.bool false],false⟩:=⟨by kernel_rfl,by kernel_rfl,by kernel_rfl,fun h=>by cases h⟩
def amz:eY prog 5 ⟨.int .u8,1,1,[.int .u8 0],false⟩:=⟨by kernel_rfl,by kernel_rfl,by kernel_rfl,fun h=>by cases h⟩
def amA:eY prog 9 ⟨.str,1,16,[.string ⟨#[]⟩],false⟩:=⟨by kernel_rfl,by kernel_rfl,by kernel_rfl,fun h=>by cases h⟩
def alb:eY prog 12 ⟨.int .u64,1,8,[.int .u64 0],false⟩:=⟨by kernel_rfl,by kernel_rfl,by kernel_rfl,fun h=>by cases h⟩
def alc:eY prog 21 ⟨.int .i32,1,4,[.int .i32 0],false⟩:=⟨by kernel_rfl,by kernel_rfl,by kernel_rfl,fun h=>by cases h⟩
def ald:eY prog 22 ⟨.slice 3,1,24,[.slice none 0 0],false⟩:=⟨by kernel_rfl,by kernel_rfl,by kernel_rfl,fun h=>by cases h⟩
def ale:eY prog 23 ⟨.slice 57,1,24,[.slice none 0 0],false⟩:=⟨by kernel_rfl,by kernel_rfl,by kernel_rfl,fun h=>by cases h⟩
def alf:eY prog 24 ⟨.struct [(22,0),(23,1)],2,48,[.slice none 0 0,.slice none 0 0],false⟩:=⟨by kernel_rfl,by kernel_rfl,by kernel_rfl,fun h=>by cases h⟩
def alg:eY prog 25 ⟨.struct [(22,0),(23,1)],2,48,[.slice none 0 0,.slice none 0 0],false⟩:=⟨by kernel_rfl,by kernel_rfl,by kernel_rfl,fun h=>by cases h⟩
def alh:eY prog 26 ⟨.slice 27,1,24,[.slice none 0 0],false⟩:=⟨by kernel_rfl,by kernel_rfl,by kernel_rfl,fun h=>by cases h⟩
def alj:eY prog 27 ⟨.slice 41,1,24,[.slice none 0 0],false⟩:=⟨by kernel_rfl,by kernel_rfl,by kernel_rfl,fun h=>by cases h⟩
def alk:eY prog 31 ⟨.int .i64,1,8,[.int .i64 0],false⟩:=⟨by kernel_rfl,by kernel_rfl,by kernel_rfl,fun h=>by cases h⟩
def aln:eY prog 38 ⟨.struct [(3,0),(22,1)],2,32,[.int .i64 0,.slice none 0 0],false⟩:=⟨by kernel_rfl,by kernel_rfl,by kernel_rfl,fun h=>by cases h⟩
def alo:eY prog 39 ⟨.struct [(3,0),(22,1)],2,32,[.int .i64 0,.slice none 0 0],false⟩:=⟨by kernel_rfl,by kernel_rfl,by kernel_rfl,fun h=>by cases h⟩
def alp:eY prog 40 ⟨.struct [(39,0),(39,2)],4,64,[.int .i64 0,.slice none 0 0,.int .i64 0,.slice none 0 0],false⟩:=⟨by kernel_rfl,by kernel_rfl,by kernel_rfl,fun h=>by cases h⟩
def alq:eY prog 41 ⟨.struct [(39,0),(39,2)],4,64,[.int .i64 0,.slice none 0 0,.int .i64 0,.slice none 0 0],false⟩:=⟨by kernel_rfl,by kernel_rfl,by kernel_rfl,fun h=>by cases h⟩
def alr:eY prog 51 ⟨.slice 83,1,24,[.slice none 0 0],false⟩:=⟨by kernel_rfl,by kernel_rfl,by kernel_rfl,fun h=>by cases h⟩
def als:eY prog 52 ⟨.slice 60,1,24,[.slice none 0 0],false⟩:=⟨by kernel_rfl,by kernel_rfl,by kernel_rfl,fun h=>by cases h⟩
def alu:eY prog 53 ⟨.struct [(51,0),(52,1),(26,2)],3,72,[.slice none 0 0,.slice none 0 0,.slice none 0 0],false⟩:=⟨by kernel_rfl,by kernel_rfl,by kernel_rfl,fun h=>by cases h⟩
def alv:eY prog 54 ⟨.struct [(51,0),(52,1),(26,2)],3,72,[.slice none 0 0,.slice none 0 0,.slice none 0 0],false⟩:=⟨by kernel_rfl,by kernel_rfl,by kernel_rfl,fun h=>by cases h⟩
def alw:eY prog 55 ⟨.slice 72,1,24,[.slice none 0 0],false⟩:=⟨by kernel_rfl,by kernel_rfl,by kernel_rfl,fun h=>by cases h⟩
def alx:eY prog 56 ⟨.struct [(54,0),(55,3),(22,4)],5,120,[.slice none 0 0,.slice none 0 0,.slice none 0 0,.slice none 0 0,.slice none 0 0],false⟩:=⟨by kernel_rfl,by kernel_rfl,by kernel_rfl,fun h=>by cases h⟩
def aly:eY prog 57 ⟨.struct [(54,0),(55,3),(22,4)],5,120,[.slice none 0 0,.slice none 0 0,.slice none 0 0,.slice none 0 0,.slice none 0 0],false⟩:=⟨by kernel_rfl,by kernel_rfl,by kernel_rfl,fun h=>by cases h⟩
def alz:eY prog 59 ⟨.struct [(3,0),(3,1),(3,2),(9,3)],4,40,[.int .i64 0,.int .i64 0,.int .i64 0,.string ⟨#[]⟩],true⟩:=⟨by kernel_rfl,by kernel_rfl,by kernel_rfl,fun _=>⟨by kernel_rfl,by kernel_rfl,by kernel_rfl⟩⟩
def alA:eY prog 60 ⟨.struct [(3,0),(3,1),(3,2),(9,3)],4,40,[.int .i64 0,.int .i64 0,.int .i64 0,.string ⟨#[]⟩],true⟩:=⟨by kernel_rfl,by kernel_rfl,by kernel_rfl,fun _=>⟨by kernel_rfl,by kernel_rfl,by kernel_rfl⟩⟩
def alB:eY prog 63 ⟨.int .u16,1,2,[.int .u16 0],false⟩:=⟨by kernel_rfl,by kernel_rfl,by kernel_rfl,fun h=>by cases h⟩
def alC:eY prog 64 ⟨.slice 118,1,24,[.slice none 0 0],false⟩:=⟨by kernel_rfl,by kernel_rfl,by kernel_rfl,fun h=>by cases h⟩
def alE:eY prog 65 ⟨.struct [(3,0),(64,1)],2,32,[.int .i64 0,.slice none 0 0],false⟩:=⟨by kernel_rfl,by kernel_rfl,by kernel_rfl,fun h=>by cases h⟩
def alF:eY prog 66 ⟨.struct [(3,0),(64,1)],2,32,[.int .i64 0,.slice none 0 0],false⟩:=⟨by kernel_rfl,by kernel_rfl,by kernel_rfl,fun h=>by cases h⟩
def alG:eY prog 69 ⟨.slice 4,1,24,[.slice none 0 0],false⟩:=⟨by kernel_rfl,by kernel_rfl,by kernel_rfl,fun h=>by cases h⟩
def alH:eY prog 71 ⟨.struct [(3,0),(3,1)],2,16,[.int .i64 0,.int .i64 0],true⟩:=⟨by kernel_rfl,by kernel_rfl,by kernel_rfl,fun _=>⟨by kernel_rfl,by kernel_rfl,by kernel_rfl⟩⟩
def alI:eY prog 72 ⟨.struct [(3,0),(3,1)],2,16,[.int .i64 0,.int .i64 0],true⟩:=⟨by kernel_rfl,by kernel_rfl,by kernel_rfl,fun _=>⟨by kernel_rfl,by kernel_rfl,by kernel_rfl⟩⟩
def alJ:eY prog 77 ⟨.slice 133,1,24,[.slice none 0 0],false⟩:=⟨by kernel_rfl,by kernel_rfl,by kernel_rfl,fun h=>by cases h⟩
def alK:eY prog 82 ⟨.struct [(3,0),(3,1),(3,2)],3,24,[.int .i64 0,.int .i64 0,.int .i64 0],true⟩:=⟨by kernel_rfl,by kernel_rfl,by kernel_rfl,fun _=>⟨by kernel_rfl,by kernel_rfl,by kernel_rfl⟩⟩
def alL:eY prog 83 ⟨.struct [(3,0),(3,1),(3,2)],3,24,[.int .i64 0,.int .i64 0,.int .i64 0],true⟩:=⟨by kernel_rfl,by kernel_rfl,by kernel_rfl,fun _=>⟨by kernel_rfl,by kernel_rfl,by kernel_rfl⟩⟩
def ajr:eY prog 113 ⟨.map 116 41,1,8,[.map none],false⟩:=⟨by kernel_rfl,by kernel_rfl,by kernel_rfl,fun h=>by cases h⟩
def ajs:eY prog 115 ⟨.struct [(3,0),(3,1)],2,16,[.int .i64 0,.int .i64 0],true⟩:=⟨by kernel_rfl,by kernel_rfl,by kernel_rfl,fun _=>⟨by kernel_rfl,by kernel_rfl,by kernel_rfl⟩⟩
def ajt:eY prog 116 ⟨.struct [(3,0),(3,1)],2,16,[.int .i64 0,.int .i64 0],true⟩:=⟨by kernel_rfl,by kernel_rfl,by kernel_rfl,fun _=>⟨by kernel_rfl,by kernel_rfl,by kernel_rfl⟩⟩
def aju:eY prog 117 ⟨.struct [(3,0),(3,1),(41,2)],6,80,[.int .i64 0,.int .i64 0,.int .i64 0,.slice none 0 0,.int .i64 0,.slice none 0 0],false⟩:=⟨by kernel_rfl,by kernel_rfl,by kernel_rfl,fun h=>by cases h⟩
def ajv:eY prog 118 ⟨.struct [(3,0),(3,1),(41,2)],6,80,[.int .i64 0,.int .i64 0,.int .i64 0,.slice none 0 0,.int .i64 0,.slice none 0 0],false⟩:=⟨by kernel_rfl,by kernel_rfl,by kernel_rfl,fun h=>by cases h⟩
def ajw:eY prog 124 ⟨.slice 128,1,24,[.slice none 0 0],false⟩:=⟨by kernel_rfl,by kernel_rfl,by kernel_rfl,fun h=>by cases h⟩
def ajx:eY prog 126 ⟨.slice 130,1,24,[.slice none 0 0],false⟩:=⟨by kernel_rfl,by kernel_rfl,by kernel_rfl,fun h=>by cases h⟩
def ajy:eY prog 127 ⟨.struct [(41,0),(126,4)],5,88,[.int .i64 0,.slice none 0 0,.int .i64 0,.slice none 0 0,.slice none 0 0],false⟩:=⟨by kernel_rfl,by kernel_rfl,by kernel_rfl,fun h=>by cases h⟩
def ajz:eY prog 128 ⟨.struct [(41,0),(126,4)],5,88,[.int .i64 0,.slice none 0 0,.int .i64 0,.slice none 0 0,.slice none 0 0],false⟩:=⟨by kernel_rfl,by kernel_rfl,by kernel_rfl,fun h=>by cases h⟩
def ajA:eY prog 129 ⟨.struct [(3,0),(41,1)],5,72,[.int .i64 0,.int .i64 0,.slice none 0 0,.int .i64 0,.slice none 0 0],false⟩:=⟨by kernel_rfl,by kernel_rfl,by kernel_rfl,fun h=>by cases h⟩
def ajB:eY prog 130 ⟨.struct [(3,0),(41,1)],5,72,[.int .i64 0,.int .i64 0,.slice none 0 0,.int .i64 0,.slice none 0 0],false⟩:=⟨by kernel_rfl,by kernel_rfl,by kernel_rfl,fun h=>by cases h⟩
def ajC:eY prog 132 ⟨.struct [(3,0),(41,1)],5,72,[.int .i64 0,.int .i64 0,.slice none 0 0,.int .i64 0,.slice none 0 0],false⟩:=⟨by kernel_rfl,by kernel_rfl,by kernel_rfl,fun h=>by cases h⟩
def ajD:eY prog 133 ⟨.struct [(3,0),(41,1)],5,72,[.int .i64 0,.int .i64 0,.slice none 0 0,.int .i64 0,.slice none 0 0],false⟩:=⟨by kernel_rfl,by kernel_rfl,by kernel_rfl,fun h=>by cases h⟩
def ajE:eY prog 152 ⟨.int .u64,1,8,[.int .u64 0],false⟩:=⟨by kernel_rfl,by kernel_rfl,by kernel_rfl,fun h=>by cases h⟩
def ajF:eY prog 153 ⟨.int .u64,1,8,[.int .u64 0],false⟩:=⟨by kernel_rfl,by kernel_rfl,by kernel_rfl,fun h=>by cases h⟩
def ajG:eY prog 183 ⟨.int .i64,1,8,[.int .i64 0],false⟩:=⟨by kernel_rfl,by kernel_rfl,by kernel_rfl,fun h=>by cases h⟩
def ajH:eY prog 190 ⟨.int .u32,1,4,[.int .u32 0],false⟩:=⟨by kernel_rfl,by kernel_rfl,by kernel_rfl,fun h=>by cases h⟩
def ajI:eY prog 199 ⟨.slice 22,1,24,[.slice none 0 0],false⟩:=⟨by kernel_rfl,by kernel_rfl,by kernel_rfl,fun h=>by cases h⟩
def ajJ:eY prog 207 ⟨.int .u64,1,8,[.int .u64 0],false⟩:=⟨by kernel_rfl,by kernel_rfl,by kernel_rfl,fun h=>by cases h⟩
def tok:km prog tab:=by
 intro t τ h;unfold tab at h;split at h
 ·cases h;exact amw
 ·cases h;exact amx
 ·cases h;exact amy
 ·cases h;exact amz
 ·cases h;exact amA
 ·cases h;exact alb
 ·cases h;exact alc
 ·cases h;exact ald
 ·cases h;exact ale
 ·cases h;exact alf
 ·cases h;exact alg
 ·cases h;exact alh
 ·cases h;exact alj
 ·cases h;exact alk
 ·cases h;exact aln
 ·cases h;exact alo
 ·cases h;exact alp
 ·cases h;exact alq
 ·cases h;exact alr
 ·cases h;exact als
 ·cases h;exact alu
 ·cases h;exact alv
 ·cases h;exact alw
 ·cases h;exact alx
 ·cases h;exact aly
 ·cases h;exact alz
 ·cases h;exact alA
 ·cases h;exact alB
 ·cases h;exact alC
 ·cases h;exact alE
 ·cases h;exact alF
 ·cases h;exact alG
 ·cases h;exact alH
 ·cases h;exact alI
 ·cases h;exact alJ
 ·cases h;exact alK
 ·cases h;exact alL
 ·cases h;exact ajr
 ·cases h;exact ajs
 ·cases h;exact ajt
 ·cases h;exact aju
 ·cases h;exact ajv
 ·cases h;exact ajw
 ·cases h;exact ajx
 ·cases h;exact ajy
 ·cases h;exact ajz
 ·cases h;exact ajA
 ·cases h;exact ajB
 ·cases h;exact ajC
 ·cases h;exact ajD
 ·cases h;exact ajE
 ·cases h;exact ajF
 ·cases h;exact ajG
 ·cases h;exact ajH
 ·cases h;exact ajI
 ·cases h;exact ajJ
 ·cases h
def mixed:Tryz.prog.follows .mixedOrders=true:=by kernel_rfl
def xh{α:Type}(x:Option α)(K:α->Prop):Prop :=
 match x with
 | some a=>K a
 | none=>False
def br(b:Bool)(A B:Prop):Prop:=(b=true->A)∧(b=false->B)
def XM(d:D)(t:Nat->D)(g:Nat)(A B:(Nat->D)->Prop):Prop :=
 match d with
 | .bool b=>br b (A (cq t g (.bool b))) (B (cq t g (.bool b)))
 | _=>False
def wpS(d:D)(t:Nat->D)(g:Nat)(A B S:(Nat->D)->Prop):Prop :=
 match d with
 | .skp=>S t
 | d=>XM d t g A B
def Ef{t:Nat->D}{g:Nat}{b:Bool}{A B S:(Nat->D)->Prop}:wpS (.bool b) t g A B S=br b (A (cq t g (.bool b))) (B (cq t g (.bool b))):=rfl
def wpG(ops:List Oper)(t:Nat->D)(gd:Option (Nat×Bool))(A B:(Nat->D)->Prop):Prop :=
 match gd with
 | none=>A t
 | some (j,a)=>xh ((ops[j]?).bind (·.dst)) fun g=>wpS (t g) t g (if a then A else B) (if a then B else A) B
def Vv(T:Nat->Option Ty)(Γ:Env)(e:Nat)(o:Oper)(t:Nat->D)(h:Nat->Option Row)(K:(Nat->D)->cI->Prop):Prop :=
 match o.op with
 | .pick (.tmp c) a b=>XM (t c) t c (fun t=>K t ⟨ev t a,[]⟩) (fun t=>K t ⟨ev t b,[]⟩)
 | _=>xh (tE T Γ e o (ev t) h) (K t)
def Kw(T:Nat->Option Ty)(Γ:Env)(N e:Nat)(ops:List Oper):List Oper->(Nat->D)->(Nat->Option Row)->((Nat->D)->(Nat->Option Row)->Prop)->Prop
 | [],t,h,K=>K t h
 | o::l,t,h,K=>fits N o.dst=true∧wpG ops t o.guard (fun t=>Vv T Γ e o t h fun t E=>Kw T Γ N e ops l (gq t o.dst E.val) (aW h E.hw) K) (fun t=>Kw T Γ N e ops l (gq t o.dst .skp) h K)
def runK(T:Nat->Option Ty)(Γ:Env)(N e:Nat)(ops:List Oper):List Oper->(Nat->D)->(Nat->Option Row)->List nQ->((Nat->D)->(Nat->Option Row)->List nQ->Prop)->Prop
 | [],t,h,fs,K=>K t h fs
 | o::l,t,h,fs,K=>fits N o.dst=true∧wpG ops t o.guard (fun t=>Vv T Γ e o t h fun t E=>runK T Γ N e ops l (gq t o.dst E.val) (aW h E.hw) (fs++[⟨dn o (ev t),E.hw.isEmpty⟩]) K) (fun t=>runK T Γ N e ops l (gq t o.dst .skp) h (fs++[⟨[],true⟩]) K)
abbrev Kt:=Ex->(Nat->D)->(Nat->Option Row)->Nat->Prop
def akT(x:Ex)(A:Prop)(B:Prop):Prop :=
 match x with
 | .normal=>A
 | _=>B
def ac1(id:Nat)(x:Ex)(t:Nat->D)(h:Nat->Option Row)(e:Nat)(K:Kt):Prop :=
 match x with
 | .exit n=>if n=id then K .normal t h e else K (.exit n) t h e
 | x=>K x t h e
def wpR(T:Nat->Option Ty)(Γ:Env)(N:Nat)(ops:Array Oper)(a:Bool)(t:Nat->D)(h:Nat->Option Row)(e:Nat)(K:(Nat->D)->(Nat->Option Row)->Prop):Prop :=
 match a with
 | true=>runK T Γ N e ops.toList ops.toList t h [] fun t h fs=>Ix ops fs=true∧K t h
 | false=>Kw T Γ N e ops.toList ops.toList t h K
def QN(T:Nat->Option Ty)(Γ:Env)(N F:Nat):Code->(Nat->D)->(Nat->Option Row)->Nat->Kt->Prop
 | .skip,t,h,e,K=>K .normal t h e
 | .region _ ops draw,t,h,e,K=>wpR T Γ N ops draw t h e fun t h=>K .normal t h (e+1)
 | .seq a b,t,h,e,K=>QN T Γ N F a t h e fun x t h e=>akT x (QN T Γ N F b t h e K) (K x t h e)
 | .cond c x y,t,h,e,K =>
  match c with
  | .tmp g=>XM (t g) t g (fun t=>QN T Γ N F x t h e K) (fun t=>QN T Γ N F y t h e K)
  | .const (.bool true)=>QN T Γ N F x t h e K
  | .const (.bool false)=>QN T Γ N F y t h e K
  | _=>False
 | .block id b,t,h,e,K=>QN T Γ N F b t h e fun x t h e=>ac1 id x t h e K
 | .loop b,t,h,e,K=>∃x s,iter (iP T Γ N F b) F ⟨t,h,e⟩=some (x,s)∧K x s.t s.h s.e
 | .exit id,t,h,e,K=>K (.exit id) t h e
 | .ret,t,h,e,K=>K .ret t h e
 | _,_,_,_,_=>False
def aiP(a:Mode)(T:Nat->Option Ty)(cg:Option (D×Row))(rs:List ResultVar)(x:Ex)(t:Nat->D)(h:Nat->Option Row)(e:Nat)(r:RK×Option Row):Prop :=
 match x with
 | .exit _=>False
 | _=>gF a T cg rs ⟨t,EH h,e⟩=some r
def wpf(b:Mode)(T:Nat->Option Ty)(Γ:Env)(F:Nat)(d:Func)(cg:Option (D×Row))(a:List D)(r:RK×Option Row):Prop :=
 xh d.body fun c=>QN T Γ d.ntmps F c (cP cg a).t (cP cg a).h (cP cg a).e fun x t h e=>aiP b T cg d.results.toList x t h e r
def JQ{α:Type}(a:α)(K:α->Prop):xh (some a) K=K a:=rfl
def JO{α:Type}{x:Option α}{K:α->Prop}(h:xh x K):∃a,x=some a∧K a:=by
 cases x with
 | none=>exact h.elim
 | some a=>exact⟨a,rfl,h⟩
def XG{t:Nat->D}{g:Nat}{d:D}(h:t g=d):cq t g d=t:=by
 funext j;unfold cq;simp_all
def agk(A B:Prop):br true A B=A:=by simp[br]
def ac3(A B:Prop):br false A B=B:=by simp[br]
def agj{b:Bool}{A B:Prop}(h:br b A B):if b then A else B:=by
 cases b with
 | true=>exact h.1 rfl
 | false=>exact h.2 rfl
def afZ{t:Nat->D}{g:Nat}{b:Bool}{A B:(Nat->D)->Prop}:XM (.bool b) t g A B=br b (A (cq t g (.bool b))) (B (cq t g (.bool b))):=rfl
def Ed{t:Nat->D}{g:Nat}{A B:(Nat->D)->Prop}(h:t g=.bool true):XM (.bool true) t g A B=A t:=by simp[XM,XG h,agk]
def BC{t:Nat->D}{g:Nat}{A B:(Nat->D)->Prop}(h:t g=.bool false):XM (.bool false) t g A B=B t:=by simp[XM,XG h,ac3]
def Eg{t:Nat->D}{g:Nat}{A B S:(Nat->D)->Prop}(h:t g=.bool true):wpS (.bool true) t g A B S=A t:=Ed h
def BD{t:Nat->D}{g:Nat}{A B S:(Nat->D)->Prop}(h:t g=.bool false):wpS (.bool false) t g A B S=B t:=BC h
def XN{t:Nat->D}{g:Nat}{A B:(Nat->D)->Prop}(h:XM (t g) t g A B):∃b,t g=.bool b∧(if b then A t else B t):=by
 unfold XM at h;split at h
 ·rename_i b a;rw[XG a]at h;exact⟨b,a,agj h⟩
 ·exact h.elim
section
variable {T:Nat->Option Ty} {Γ:Env} {N F e:Nat}
def af2{ops:Array Oper}{t:Nat->D}{o:Oper}{A B:(Nat->D)->Prop}(h:wpG ops.toList t o.guard A B):∃b,Ac ops t o=some b∧(if b then A t else B t):=by
 unfold wpG at h;unfold Ac;split at h
 ·simp_all
 ·rename_i j c e;try rw[e]
  obtain⟨g,d,a⟩:=JO h;rw[an9]at d;unfold wpS at a;split at a
  ·simp_all
  ·obtain⟨b,f,i⟩:=XN a;simp only[d,f];grind
def af0{o:Oper}{t:Nat->D}{h:Nat->Option Row}{K:(Nat->D)->cI->Prop}(d:Vv T Γ e o t h K):∃E,tE T Γ e o (ev t) h=some E∧K t E:=by
 unfold Vv at d;split at d
 ·rename_i c a b g;obtain⟨v,f,j⟩:=XN d;have i:su Γ e h o.dst none=none:=by cases o.dst<;>rfl
  cases v with
  | true=>exact⟨⟨ev t a,[]⟩,by unfold tE jN vr;rw[g];simp only[ev,f,or2,nO,kr,i],by simp_all⟩
  | false=>exact⟨⟨ev t b,[]⟩,by unfold tE jN vr;rw[g];simp only[ev,f,or2,nO,kr,i],by simp_all⟩
 ·obtain⟨E,f,j⟩:=JO d;simp_all
def D5{ops:Array Oper}{K:(Nat->D)->(Nat->Option Row)->Prop}:∀(l:List Oper)(t:Nat->D)(h:Nat->Option Row),Kw T Γ N e ops.toList l t h K->∃a c fs,FB T Γ N e ops l t h=some (a,c,fs)∧K a c
 | [],t,h,hk=>⟨t,h,[],rfl,hk⟩
 | o::l,t,h,hk=>by
  unfold Kw at hk;obtain⟨f,g⟩:=hk;obtain⟨b,i,d⟩:=af2 g;unfold FB step1;rw[if_pos f,i];cases b with
  | true =>
   obtain⟨E,n,j⟩:=af0 (by simpa using d);obtain⟨a,c,fs,k,m⟩:=D5 l _ _ j;grind
  | false =>
   obtain⟨a,c,fs,k,m⟩:=D5 l _ _ (by simpa using d);grind
def Qf{ops:Array Oper}{K:(Nat->D)->(Nat->Option Row)->List nQ->Prop}:∀(l:List Oper)(t:Nat->D)(h:Nat->Option Row)(f0:List nQ),runK T Γ N e ops.toList l t h f0 K->∃a c fs,FB T Γ N e ops l t h=some (a,c,fs)∧K a c (f0++fs)
 | [],t,h,f0,hk=>⟨t,h,[],rfl,by unfold runK at hk;simpa using hk⟩
 | o::l,t,h,f0,hk=>by
  unfold runK at hk;obtain⟨f,g⟩:=hk;obtain⟨b,i,d⟩:=af2 g;unfold FB step1;rw[if_pos f,i];cases b with
  | true =>
   obtain⟨E,n,j⟩:=af0 (by simpa using d);obtain⟨a,c,fs,k,m⟩:=Qf l _ _ _ j;grind
  | false =>
   obtain⟨a,c,fs,k,m⟩:=Qf l _ _ _ (by simpa using d);grind
def ajM{ops:Array Oper}{a:Bool}{t:Nat->D}{h:Nat->Option Row}{K:(Nat->D)->(Nat->Option Row)->Prop}(d:wpR T Γ N ops a t h e K):∃b c,BB T Γ N ops a ⟨t,h,e⟩=some (.normal,⟨b,c,e+1⟩)∧K b c:=by
 unfold BB;cases a with
 | false =>
  obtain⟨b,c,fs,f,g⟩:=D5 _ _ _ d;grind
 | true =>
  obtain⟨b,c,fs,f,g,i⟩:=Qf _ _ _ _ d;grind
def FO:∀(c:Code)(t:Nat->D)(h:Nat->Option Row)(e:Nat)(K:Kt),QN T Γ N F c t h e K->∃x s,iP T Γ N F c ⟨t,h,e⟩=some (x,s)∧K x s.t s.h s.e:=by
 intro c
 induction c with
 | skip=>intro t h e K d;exact⟨_,_,rfl,d⟩
 | region i ops draw =>
  intro t h e K d;obtain⟨w,z,j,f⟩:=ajM d;exact⟨_,_,j,f⟩
 | seq a b k l =>
  intro t h e K d;obtain⟨x,s,j,f⟩:=k _ _ _ _ d;simp only[iP,j];cases x with
  | normal =>
   obtain⟨q,r,u,v⟩:=l _ _ _ _ f;exact⟨q,r,u,v⟩
  | exit n=>exact⟨_,_,rfl,f⟩
  | ret=>exact⟨_,_,rfl,f⟩
 | cond c x y m o =>
  intro t h e K d;unfold QN at d;split at d
  ·rename_i g;obtain⟨b,j,f⟩:=XN d;simp only[iP,ev,j,Vs];grind
  ·simpa only[iP,ev,sf,Vs,if_true] using m _ _ _ _ d
  ·simpa only[iP,ev,sf,Vs,anD,if_false] using o _ _ _ _ d
  ·exact d.elim
 | block id b p =>
  intro t h e K d;obtain⟨x,s,j,f⟩:=p _ _ _ _ d;simp only[iP,j];cases x with
  | normal=>exact⟨_,_,rfl,f⟩
  | ret=>exact⟨_,_,rfl,f⟩
  | exit n =>
   simp only[XJ];unfold ac1 at f;grind
 | loop b p=>intro t h e K d;exact d
 | exit id=>intro t h e K d;exact⟨_,_,rfl,d⟩
 | ret=>intro t h e K d;exact⟨_,_,rfl,d⟩
 | _=>intro t h e K d;exact d.elim
def XO{b:Mode}{d:Func}{cg:Option (D×Row)}{a:List D}{r:RK×Option Row}(h:wpf b T Γ F d cg a r)(e:d.ntmps<=PK):lP b T Γ F d cg a=some r:=by
 obtain⟨c,f,g⟩:=JO h;obtain⟨x,s,i,j⟩:=FO _ _ _ _ _ g;unfold lP;simp only[f];rw[if_pos e];have k:cP cg a=⟨(cP cg a).t,(cP cg a).h,(cP cg a).e⟩:=rfl;rw[k,i];unfold aiP at j;grind
def aak{α:Type}(f:Nat->α)(i:Nat)(v:α)(j:Nat):cq f i v j=if j=i then v else f j:=apL
def Dd(a:List D)(i:Nat):D:=a.getD i .und
def L6(d:D)(l:List D):Dd (d::l) 0=d:=apL
def L5(d:D)(l:List D)(i:Nat):Dd (d::l) (i+1)=Dd l i:=apL
def NR(_:Nat):Option Row:=none
end
inductive W where
 | code (c:Code)
 | blk (id:Nat)
section
variable (T:Nat->Option Ty) (Γ:Env) (N F:Nat)
def er:List W->Kt->Kt
 | [],Q=>Q
 | .code c::ws,Q=>fun x t h e=>akT x (QN T Γ N F c t h e (er ws Q)) (er ws Q x t h e)
 | .blk id::ws,Q=>fun x t h e=>ac1 id x t h e (er ws Q)
def nX(ops l:List Oper)(ws:List W)(Q:Kt)(t:Nat->D)(h:Nat->Option Row)(e:Nat):Prop :=
 Kw T Γ N e ops l t h fun t h=>er T Γ N F ws Q .normal t h (e+1)
def pf(ops l:List Oper)(ws:List W)(Q:Kt)(t:Nat->D)(h:Nat->Option Row)(e:Nat)(fs:List nQ):Prop :=
 runK T Γ N e ops l t h fs fun t h fs=>Ix ops.toArray fs=true∧er T Γ N F ws Q .normal t h (e+1)
def vp(o:Oper)(ops l:List Oper)(ws:List W)(Q:Kt)(t:Nat->D)(h:Nat->Option Row)(e:Nat):Prop :=
 Vv T Γ e o t h fun t E=>nX T Γ N F ops l ws Q (gq t o.dst E.val) (aW h E.hw) e
def yQ(o:Oper)(ops l:List Oper)(ws:List W)(Q:Kt)(t:Nat->D)(h:Nat->Option Row)(e:Nat)(fs:List nQ):Prop :=
 Vv T Γ e o t h fun t E=>pf T Γ N F ops l ws Q (gq t o.dst E.val) (aW h E.hw) e (fs++[⟨dn o (ev t),E.hw.isEmpty⟩])
def BM(d:D)(g:Nat)(a:Bool)(o:Oper)(ops l:List Oper)(ws:List W)(Q:Kt)(t:Nat->D)(h:Nat->Option Row)(e:Nat):Prop :=
 wpS d t g (fun t=>if a then vp T Γ N F o ops l ws Q t h e else nX T Γ N F ops l ws Q (gq t o.dst .skp) h e) (fun t=>if a then nX T Γ N F ops l ws Q (gq t o.dst .skp) h e else vp T Γ N F o ops l ws Q t h e) (fun t=>nX T Γ N F ops l ws Q (gq t o.dst .skp) h e)
def BN(d:D)(g:Nat)(a:Bool)(o:Oper)(ops l:List Oper)(ws:List W)(Q:Kt)(t:Nat->D)(h:Nat->Option Row)(e:Nat)(fs:List nQ):Prop :=
 wpS d t g (fun t=>if a then yQ T Γ N F o ops l ws Q t h e fs else pf T Γ N F ops l ws Q (gq t o.dst .skp) h e (fs++[⟨[],true⟩])) (fun t=>if a then pf T Γ N F ops l ws Q (gq t o.dst .skp) h e (fs++[⟨[],true⟩]) else yQ T Γ N F o ops l ws Q t h e fs) (fun t=>pf T Γ N F ops l ws Q (gq t o.dst .skp) h e (fs++[⟨[],true⟩]))
def KF(x y:Option cI)(dst:Option Nat)(ops l:List Oper)(ws:List W)(Q:Kt)(t:Nat->D)(h:Nat->Option Row)(e:Nat):Prop :=
 xh (or2 h x y) fun E=>nX T Γ N F ops l ws Q (gq t dst E.val) (aW h E.hw) e
def KG(x y:Option cI)(dst:Option Nat)(a:List Nat)(ops l:List Oper)(ws:List W)(Q:Kt)(t:Nat->D)(h:Nat->Option Row)(e:Nat)(fs:List nQ):Prop :=
 xh (or2 h x y) fun E=>pf T Γ N F ops l ws Q (gq t dst E.val) (aW h E.hw) e (fs++[⟨a,E.hw.isEmpty⟩])
def FF(x:Option cI)(dst:Option Nat)(ops l:List Oper)(ws:List W)(Q:Kt)(t:Nat->D)(h:Nat->Option Row)(e:Nat):Prop:=KF T Γ N F x none dst ops l ws Q t h e
def Qp(x:Option cI)(dst:Option Nat)(a:List Nat)(ops l:List Oper)(ws:List W)(Q:Kt)(t:Nat->D)(h:Nat->Option Row)(e:Nat)(fs:List nQ):Prop:=KG T Γ N F x none dst a ops l ws Q t h e fs
def abS(y:Option cI)(dst:Option Nat)(ops l:List Oper)(ws:List W)(Q:Kt)(t:Nat->D)(h:Nat->Option Row)(e:Nat):Prop :=
 xh y fun E=>nX T Γ N F ops l ws Q (gq t dst E.val) (aW h E.hw) e
def ahr(y:Option cI)(dst:Option Nat)(a:List Nat)(ops l:List Oper)(ws:List W)(Q:Kt)(t:Nat->D)(h:Nat->Option Row)(e:Nat)(fs:List nQ):Prop :=
 xh y fun E=>pf T Γ N F ops l ws Q (gq t dst E.val) (aW h E.hw) e (fs++[⟨a,E.hw.isEmpty⟩])
def QG(d:D)(g:Nat)(x y:Code)(ws:List W)(Q:Kt)(t:Nat->D)(h:Nat->Option Row)(e:Nat):Prop :=
 XM d t g (fun t=>er T Γ N F (.code x::ws) Q .normal t h e) (fun t=>er T Γ N F (.code y::ws) Q .normal t h e)
def ae1(d:D)(g:Nat)(a b:Operand)(dst:Option Nat)(ops l:List Oper)(ws:List W)(Q:Kt)(t:Nat->D)(h:Nat->Option Row)(e:Nat):Prop :=
 XM d t g (fun t=>nX T Γ N F ops l ws Q (gq t dst (ev t a)) h e) (fun t=>nX T Γ N F ops l ws Q (gq t dst (ev t b)) h e)
def ae2(d:D)(g:Nat)(a b:Operand)(dst:Option Nat)(ops l:List Oper)(ws:List W)(Q:Kt)(t:Nat->D)(h:Nat->Option Row)(e:Nat)(fs:List nQ):Prop :=
 XM d t g (fun t=>pf T Γ N F ops l ws Q (gq t dst (ev t a)) h e (fs++[⟨[],true⟩])) (fun t=>pf T Γ N F ops l ws Q (gq t dst (ev t b)) h e (fs++[⟨[],true⟩]))
def ZI(b:Code)(ws:List W)(Q:Kt)(t:Nat->D)(h:Nat->Option Row)(e:Nat):Prop:=QN T Γ N F (.loop b) t h e (er T Γ N F ws Q)
end
def Nu{n:Nat}(h:n<=1000000):n<=maxLen:=am8 h (by decide)
def N8{z:List D}:rK 0 z=[]:=apL
def N7{n:Nat}{z:List D}:rK (n+1) z=z++rK n z:=by simp[rK,List.replicate_succ]
def Nf{N:Nat}:fits N none=true:=apL
def Ng{N i:Nat}:fits N (some i)=decide (i<N):=apL
def zJ:List Oper->Nat->Nat
 | [],_=>0
 | o::_,0=>o.dst.getD 0
 | _::l,j+1=>zJ l j
def DM:List Oper->Nat->Bool
 | [],_=>false
 | o::_,0=>o.dst.isSome
 | _::l,j+1=>DM l j
def Is:∀(l:List Oper)(j:Nat),DM l j=true->(l[j]?).bind (·.dst)=some (zJ l j)
 | [],j,h=>by simp[DM]at h
 | o::l,0,h=>by
  simp only[DM]at h;simp only[List.getElem?_cons_zero,Option.bind_some,zJ];cases a:o.dst with
  | none=>simp_all
  | some d=>rfl
 | o::l,j+1,h=>by simpa [zJ] using Is l j h
def Iu{d:Nat}{op:Op}{ty:Nat}{pos:String}{af:Array Edge}{gd:Option (Nat×Bool)}{l:List Oper}:zJ (⟨some d,op,ty,pos,af,gd⟩::l) 0=d:=apL
def It{o:Oper}{l:List Oper}{j:Nat}:zJ (o::l) (j+1)=zJ l j:=apL
def Jj{d:Nat}{op:Op}{ty:Nat}{pos:String}{af:Array Edge}{gd:Option (Nat×Bool)}{l:List Oper}:DM (⟨some d,op,ty,pos,af,gd⟩::l) 0=true:=apL
def Ji{o:Oper}{l:List Oper}{j:Nat}:DM (o::l) (j+1)=DM l j:=apL
section
variable {dst:Option Nat} {ty:Nat} {pos:String} {af:Array Edge} {gd:Option (Nat×Bool)} {vs:Operand->D}
def NH(vs:Operand->D):List Operand->List Nat
 | []=>[]
 | x::l=>nm (vs x)++NH vs l
def nU(vs:Operand->D):∀l:List Operand,(l.flatMap fun x=>nm (vs x))=NH vs l
 | []=>Eq.trans rfl rfl
 | x::l=>by rw[List.flatMap_cons,nU vs l];exact Eq.trans rfl rfl
def Zt:NH vs []=[]:=apL
def TR{x:Operand}{l:List Operand}:NH vs (x::l)=nm (vs x)++NH vs l:=apL
def GP{o:BinOp}{a z:Nat}{x y:Operand}:dn ⟨dst,.binOp o a x y z,ty,pos,af,gd⟩ vs=(NH vs [x,y]++dst.toList).map rt:=by rw[<- nU];rfl
def KM{o:UnOp}{a:Nat}{x:Operand}:dn ⟨dst,.unOp o a x,ty,pos,af,gd⟩ vs=(NH vs [x]++dst.toList).map rt:=by rw[<- nU];rfl
def Ea{x:Operand}:dn ⟨dst,.assign x,ty,pos,af,gd⟩ vs=(NH vs [x]++dst.toList).map rt:=by rw[<- nU];rfl
def KL{a:Nat}{x:Operand}:dn ⟨dst,.load a x,ty,pos,af,gd⟩ vs=(NH vs [x]++dst.toList).map rt:=by rw[<- nU];rfl
def GR{a:Nat}{x y:Operand}:dn ⟨dst,.store a x y,ty,pos,af,gd⟩ vs=(NH vs [x,y]++dst.toList).map rt:=by rw[<- nU];rfl
def AL{x:Operand}:dn ⟨dst,.nilCheck x,ty,pos,af,gd⟩ vs=(NH vs [x]++dst.toList).map rt:=by rw[<- nU];rfl
def y4{a i:Nat}{x:Operand}:dn ⟨dst,.fieldAddr a x i,ty,pos,af,gd⟩ vs=(NH vs [x]++dst.toList).map rt:=by rw[<- nU];rfl
def y5{a:Nat}{x i:Operand}:dn ⟨dst,.indexAddr a x i,ty,pos,af,gd⟩ vs=(NH vs [x,i]++dst.toList).map rt:=by rw[<- nU];rfl
def y6{a:Nat}{x y:Operand}:dn ⟨dst,.makeSlice a x y,ty,pos,af,gd⟩ vs=(NH vs [x,y]++dst.toList).map rt:=by rw[<- nU];rfl
def GO{a:Nat}:dn ⟨dst,.alloc a,ty,pos,af,gd⟩ vs=(NH vs []++dst.toList).map rt:=by rw[<- nU];rfl
def B7{x:Operand}{i:Nat}:dn ⟨dst,.extract x i,ty,pos,af,gd⟩ vs=(NH vs [x]++dst.toList).map rt:=by rw[<- nU];rfl
def GQ{b:Nat}{a:List (Nat×Operand)}:dn ⟨dst,.build b a.toArray,ty,pos,af,gd⟩ vs=(NH vs (a.map (·.2))++dst.toList).map rt:=by rw[<- nU];rfl
def xp{b len:Nat}{a:List (Nat×Operand)}:dn ⟨dst,.buildSlice b len a.toArray,ty,pos,af,gd⟩ vs=(NH vs (a.map (·.2))++dst.toList).map rt:=by rw[<- nU];rfl
def KK{x:Operand}{l:List Operand}{a:Array Nat}:dn ⟨dst,.call ⟨.value x,l.toArray,a⟩,ty,pos,af,gd⟩ vs=(NH vs (x::l)++dst.toList).map rt:=by
 rw[<- nU];simp[dn,jG,Op.operands,Call.operands]
def B6{x:Builtin}{l:List Operand}{a:Array Nat}:dn ⟨dst,.call ⟨.builtin x,l.toArray,a⟩,ty,pos,af,gd⟩ vs=(NH vs l++dst.toList).map rt:=by
 rw[<- nU];simp[dn,jG,Op.operands,Call.operands]
end
section
variable {T:Nat->Option Ty} {ty e:Nat} {dst:Option Nat} {h:Nat->Option Row}
def Ye{k:IntKind}{n:Int}:dY T ty e dst h (.int k n)=some ⟨.int k n,[]⟩:=apL
def Q8{b:Bool}:dY T ty e dst h (.bool b)=some ⟨.bool b,[]⟩:=apL
def ac0{a:Bool}{n:Nat}{xs:List D}:dY T ty e dst h (.sl false a n xs)=some ⟨.sl false a n xs,[]⟩:=apL
def acZ{x v:Nat}:dY T ty e dst h (.mp x v)=some ⟨.mp x v,[]⟩:=apL
def Hq{f a:Nat}{xs:List D}:dY T ty e dst h (.clo f a xs)=some ⟨.clo f a xs,[]⟩:=apL
def aiF(b:Bool)(T:Nat->Option Ty)(ty e d:Nat)(h:Nat->Option Row)(x:D):Option cI:=if b then dY T ty e (some d) h x else p6 h x
def Mb{d:Nat}{x:D}:aiF true T ty e d h x=dY T ty e (some d) h x:=apL
def HW{d:Nat}{x:D}:aiF false T ty e d h x=p6 h x:=apL
def ahP{q:Nat->Bool}{d:Nat}{x:D}:wy T q ty e (some d) h x=aiF (q d) T ty e d h x:=apL
def acL{a b:Bool}{n:Nat}{xs:List D}:p6 h (.sl a b n xs)=some ⟨.sl false false n xs,[]⟩:=apL
def agh(e d y s o n:Nat)(r:Row):Bool->Option cI
 | true=>some ⟨.buf y r.v s o n,[]⟩
 | false=>some ⟨.buf d e s o n,[(y,none),(d,some { r with v:=e })]⟩
def HV{d y s o n:Nat}{r:Row}:agh e d y s o n r false=some ⟨.buf d e s o n,[(y,none),(d,some { r with v:=e })]⟩:=apL
def aiE(y v s o n:Nat):Option Row->Option cI
 | some _=>some ⟨.buf y v s o n,[]⟩
 | none=>some ⟨.und,[]⟩
def L7{y v s o n:Nat}{r:Row}:aiE y v s o n (some r)=some ⟨.buf y v s o n,[]⟩:=apL
def acY(e:Nat)(dst:Option Nat)(y s o n:Nat)(w:Option cI):Option Row->Option cI
 | some r=>match dst with|some d=>agh e d y s o n r r.fz|none=>w
 | none=>w
def L9{d y s o n:Nat}{r:Row}{w:Option cI}:acY e (some d) y s o n w (some r)=agh e d y s o n r r.fz:=apL
def L8{d y s o n:Nat}{w:Option cI}:acY e (some d) y s o n w none=w:=apL
def Yd{d y v s o n:Nat}:dY T ty e (some d) h (.buf y v s o n)=acY e (some d) y s o n (aiE y v s o n (sC h y v)) (live h y v):=by
 simp only[dY];cases a:live h y v with
 | none=>simp only[acY];cases sC h y v<;>simp[aiE]
 | some r =>
  obtain⟨_,b⟩:=da a;simp only[acY];cases c:r.fz<;>simp[agh,b,c]
def agi(e:Nat)(dst:Option Nat)(T:Nat->Option Ty):Option Ty->Option cI
 | some τ =>
  match dst with
  | some d=>match τ.ds with
   | .slice el=>match T el with|some φ=>some ⟨.buf d e φ.size 0 0,[(d,some ⟨e,el,[],false,true,false⟩)]⟩|none=>none
   | _=>none
  | none=>none
 | none=>none
def Ma{d el b c:Nat}{z:List Value}{q:Bool}{φ:Ty}(a:T el=some φ):agi e (some d) T (some ⟨.slice el,b,c,z,q⟩)=some ⟨.buf d e φ.size 0 0,[(d,some ⟨e,el,[],false,true,false⟩)]⟩:=by simp only[agi,a]
def Yf:dY T ty e dst h (.sl true true 0 [])=agi e dst T (T ty):=by
 unfold dY agi;grind
end
def okD(x:Option D):Option cI:=match x with|some d=>some ⟨d,[]⟩|none=>none
def T6(d:D):okD (some d)=some ⟨d,[]⟩:=apL
def Ke(x:Option Ty)(f:Ty->Option cI):Option cI:=match x with|some τ=>f τ|none=>none
def Uh(τ:Ty)(f:Ty->Option cI):Ke (some τ) f=f τ:=apL
def ake(x:Option (List D×List Nat))(h:Nat->Option Row)(ty d e:Nat):Option cI :=
 match x with
 | some (cs,fr)=>if fr.contains d=false then some ⟨.ptr d e 0,lJ h fr++[(d,some ⟨e,ty,cs,false,false,false⟩)]⟩ else none
 | none=>none
def Me(cs:List D)(fr:List Nat)(h:Nat->Option Row)(ty d e:Nat):ake (some (cs,fr)) h ty d e=if fr.contains d=false then some ⟨.ptr d e 0,lJ h fr++[(d,some ⟨e,ty,cs,false,false,false⟩)]⟩ else none:=apL
def ajc(d e:Nat):Option Nat->D
 | some y =>.pm d e y
 | none =>.ptr d e 0
def N4{d e:Nat}:ajc d e none=.ptr d e 0:=apL
def HT(x:Option Ty)(ty d e:Nat)(y:Option Nat):Option cI :=
 match x with
 | some τ=>if (τ.zero.map sf).all bH then some ⟨ajc d e y,[(d,some ⟨e,ty,τ.zero.map sf,false,false,false⟩)]⟩ else none
 | none=>none
def FW(τ:Ty)(ty d e:Nat)(y:Option Nat):HT (some τ) ty d e y=if (τ.zero.map sf).all bH then some ⟨ajc d e y,[(d,some ⟨e,ty,τ.zero.map sf,false,false,false⟩)]⟩ else none:=apL
def aeN(T:Nat->Option Ty)(x:Option Ty)(ty e d:Nat):Option cI:=match x with|some τ=>rn T ty τ e d|none=>none
def aeO{T:Nat->Option Ty}{τ φ:Ty}{b:Bool}{ty e d:Nat}(a:Jz T τ=some (b,φ))(c:ty<900000):aeN T (some τ) ty e d=some ⟨.mp d e,[(d,some ⟨e,ty,[.mpc [] []],false,true,true⟩)]⟩:=by simp only[aeN,rn,a];simp_all
def ahQ(x y:Option Ty)(d:D):Option cI :=
 match x,y,d with
 | some τ,some _,.int _ n=>(match τ.ds with | .int k=>some ⟨.int k (k.wrap n),[]⟩|_=>none)
 | _,_,_=>none
def Mx(k:IntKind)(b c:Nat)(z:List Value)(q:Bool)(σ:Ty)(a:IntKind)(n:Int):ahQ (some ⟨.int k,b,c,z,q⟩) (some σ) (.int a n)=some ⟨.int k (k.wrap n),[]⟩:=apL
def agz(d:D)(i:Nat):Option cI:=match d with | .tup xs=>(match xs[i]? with|some d=>some ⟨d,[]⟩|none=>none)|_=>none
def Ss(xs:List D)(i:Nat):agz (.tup xs) i=okD xs[i]?:=by simp only[agz,okD]
section
variable {T:Nat->Option Ty} {Γ:Env} {N F e:Nat} {ws:List W} {Q:Kt} {t:Nat->D} {h:Nat->Option Row}
def cw{x:Ex}:er T Γ N F [] Q x t h e=Q x t h e:=apL
def Oh:er T Γ N F (.code .skip::ws) Q .normal t h e=er T Γ N F ws Q .normal t h e:=apL
def UH{a b:Code}:er T Γ N F (.code (.seq a b)::ws) Q .normal t h e=er T Γ N F (.code a :: .code b::ws) Q .normal t h e:=apL
def UG:er T Γ N F (.code .ret::ws) Q .normal t h e=er T Γ N F ws Q .ret t h e:=apL
def Of{id:Nat}:er T Γ N F (.code (.exit id)::ws) Q .normal t h e=er T Γ N F ws Q (.exit id) t h e:=apL
def Kx{id:Nat}{b:Code}:er T Γ N F (.code (.block id b)::ws) Q .normal t h e=er T Γ N F (.code b :: .blk id::ws) Q .normal t h e:=apL
def Og{b:Code}:er T Γ N F (.code (.loop b)::ws) Q .normal t h e=ZI T Γ N F b ws Q t h e:=apL
def aV{c:Code}:er T Γ N F (.code c::ws) Q .ret t h e=er T Γ N F ws Q .ret t h e:=apL
def AE{c:Code}{n:Nat}:er T Γ N F (.code c::ws) Q (.exit n) t h e=er T Γ N F ws Q (.exit n) t h e:=apL
def yY{id:Nat}:er T Γ N F (.blk id::ws) Q .normal t h e=er T Γ N F ws Q .normal t h e:=apL
def bc{id:Nat}:er T Γ N F (.blk id::ws) Q .ret t h e=er T Γ N F ws Q .ret t h e:=apL
def B3{id n:Nat}:er T Γ N F (.blk id::ws) Q (.exit n) t h e=if n=id then er T Γ N F ws Q .normal t h e else er T Γ N F ws Q (.exit n) t h e:=apL
def GJ{i:Nat}{ops:List Oper}:er T Γ N F (.code (.region i ops.toArray false)::ws) Q .normal t h e=nX T Γ N F ops ops ws Q t h e:=apL
def Kz{i:Nat}{ops:List Oper}:er T Γ N F (.code (.region i ops.toArray true)::ws) Q .normal t h e=pf T Γ N F ops ops ws Q t h e []:=apL
def Oe{g:Nat}{x y:Code}:er T Γ N F (.code (.cond (.tmp g) x y)::ws) Q .normal t h e=QG T Γ N F (t g) g x y ws Q t h e:=apL
def Ky{x y:Code}:er T Γ N F (.code (.cond (.const (.bool false)) x y)::ws) Q .normal t h e=er T Γ N F (.code y::ws) Q .normal t h e:=apL
def OI{g:Nat}{x y:Code}(a:t g=.bool true):QG T Γ N F (.bool true) g x y ws Q t h e=er T Γ N F (.code x::ws) Q .normal t h e:=Ed a
def KO{g:Nat}{x y:Code}(a:t g=.bool false):QG T Γ N F (.bool false) g x y ws Q t h e=er T Γ N F (.code y::ws) Q .normal t h e:=BC a
def abZ{b:Bool}{g:Nat}{x y:Code}:QG T Γ N F (.bool b) g x y ws Q t h e=br b (er T Γ N F (.code x::ws) Q .normal (cq t g (.bool true)) h e) (er T Γ N F (.code y::ws) Q .normal (cq t g (.bool false)) h e):=by
 unfold QG;rw[afZ];cases b<;>simp[br]
variable {ops l:List Oper} {dst:Option Nat} {op:Op} {ty:Nat} {pos:String} {af:Array Edge} {gd:Option (Nat×Bool)} {fs:List nQ}
def UE:nX T Γ N F ops [] ws Q t h e=er T Γ N F ws Q .normal t h (e+1):=apL
def Oc(a:fits N dst=true):nX T Γ N F ops (⟨dst,op,ty,pos,af,none⟩::l) ws Q t h e=vp T Γ N F ⟨dst,op,ty,pos,af,none⟩ ops l ws Q t h e:=by
 simp only[nX,Kw,wpG,a,true_and,vp]
def Ku{j:Nat}{a:Bool}(b:fits N dst=true)(c:DM ops j=true):nX T Γ N F ops (⟨dst,op,ty,pos,af,some (j,a)⟩::l) ws Q t h e=BM T Γ N F (t (zJ ops j)) (zJ ops j) a ⟨dst,op,ty,pos,af,none⟩ ops l ws Q t h e:=by
 simp only[nX,Kw,wpG,b,true_and,Is ops j c,JQ,BM]<;>cases a<;>rfl
def Vk{g:Nat}{a:Bool}{o:Oper}:BM T Γ N F .skp g a o ops l ws Q t h e=nX T Γ N F ops l ws Q (gq t o.dst .skp) h e:=apL
def OJ{g:Nat}{o:Oper}(a:t g=.bool true):BM T Γ N F (.bool true) g true o ops l ws Q t h e=vp T Γ N F o ops l ws Q t h e:=(Eg a).trans (if_pos rfl)
def KP{g:Nat}{o:Oper}(a:t g=.bool false):BM T Γ N F (.bool false) g true o ops l ws Q t h e=nX T Γ N F ops l ws Q (gq t o.dst .skp) h e:=(BD a).trans (if_pos rfl)
def KQ{g:Nat}{o:Oper}(a:t g=.bool true):BM T Γ N F (.bool true) g false o ops l ws Q t h e=nX T Γ N F ops l ws Q (gq t o.dst .skp) h e:=(Eg a).trans (if_neg (by decide))
def GS{g:Nat}{o:Oper}(a:t g=.bool false):BM T Γ N F (.bool false) g false o ops l ws Q t h e=vp T Γ N F o ops l ws Q t h e:=(BD a).trans (if_neg (by decide))
def ab0{b:Bool}{g:Nat}{o:Oper}:BM T Γ N F (.bool b) g true o ops l ws Q t h e=br b (vp T Γ N F o ops l ws Q (cq t g (.bool true)) h e) (nX T Γ N F ops l ws Q (gq (cq t g (.bool false)) o.dst .skp) h e):=by
 unfold BM;rw[Ef];cases b<;>simp[br]
def XC{b:Bool}{g:Nat}{o:Oper}:BM T Γ N F (.bool b) g false o ops l ws Q t h e=br b (nX T Γ N F ops l ws Q (gq (cq t g (.bool true)) o.dst .skp) h e) (vp T Γ N F o ops l ws Q (cq t g (.bool false)) h e):=by
 unfold BM;rw[Ef];cases b<;>simp[br]
def UF:pf T Γ N F ops [] ws Q t h e fs=(Ix ops.toArray fs=true∧er T Γ N F ws Q .normal t h (e+1)):=apL
def Od(a:fits N dst=true):pf T Γ N F ops (⟨dst,op,ty,pos,af,none⟩::l) ws Q t h e fs=yQ T Γ N F ⟨dst,op,ty,pos,af,none⟩ ops l ws Q t h e fs:=by
 simp only[pf,runK,wpG,a,true_and,yQ]
def Kv{j:Nat}{a:Bool}(b:fits N dst=true)(c:DM ops j=true):pf T Γ N F ops (⟨dst,op,ty,pos,af,some (j,a)⟩::l) ws Q t h e fs=BN T Γ N F (t (zJ ops j)) (zJ ops j) a ⟨dst,op,ty,pos,af,none⟩ ops l ws Q t h e fs:=by
 simp only[pf,runK,wpG,b,true_and,Is ops j c,JQ,BN]<;>cases a<;>rfl
def Vl{g:Nat}{a:Bool}{o:Oper}:BN T Γ N F .skp g a o ops l ws Q t h e fs=pf T Γ N F ops l ws Q (gq t o.dst .skp) h e (fs++[⟨[],true⟩]):=apL
def OK{g:Nat}{o:Oper}(a:t g=.bool true):BN T Γ N F (.bool true) g true o ops l ws Q t h e fs=yQ T Γ N F o ops l ws Q t h e fs:=(Eg a).trans (if_pos rfl)
def KS{g:Nat}{o:Oper}(a:t g=.bool false):BN T Γ N F (.bool false) g true o ops l ws Q t h e fs=pf T Γ N F ops l ws Q (gq t o.dst .skp) h e (fs++[⟨[],true⟩]):=(BD a).trans (if_pos rfl)
def KT{g:Nat}{o:Oper}(a:t g=.bool true):BN T Γ N F (.bool true) g false o ops l ws Q t h e fs=pf T Γ N F ops l ws Q (gq t o.dst .skp) h e (fs++[⟨[],true⟩]):=(Eg a).trans (if_neg (by decide))
def GU{g:Nat}{o:Oper}(a:t g=.bool false):BN T Γ N F (.bool false) g false o ops l ws Q t h e fs=yQ T Γ N F o ops l ws Q t h e fs:=(BD a).trans (if_neg (by decide))
def ab1{b:Bool}{g:Nat}{o:Oper}:BN T Γ N F (.bool b) g true o ops l ws Q t h e fs=br b (yQ T Γ N F o ops l ws Q (cq t g (.bool true)) h e fs) (pf T Γ N F ops l ws Q (gq (cq t g (.bool false)) o.dst .skp) h e (fs++[⟨[],true⟩])):=by
 unfold BN;rw[Ef];cases b<;>simp[br]
def XD{b:Bool}{g:Nat}{o:Oper}:BN T Γ N F (.bool b) g false o ops l ws Q t h e fs=br b (pf T Γ N F ops l ws Q (gq (cq t g (.bool true)) o.dst .skp) h e (fs++[⟨[],true⟩])) (yQ T Γ N F o ops l ws Q (cq t g (.bool false)) h e fs):=by
 unfold BN;rw[Ef];cases b<;>simp[br]
def U3{d:D}{a:List (Nat×Option Row)}:FF T Γ N F (some ⟨d,a⟩) dst ops l ws Q t h e=nX T Γ N F ops l ws Q (gq t dst d) (aW h (nO h a)) e:=apL
def U7{d:D}{a:List (Nat×Option Row)}{b:List Nat}:Qp T Γ N F (some ⟨d,a⟩) dst b ops l ws Q t h e fs=pf T Γ N F ops l ws Q (gq t dst d) (aW h (nO h a)) e (fs++[⟨b,(nO h a).isEmpty⟩]):=apL
def ZS{c:Prop}[Decidable c]{E:cI}:FF T Γ N F (if c then some E else none) dst ops l ws Q t h e=(c∧FF T Γ N F (some E) dst ops l ws Q t h e):=by
 by_cases a:c<;>simp[a,FF,KF,or2,xh]
def ZV{c:Prop}[Decidable c]{E:cI}{a:List Nat}:Qp T Γ N F (if c then some E else none) dst a ops l ws Q t h e fs=(c∧Qp T Γ N F (some E) dst a ops l ws Q t h e fs):=by
 by_cases b:c<;>simp[b,Qp,KG,or2,xh]
def Oq{E:cI}{y:Option cI}:KF T Γ N F (some E) y dst ops l ws Q t h e=FF T Γ N F (some E) dst ops l ws Q t h e:=apL
def Oz{E:cI}{y:Option cI}{a:List Nat}:KG T Γ N F (some E) y dst a ops l ws Q t h e fs=Qp T Γ N F (some E) dst a ops l ws Q t h e fs:=apL
def Oo{y:Option cI}:KF T Γ N F none y dst ops l ws Q t h e=abS T Γ N F y dst ops l ws Q t h e:=apL
def Oy{y:Option cI}{a:List Nat}:KG T Γ N F none y dst a ops l ws Q t h e fs=ahr T Γ N F y dst a ops l ws Q t h e fs:=apL
def ZR{x:Option cI}:KF T Γ N F x none dst ops l ws Q t h e=FF T Γ N F x dst ops l ws Q t h e:=apL
def ZU{x:Option cI}{a:List Nat}:KG T Γ N F x none dst a ops l ws Q t h e fs=Qp T Γ N F x dst a ops l ws Q t h e fs:=apL
def Ot{d:D}{a:List (Nat×Option Row)}:abS T Γ N F (some ⟨d,a⟩) dst ops l ws Q t h e=nX T Γ N F ops l ws Q (gq t dst d) (aW h a) e:=apL
def OA{d:D}{a:List (Nat×Option Row)}{b:List Nat}:ahr T Γ N F (some ⟨d,a⟩) dst b ops l ws Q t h e fs=pf T Γ N F ops l ws Q (gq t dst d) (aW h a) e (fs++[⟨b,a.isEmpty⟩]):=apL
def Kh{g:Nat}{a b:Operand}(c:t g=.bool true):ae1 T Γ N F (.bool true) g a b dst ops l ws Q t h e=nX T Γ N F ops l ws Q (gq t dst (ev t a)) h e:=Ed c
def GF{g:Nat}{a b:Operand}(c:t g=.bool false):ae1 T Γ N F (.bool false) g a b dst ops l ws Q t h e=nX T Γ N F ops l ws Q (gq t dst (ev t b)) h e:=BC c
def Ki{g:Nat}{a b:Operand}(c:t g=.bool true):ae2 T Γ N F (.bool true) g a b dst ops l ws Q t h e fs=pf T Γ N F ops l ws Q (gq t dst (ev t a)) h e (fs++[⟨[],true⟩]):=Ed c
def GG{g:Nat}{a b:Operand}(c:t g=.bool false):ae2 T Γ N F (.bool false) g a b dst ops l ws Q t h e fs=pf T Γ N F ops l ws Q (gq t dst (ev t b)) h e (fs++[⟨[],true⟩]):=BC c
def R0{c:Nat}{a b:Operand}:vp T Γ N F ⟨dst,.pick (.tmp c) a b,ty,pos,af,gd⟩ ops l ws Q t h e=ae1 T Γ N F (t c) c a b dst ops l ws Q t h e:=apL
def R6{c:Nat}{a b:Operand}:yQ T Γ N F ⟨dst,.pick (.tmp c) a b,ty,pos,af,gd⟩ ops l ws Q t h e fs=ae2 T Γ N F (t c) c a b dst ops l ws Q t h e fs:=apL
def Dp{x y:Option cI}(i:∀c a b,op ≠ .pick c a b)(j:jN T Γ e ⟨dst,op,ty,pos,af,gd⟩ (ev t)=none)(d:su Γ e h dst (kr (ev t) op)=none)(f:vr T Γ e ⟨dst,op,ty,pos,af,gd⟩ (ev t) (EH h)=x)(g:zN T Γ e ⟨dst,op,ty,pos,af,gd⟩ (ev t) h=y):vp T Γ N F ⟨dst,op,ty,pos,af,gd⟩ ops l ws Q t h e=KF T Γ N F x y dst ops l ws Q t h e:=by
 subst f;subst g;unfold vp KF Vv tE;simp_all
def Dt{x y:Option cI}(i:∀c a b,op ≠ .pick c a b)(j:jN T Γ e ⟨dst,op,ty,pos,af,gd⟩ (ev t)=none)(d:su Γ e h dst (kr (ev t) op)=none)(f:vr T Γ e ⟨dst,op,ty,pos,af,gd⟩ (ev t) (EH h)=x)(g:zN T Γ e ⟨dst,op,ty,pos,af,gd⟩ (ev t) h=y):yQ T Γ N F ⟨dst,op,ty,pos,af,gd⟩ ops l ws Q t h e fs=KG T Γ N F x y dst (dn ⟨dst,op,ty,pos,af,gd⟩ (ev t)) ops l ws Q t h e fs:=by
 subst f;subst g;unfold yQ KG Vv tE;simp_all
def ig{x:Option cI}(f:∀c a b,op ≠ .pick c a b)(g:vr T Γ e ⟨dst,op,ty,pos,af,gd⟩ (ev t) (EH h)=x)(i:jN T Γ e ⟨dst,op,ty,pos,af,gd⟩ (ev t)=none:=by rfl)(j:zN T Γ e ⟨dst,op,ty,pos,af,gd⟩ (ev t) h=none:=by rfl)(d:su Γ e h dst (kr (ev t) op)=none:=by first|rfl|(cases dst<;>rfl)):vp T Γ N F ⟨dst,op,ty,pos,af,gd⟩ ops l ws Q t h e=FF T Γ N F x dst ops l ws Q t h e:=Dp f i d g j
def mZ{x:Option cI}(f:∀c a b,op ≠ .pick c a b)(g:vr T Γ e ⟨dst,op,ty,pos,af,gd⟩ (ev t) (EH h)=x)(i:jN T Γ e ⟨dst,op,ty,pos,af,gd⟩ (ev t)=none:=by rfl)(j:zN T Γ e ⟨dst,op,ty,pos,af,gd⟩ (ev t) h=none:=by rfl)(d:su Γ e h dst (kr (ev t) op)=none:=by first|rfl|(cases dst<;>rfl)):yQ T Γ N F ⟨dst,op,ty,pos,af,gd⟩ ops l ws Q t h e fs=Qp T Γ N F x dst (dn ⟨dst,op,ty,pos,af,gd⟩ (ev t)) ops l ws Q t h e fs:=Dt f i d g j
def RZ{x:Operand}:vp T Γ N F ⟨dst,.move x,ty,pos,af,gd⟩ ops l ws Q t h e=nX T Γ N F ops l ws Q (gq t dst (ev t x)) h e:=(ig (fun _ _ _ a=>by cases a) rfl).trans rfl
def R5{x:Operand}:yQ T Γ N F ⟨dst,.move x,ty,pos,af,gd⟩ ops l ws Q t h e fs=pf T Γ N F ops l ws Q (gq t dst (ev t x)) h e (fs++[⟨[],true⟩]):=(mZ (fun _ _ _ a=>by cases a) rfl).trans rfl
def ME{o:BinOp}{a z:Nat}{x y:Operand}:vp T Γ N F ⟨dst,.binOp o a x y z,ty,pos,af,gd⟩ ops l ws Q t h e=FF T Γ N F (okD (HY T a o (ev t x) (ev t y))) dst ops l ws Q t h e:=ig (fun _ _ _ b=>by cases b) (by simp only[vr];first|rfl|(cases HY T a o (ev t x) (ev t y)<;>rfl))
def ML{o:BinOp}{a z:Nat}{x y:Operand}:yQ T Γ N F ⟨dst,.binOp o a x y z,ty,pos,af,gd⟩ ops l ws Q t h e fs=Qp T Γ N F (okD (HY T a o (ev t x) (ev t y))) dst (dn ⟨dst,.binOp o a x y z,ty,pos,af,gd⟩ (ev t)) ops l ws Q t h e fs:=mZ (fun _ _ _ b=>by cases b) (by simp only[vr];first|rfl|(cases HY T a o (ev t x) (ev t y)<;>rfl))
def R1{o:UnOp}{a:Nat}{x:Operand}:vp T Γ N F ⟨dst,.unOp o a x,ty,pos,af,gd⟩ ops l ws Q t h e=FF T Γ N F (okD (unD o (ev t x))) dst ops l ws Q t h e:=ig (fun _ _ _ b=>by cases b) (by simp only[vr];first|rfl|(cases unD o (ev t x)<;>rfl))
def R7{o:UnOp}{a:Nat}{x:Operand}:yQ T Γ N F ⟨dst,.unOp o a x,ty,pos,af,gd⟩ ops l ws Q t h e fs=Qp T Γ N F (okD (unD o (ev t x))) dst (dn ⟨dst,.unOp o a x,ty,pos,af,gd⟩ (ev t)) ops l ws Q t h e fs:=mZ (fun _ _ _ b=>by cases b) (by simp only[vr];first|rfl|(cases unD o (ev t x)<;>rfl))
def Ik{x:Operand}:vp T Γ N F ⟨dst,.assign x,ty,pos,af,gd⟩ ops l ws Q t h e=FF T Γ N F (wy T Γ.own ty e dst (EH h) (ev t x)) dst ops l ws Q t h e:=ig (fun _ _ _ a=>by cases a) rfl
def Im{x:Operand}:yQ T Γ N F ⟨dst,.assign x,ty,pos,af,gd⟩ ops l ws Q t h e fs=Qp T Γ N F (wy T Γ.own ty e dst (EH h) (ev t x)) dst (dn ⟨dst,.assign x,ty,pos,af,gd⟩ (ev t)) ops l ws Q t h e fs:=mZ (fun _ _ _ a=>by cases a) rfl
def Dq{f:Nat}{first caps:List Operand}:vp T Γ N F ⟨dst,.makeFunc (.func f) first.toArray caps.toArray,ty,pos,af,gd⟩ ops l ws Q t h e=FF T Γ N F (if (first.map (ev t)++caps.map (ev t)).all vT then some ⟨.clo f first.length (first.map (ev t)++caps.map (ev t)),[]⟩ else none) dst ops l ws Q t h e:=ig (fun _ _ _ a=>by cases a) rfl
def RX{a:Nat}{x:Operand}:vp T Γ N F ⟨dst,.load a x,ty,pos,af,gd⟩ ops l ws Q t h e=KF T Γ N F (Ke (T a) fun τ=>uD τ (EH h) (ev t x)) (Ke (T a) fun τ=>zM τ h (ev t x)) dst ops l ws Q t h e:=Dp (fun _ _ _ b=>by cases b) rfl (by cases dst<;>rfl) (by simp only[vr];first|rfl|(cases T a<;>rfl)) (by simp only[zN];first|rfl|(cases T a<;>rfl))
def R3{a:Nat}{x:Operand}:yQ T Γ N F ⟨dst,.load a x,ty,pos,af,gd⟩ ops l ws Q t h e fs=KG T Γ N F (Ke (T a) fun τ=>uD τ (EH h) (ev t x)) (Ke (T a) fun τ=>zM τ h (ev t x)) dst (dn ⟨dst,.load a x,ty,pos,af,gd⟩ (ev t)) ops l ws Q t h e fs:=Dt (fun _ _ _ b=>by cases b) rfl (by cases dst<;>rfl) (by simp only[vr];first|rfl|(cases T a<;>rfl)) (by simp only[zN];first|rfl|(cases T a<;>rfl))
def MJ{a:Nat}{x y:Operand}:vp T Γ N F ⟨dst,.store a x y,ty,pos,af,gd⟩ ops l ws Q t h e=KF T Γ N F (Ke (T a) fun τ=>jy τ (EH h) (ev t x) (ev t y)) (Ke (T a) fun τ=>zO τ e h (ev t x) (ev t y)) dst ops l ws Q t h e:=Dp (fun _ _ _ b=>by cases b) rfl (by cases dst<;>rfl) (by simp only[vr];first|rfl|(cases T a<;>rfl)) (by simp only[zN];first|rfl|(cases T a<;>rfl))
def MO{a:Nat}{x y:Operand}:yQ T Γ N F ⟨dst,.store a x y,ty,pos,af,gd⟩ ops l ws Q t h e fs=KG T Γ N F (Ke (T a) fun τ=>jy τ (EH h) (ev t x) (ev t y)) (Ke (T a) fun τ=>zO τ e h (ev t x) (ev t y)) dst (dn ⟨dst,.store a x y,ty,pos,af,gd⟩ (ev t)) ops l ws Q t h e fs:=Dt (fun _ _ _ b=>by cases b) rfl (by cases dst<;>rfl) (by simp only[vr];first|rfl|(cases T a<;>rfl)) (by simp only[zN];first|rfl|(cases T a<;>rfl))
def Dr{x:Operand}:vp T Γ N F ⟨dst,.nilCheck x,ty,pos,af,gd⟩ ops l ws Q t h e=FF T Γ N F (rp (EH h) (ev t x)) dst ops l ws Q t h e:=ig (fun _ _ _ a=>by cases a) rfl
def Du{x:Operand}:yQ T Γ N F ⟨dst,.nilCheck x,ty,pos,af,gd⟩ ops l ws Q t h e fs=Qp T Γ N F (rp (EH h) (ev t x)) dst (dn ⟨dst,.nilCheck x,ty,pos,af,gd⟩ (ev t)) ops l ws Q t h e fs:=mZ (fun _ _ _ a=>by cases a) rfl
def BQ{a i:Nat}{x:Operand}:vp T Γ N F ⟨dst,.fieldAddr a x i,ty,pos,af,gd⟩ ops l ws Q t h e=FF T Γ N F (Ke (T a) fun τ=>iw T τ (EH h) i (ev t x)) dst ops l ws Q t h e:=ig (fun _ _ _ b=>by cases b) (by simp only[vr];first|rfl|(cases T a<;>rfl))
def BU{a i:Nat}{x:Operand}:yQ T Γ N F ⟨dst,.fieldAddr a x i,ty,pos,af,gd⟩ ops l ws Q t h e fs=Qp T Γ N F (Ke (T a) fun τ=>iw T τ (EH h) i (ev t x)) dst (dn ⟨dst,.fieldAddr a x i,ty,pos,af,gd⟩ (ev t)) ops l ws Q t h e fs:=mZ (fun _ _ _ b=>by cases b) (by simp only[vr];first|rfl|(cases T a<;>rfl))
def BR{a:Nat}{x i:Operand}:vp T Γ N F ⟨dst,.indexAddr a x i,ty,pos,af,gd⟩ ops l ws Q t h e=FF T Γ N F (Ke (T a) fun τ=>di T τ (EH h) (ev t x) (ev t i)) dst ops l ws Q t h e:=ig (fun _ _ _ b=>by cases b) (by simp only[vr];first|rfl|(cases T a<;>rfl))
def BV{a:Nat}{x i:Operand}:yQ T Γ N F ⟨dst,.indexAddr a x i,ty,pos,af,gd⟩ ops l ws Q t h e fs=Qp T Γ N F (Ke (T a) fun τ=>di T τ (EH h) (ev t x) (ev t i)) dst (dn ⟨dst,.indexAddr a x i,ty,pos,af,gd⟩ (ev t)) ops l ws Q t h e fs:=mZ (fun _ _ _ b=>by cases b) (by simp only[vr];first|rfl|(cases T a<;>rfl))
def MG{a:Nat}{x i:Operand}:vp T Γ N F ⟨dst,.index a x i,ty,pos,af,gd⟩ ops l ws Q t h e=FF T Γ N F (Ke (T a) fun τ=>oh T τ (ev t x) (ev t i)) dst ops l ws Q t h e:=ig (fun _ _ _ b=>by cases b) (by simp only[vr];first|rfl|(cases T a<;>rfl))
def MH{a:Nat}{x:Operand}{b c d:Option Operand}:vp T Γ N F ⟨dst,.slice a x b c d,ty,pos,af,gd⟩ ops l ws Q t h e=FF T Γ N F (Ke (T a) fun τ=>jx T τ (EH h) (ev t x) (b.map (ev t)) (c.map (ev t)) (d.map (ev t))) dst ops l ws Q t h e:=ig (fun _ _ _ f=>by cases f) (by simp only[vr];first|rfl|(cases T a<;>rfl))
def MF{a:Nat}{b:List (Nat×Operand)}:vp T Γ N F ⟨dst,.build a b.toArray,ty,pos,af,gd⟩ ops l ws Q t h e=FF T Γ N F (Ke (T a) fun τ=>uB Γ.own T τ (EH h) dst (b.map fun p=>(p.1,ev t p.2))) dst ops l ws Q t h e:=ig (fun _ _ _ c=>by cases c) (by simp only[vr];first|rfl|(cases T a<;>rfl))
def MM{a:Nat}{b:List (Nat×Operand)}:yQ T Γ N F ⟨dst,.build a b.toArray,ty,pos,af,gd⟩ ops l ws Q t h e fs=Qp T Γ N F (Ke (T a) fun τ=>uB Γ.own T τ (EH h) dst (b.map fun p=>(p.1,ev t p.2))) dst (dn ⟨dst,.build a b.toArray,ty,pos,af,gd⟩ (ev t)) ops l ws Q t h e fs:=mZ (fun _ _ _ c=>by cases c) (by simp only[vr];first|rfl|(cases T a<;>rfl))
def zG{a len d:Nat}{b:List (Nat×Operand)}:vp T Γ N F ⟨some d,.buildSlice a len b.toArray,ty,pos,af,gd⟩ ops l ws Q t h e=FF T Γ N F (Ke (T a) fun τ=>fG T τ (EH h) e d len (b.map fun p=>(p.1,ev t p.2))) (some d) ops l ws Q t h e:=ig (fun _ _ _ c=>by cases c) (by simp only[vr];first|rfl|(cases T a<;>rfl))
def zH{a len d:Nat}{b:List (Nat×Operand)}:yQ T Γ N F ⟨some d,.buildSlice a len b.toArray,ty,pos,af,gd⟩ ops l ws Q t h e fs=Qp T Γ N F (Ke (T a) fun τ=>fG T τ (EH h) e d len (b.map fun p=>(p.1,ev t p.2))) (some d) (dn ⟨some d,.buildSlice a len b.toArray,ty,pos,af,gd⟩ (ev t)) ops l ws Q t h e fs:=mZ (fun _ _ _ c=>by cases c) (by simp only[vr];first|rfl|(cases T a<;>rfl))
def JD(T:Nat->Option Ty)(e d a:Nat)(x y:D):Option (Nat×Nat×Nat)->Option cI
 | some p=>(match T a with|some τ=>qK T τ e d p.1 p.2.1 p.2.2 x y|none=>none)
 | none=>none
def NC{d a:Nat}{x y:D}:JD T e d a x y none=none:=apL
def ND{d a:Nat}{x y:D}{p:Nat×Nat×Nat}{τ:Ty}(b:T a=some τ):JD T e d a x y (some p)=qK T τ e d p.1 p.2.1 p.2.2 x y:=by simp only[JD,b]
def stM(y x:Option cI)(dst:Option Nat)(ops l:List Oper)(ws:List W)(Q:Kt)(t:Nat->D)(h:Nat->Option Row)(e:Nat):Prop :=
 match y with
 | some E=>abS T Γ N F (some E) dst ops l ws Q t h e
 | none=>FF T Γ N F x dst ops l ws Q t h e
def ajn(y x:Option cI)(dst:Option Nat)(a:List Nat)(ops l:List Oper)(ws:List W)(Q:Kt)(t:Nat->D)(h:Nat->Option Row)(e:Nat)(fs:List nQ):Prop :=
 match y with
 | some E=>ahr T Γ N F (some E) dst a ops l ws Q t h e fs
 | none=>Qp T Γ N F x dst a ops l ws Q t h e fs
def BS{a d:Nat}{x y:Operand}:vp T Γ N F ⟨some d,.makeSlice a x y,ty,pos,af,gd⟩ ops l ws Q t h e=stM (T:=T) (Γ:=Γ) (N:=N) (F:=F) (JD T e d a (ev t x) (ev t y) (Γ.nst d)) (Ke (T a) fun τ=>vJ T τ e d (ev t x) (ev t y)) (some d) ops l ws Q t h e:=by
 have b:jN T Γ e ⟨some d,.makeSlice a x y,ty,pos,af,gd⟩ (ev t)=JD T e d a (ev t x) (ev t y) (Γ.nst d):=by
  unfold jN JD;grind
 cases c:JD T e d a (ev t x) (ev t y) (Γ.nst d) with
 | none=>exact ig (fun _ _ _ f=>by cases f) (by simp only[vr];first|rfl|(cases T a<;>rfl)) (b.trans c)
 | some E=>unfold vp Vv tE;rw[b,c];rfl
def BW{a d:Nat}{x y:Operand}:yQ T Γ N F ⟨some d,.makeSlice a x y,ty,pos,af,gd⟩ ops l ws Q t h e fs=ajn (T:=T) (Γ:=Γ) (N:=N) (F:=F) (JD T e d a (ev t x) (ev t y) (Γ.nst d)) (Ke (T a) fun τ=>vJ T τ e d (ev t x) (ev t y)) (some d) (dn ⟨some d,.makeSlice a x y,ty,pos,af,gd⟩ (ev t)) ops l ws Q t h e fs:=by
 have b:jN T Γ e ⟨some d,.makeSlice a x y,ty,pos,af,gd⟩ (ev t)=JD T e d a (ev t x) (ev t y) (Γ.nst d):=by
  unfold jN JD;grind
 cases c:JD T e d a (ev t x) (ev t y) (Γ.nst d) with
 | none=>exact mZ (fun _ _ _ f=>by cases f) (by simp only[vr];first|rfl|(cases T a<;>rfl)) (b.trans c)
 | some E=>unfold yQ Vv tE;rw[b,c];rfl
def U4{x:Option cI}:stM (T:=T) (Γ:=Γ) (N:=N) (F:=F) none x dst ops l ws Q t h e=FF T Γ N F x dst ops l ws Q t h e:=apL
def Ou{x:Option cI}{a:List Nat}:ajn (T:=T) (Γ:=Γ) (N:=N) (F:=F) none x dst a ops l ws Q t h e fs=Qp T Γ N F x dst a ops l ws Q t h e fs:=apL
def U5{x:Option cI}{E:cI}:stM (T:=T) (Γ:=Γ) (N:=N) (F:=F) (some E) x dst ops l ws Q t h e=abS T Γ N F (some E) dst ops l ws Q t h e:=apL
def alN(T:Nat->Option Ty)(e d a:Nat):Option (Nat×Nat×Nat)->Option cI
 | some p=>(match T a with|some τ=>mkA τ a e d p.1 p.2.1 p.2.2|none=>none)
 | none=>none
def Q4{d a:Nat}:alN T e d a none=none:=apL
def Q5{d a:Nat}{p:Nat×Nat×Nat}{τ:Ty}(b:T a=some τ):alN T e d a (some p)=mkA τ a e d p.1 p.2.1 p.2.2:=by simp only[alN,b]
def MD{a d:Nat}:vp T Γ N F ⟨some d,.alloc a,ty,pos,af,gd⟩ ops l ws Q t h e=stM (T:=T) (Γ:=Γ) (N:=N) (F:=F) (alN T e d a (Γ.nst d)) (HT (T a) a d e (Γ.hint d)) (some d) ops l ws Q t h e:=by
 have b:jN T Γ e ⟨some d,.alloc a,ty,pos,af,gd⟩ (ev t)=alN T e d a (Γ.nst d):=by
  unfold jN alN;grind
 cases c:alN T e d a (Γ.nst d) with
 | none=>exact ig (fun _ _ _ f=>by cases f) (by simp only[vr];cases T a with|none=>rfl|some τ=>(dsimp only[HT];cases Γ.hint d<;>rfl)) (b.trans c)
 | some E=>unfold vp Vv tE;rw[b,c];rfl
def MK{a d:Nat}:yQ T Γ N F ⟨some d,.alloc a,ty,pos,af,gd⟩ ops l ws Q t h e fs=ajn (T:=T) (Γ:=Γ) (N:=N) (F:=F) (alN T e d a (Γ.nst d)) (HT (T a) a d e (Γ.hint d)) (some d) (dn ⟨some d,.alloc a,ty,pos,af,gd⟩ (ev t)) ops l ws Q t h e fs:=by
 have b:jN T Γ e ⟨some d,.alloc a,ty,pos,af,gd⟩ (ev t)=alN T e d a (Γ.nst d):=by
  unfold jN alN;grind
 cases c:alN T e d a (Γ.nst d) with
 | none=>exact mZ (fun _ _ _ f=>by cases f) (by simp only[vr];cases T a with|none=>rfl|some τ=>(dsimp only[HT];cases Γ.hint d<;>rfl)) (b.trans c)
 | some E=>unfold yQ Vv tE;rw[b,c];rfl
def Ga{a d:Nat}:vp T Γ N F ⟨some d,.makeMap a none,ty,pos,af,gd⟩ ops l ws Q t h e=FF T Γ N F (aeN T (T a) a e d) (some d) ops l ws Q t h e:=ig (fun _ _ _ b=>by cases b) (by simp only[vr];first|rfl|(cases T a<;>rfl))
def Il{a:Nat}{m i:Operand}{b:Bool}:vp T Γ N F ⟨dst,.lookup a m i b,ty,pos,af,gd⟩ ops l ws Q t h e=FF T Γ N F (Ke (T a) fun τ=>jT T τ (EH h) (ev t m) (ev t i) b) dst ops l ws Q t h e:=ig (fun _ _ _ c=>by cases c) (by simp only[vr];first|rfl|(cases T a<;>rfl))
def BT{a:Nat}{m i x:Operand}:vp T Γ N F ⟨dst,.mapUpdate a m i x,ty,pos,af,gd⟩ ops l ws Q t h e=FF T Γ N F (Ke (T a) fun τ=>fh T τ (EH h) (ev t m) (ev t i) (ev t x)) dst ops l ws Q t h e:=ig (fun _ _ _ b=>by cases b) (by simp only[vr];first|rfl|(cases T a<;>rfl))
def Yv{a d:Nat}{x:Operand}:vp T Γ N F ⟨some d,.box a x,ty,pos,af,gd⟩ ops l ws Q t h e=FF T Γ N F (ake (ir (EH h) (ev t x)) (EH h) a d e) (some d) ops l ws Q t h e:=ig (fun _ _ _ b=>by cases b) (by simp only[vr];first|rfl|(cases ir (EH h) (ev t x)<;>rfl))
def F8{a b:Nat}{x:Operand}:vp T Γ N F ⟨dst,.convert a b x,ty,pos,af,gd⟩ ops l ws Q t h e=FF T Γ N F (ahQ (T b) (T a) (ev t x)) dst ops l ws Q t h e:=ig (fun _ _ _ c=>by cases c) rfl
def F9{x:Nat}{i:Nat}:vp T Γ N F ⟨dst,.extract (.tmp x) i,ty,pos,af,gd⟩ ops l ws Q t h e=FF T Γ N F (agz (t x) i) dst ops l ws Q t h e:=ig (fun _ _ _ a=>by cases a) rfl
def Gc{x:Nat}{i:Nat}:yQ T Γ N F ⟨dst,.extract (.tmp x) i,ty,pos,af,gd⟩ ops l ws Q t h e fs=Qp T Γ N F (agz (t x) i) dst (dn ⟨dst,.extract (.tmp x) i,ty,pos,af,gd⟩ (ev t)) ops l ws Q t h e fs:=mZ (fun _ _ _ a=>by cases a) rfl
def cnL(Γ:Env)(e:Nat)(h:Nat->Option Row)(g:Nat)(a:List D):Option (Nat×(Nat->Nat->Nat->Nat->List D->List D->Option (D×List D)))->Option cI
 | some _=>wY Γ e h g a
 | none=>none
def RJ{g:Nat}{a:List D}:cnL Γ e h g a none=none:=apL
def RL{g:Nat}{a:List D}{p:Nat×(Nat->Nat->Nat->Nat->List D->List D->Option (D×List D))}:cnL Γ e h g a (some p)=wY Γ e h g a:=apL
def adM{g:Nat}{a:List D}:Gk Γ e h (some (.fn g,a))=cnL Γ e h g a (Γ.nx.lnd g):=by
 cases c:Γ.nx.lnd g with
 | some p=>rfl
 | none =>
  show wY Γ e h g a=none;cases b:wY Γ e h g a with
  | none=>rfl
  | some E =>
   obtain⟨_,_,_,_,_,_,_,_,_,_,_,_,_,_,_,_,d,_⟩:=xR b;simp_all
def Yz{f k:Nat}{xs a:List D}:Gk Γ e h (some (.clo f k xs,a))=none:=apL
def adL{d g:Nat}{a:List D}:su Γ e h (some d) (some (.fn g,a))=IE e d h a (Γ.nx.res g):=apL
def Yy{dst:Option Nat}{f k:Nat}{xs a:List D}:su Γ e h dst (some (.clo f k xs,a))=none:=by cases dst<;>rfl
def Sb{d:Nat}{a:List D}:IE e d h a none=none:=apL
def Sc{d:Nat}{a:List D}{p:List D->Option (Nat×Nat×Nat×Nat×Nat×List D)}:IE e d h a (some p)=Mm p e d (cc (EH h) a):=apL
def Rl{d:Nat}{am1:List D}{p:List D->Option (Nat×Nat×Nat×Nat×Nat×List D)}:Mm p e d (some (am1,[]))=O1 e d (p am1):=apL
def Mn{d ty a s S n:Nat}{cs:List D}(b:d<1000000):O1 e d (some (ty,a,s,S,n,cs))=some ⟨.buf d e S 0 n,[(d,some ⟨e,ty,[.nr a s (4*e+2) cs],false,true,true⟩)]⟩:=if_pos (by rw[gr];exact b)
def stC(a x y:Option cI)(dst:Option Nat)(ops l:List Oper)(ws:List W)(Q:Kt)(t:Nat->D)(h:Nat->Option Row)(e:Nat):Prop :=
 match a with
 | some E=>abS T Γ N F (some E) dst ops l ws Q t h e
 | none=>KF T Γ N F x y dst ops l ws Q t h e
def ala(b x y:Option cI)(dst:Option Nat)(a:List Nat)(ops l:List Oper)(ws:List W)(Q:Kt)(t:Nat->D)(h:Nat->Option Row)(e:Nat)(fs:List nQ):Prop :=
 match b with
 | some E=>ahr T Γ N F (some E) dst a ops l ws Q t h e fs
 | none=>KG T Γ N F x y dst a ops l ws Q t h e fs
def U1{x y:Option cI}:stC (T:=T) (Γ:=Γ) (N:=N) (F:=F) none x y dst ops l ws Q t h e=KF T Γ N F x y dst ops l ws Q t h e:=apL
def On{x y:Option cI}{a:List Nat}:ala (T:=T) (Γ:=Γ) (N:=N) (F:=F) none x y dst a ops l ws Q t h e fs=KG T Γ N F x y dst a ops l ws Q t h e fs:=apL
def U2{x y:Option cI}{E:cI}:stC (T:=T) (Γ:=Γ) (N:=N) (F:=F) (some E) x y dst ops l ws Q t h e=abS T Γ N F (some E) dst ops l ws Q t h e:=apL
def RW{x:Operand}{am1:List Operand}{a:Array Nat}:vp T Γ N F ⟨dst,.call ⟨.value x,am1.toArray,a⟩,ty,pos,af,gd⟩ ops l ws Q t h e=stC (T:=T) (Γ:=Γ) (N:=N) (F:=F) (su Γ e h dst (some (ev t x,am1.map (ev t)))) (kD Γ (EH h) e dst (ev t x) (am1.map (ev t))) (Gk Γ e h (some (ev t x,am1.map (ev t)))) dst ops l ws Q t h e:=by
 have b:kr (ev t) (.call ⟨.value x,am1.toArray,a⟩)=some (ev t x,am1.map (ev t)):=rfl;cases c:su Γ e h dst (some (ev t x,am1.map (ev t))) with
 | none=>exact Dp (fun _ _ _ d=>by cases d) rfl (by rw[b];exact c) rfl rfl
 | some E=>unfold vp Vv tE;simp only[jN,b,c];rfl
def R2{x:Operand}{am1:List Operand}{a:Array Nat}:yQ T Γ N F ⟨dst,.call ⟨.value x,am1.toArray,a⟩,ty,pos,af,gd⟩ ops l ws Q t h e fs=ala (T:=T) (Γ:=Γ) (N:=N) (F:=F) (su Γ e h dst (some (ev t x,am1.map (ev t)))) (kD Γ (EH h) e dst (ev t x) (am1.map (ev t))) (Gk Γ e h (some (ev t x,am1.map (ev t)))) dst (dn ⟨dst,.call ⟨.value x,am1.toArray,a⟩,ty,pos,af,gd⟩ (ev t)) ops l ws Q t h e fs:=by
 have b:kr (ev t) (.call ⟨.value x,am1.toArray,a⟩)=some (ev t x,am1.map (ev t)):=rfl;cases c:su Γ e h dst (some (ev t x,am1.map (ev t))) with
 | none=>exact Dt (fun _ _ _ d=>by cases d) rfl (by rw[b];exact c) rfl rfl
 | some E=>unfold yQ Vv tE;simp only[jN,b,c];rfl
def F7{x:Builtin}{am1:List Operand}{a:List Nat}:vp T Γ N F ⟨dst,.call ⟨.builtin x,am1.toArray,a.toArray⟩,ty,pos,af,gd⟩ ops l ws Q t h e=FF T Γ N F (eT T (EH h) e dst x a (am1.map (ev t))) dst ops l ws Q t h e:=ig (fun _ _ _ b=>by cases b) rfl
def Gb{x:Builtin}{am1:List Operand}{a:List Nat}:yQ T Γ N F ⟨dst,.call ⟨.builtin x,am1.toArray,a.toArray⟩,ty,pos,af,gd⟩ ops l ws Q t h e fs=Qp T Γ N F (eT T (EH h) e dst x a (am1.map (ev t))) dst (dn ⟨dst,.call ⟨.builtin x,am1.toArray,a.toArray⟩,ty,pos,af,gd⟩ (ev t)) ops l ws Q t h e fs:=mZ (fun _ _ _ b=>by cases b) rfl
def bA{o:Array Oper}{A:Prop}(a:Ix o fs=true)(b:A):Ix o fs=true∧A:=⟨a,b⟩
def av{b:Bool}{g:Nat}{x y:Code}(a:b=true->er T Γ N F (.code x::ws) Q .normal (cq t g (.bool true)) h e)(c:b=false->er T Γ N F (.code y::ws) Q .normal (cq t g (.bool false)) h e):QG T Γ N F (.bool b) g x y ws Q t h e:=by rw[abZ];exact⟨a,c⟩
def gj{b:Bool}{g:Nat}{o:Oper}(a:b=true->vp T Γ N F o ops l ws Q (cq t g (.bool true)) h e)(c:b=false->nX T Γ N F ops l ws Q (gq (cq t g (.bool false)) o.dst .skp) h e):BM T Γ N F (.bool b) g true o ops l ws Q t h e:=by rw[ab0];exact⟨a,c⟩
def aZ{b:Bool}{g:Nat}{o:Oper}(a:b=true->nX T Γ N F ops l ws Q (gq (cq t g (.bool true)) o.dst .skp) h e)(c:b=false->vp T Γ N F o ops l ws Q (cq t g (.bool false)) h e):BM T Γ N F (.bool b) g false o ops l ws Q t h e:=by rw[XC];exact⟨a,c⟩
def HD{b:Bool}{g:Nat}{o:Oper}(a:b=true->yQ T Γ N F o ops l ws Q (cq t g (.bool true)) h e fs)(c:b=false->pf T Γ N F ops l ws Q (gq (cq t g (.bool false)) o.dst .skp) h e (fs++[⟨[],true⟩])):BN T Γ N F (.bool b) g true o ops l ws Q t h e fs:=by rw[ab1];exact⟨a,c⟩
def KR{b:Bool}{g:Nat}{o:Oper}(a:b=true->pf T Γ N F ops l ws Q (gq (cq t g (.bool true)) o.dst .skp) h e (fs++[⟨[],true⟩]))(c:b=false->yQ T Γ N F o ops l ws Q (cq t g (.bool false)) h e fs):BN T Γ N F (.bool b) g false o ops l ws Q t h e fs:=by rw[XD];exact⟨a,c⟩
def adT(a:Mode)(T:Nat->Option Ty)(cg:Option (D×Row))(rs:List ResultVar)(r:RK×Option Row):Kt:=fun x t h e=>aiP a T cg rs x t h e r
def Gm{a:Mode}{cg:Option (D×Row)}{rs:List ResultVar}{r:RK×Option Row}:adT a T cg rs r .normal t h e=(gF a T cg rs ⟨t,EH h,e⟩=some r):=apL
def cL{a:Mode}{cg:Option (D×Row)}{rs:List ResultVar}{r:RK×Option Row}:adT a T cg rs r .ret t h e=(gF a T cg rs ⟨t,EH h,e⟩=some r):=apL
def YF(T:Nat->Option Ty)(ty a s:Nat)(rs:List ResultVar)(r:D×List D):Kt:=fun x t h e =>
 match x with
 | .exit _=>False
 | _=>aaU T ty a s rs ⟨t,h,e⟩=some r
def DF{ty a s:Nat}{rs:List ResultVar}{r:D×List D}:YF T ty a s rs r .normal t h e=(aaU T ty a s rs ⟨t,h,e⟩=some r):=apL
def MZ{ty a s:Nat}{rs:List ResultVar}{r:D×List D}:YF T ty a s rs r .ret t h e=(aaU T ty a s rs ⟨t,h,e⟩=some r):=apL
def adR(rs:List ResultVar)(r:Nat×Nat×Nat×Nat×Nat×List D):Kt:=fun x t h e =>
 match x with
 | .exit _=>False
 | _=>adP rs ⟨t,h,e⟩=some r
def MY{rs:List ResultVar}{r:Nat×Nat×Nat×Nat×Nat×List D}:adR rs r .ret t h e=(adP rs ⟨t,h,e⟩=some r):=apL
def YH{ty a s:Nat}{rs:List ResultVar}:aaU T ty a s rs ⟨t,h,e⟩=Sm ty a s (AB T ⟨t,EH h,e⟩ rs) (h 0):=apL
def Sn{ty a s nv:Nat}{lst:Bool}{b cs:List D}:Sm ty a s (some (b,[])) (some ⟨0,ty,[.nr a s nv cs],false,lst,true⟩)=some (pe b,cs):=by
 simp[Sm,adS]
def YE{i:Nat}:adP [.tmp i] ⟨t,h,e⟩=YD h (t i):=apL
def MX{x v S n:Nat}:YD h (.buf x v S 0 n)=Sk x v S n (h x):=apL
def Sl{x v S n ty a s nv:Nat}{lst:Bool}{cs:List D}(b:x<1000000):Sk x v S n (some ⟨v,ty,[.nr a s nv cs],false,lst,true⟩)=some (ty,a,s,S,n,cs):=by
 have:x<PK:=by rw[gr];exact b
 simp[Sk,adQ,this]
def BA{d:Func}{c:Code}{n ty b s o:Nat}{cs a:List D}{rs:List ResultVar}{r:D×List D}(g:d.body=some c)(h:d.ntmps=n)(i:d.results=rs.toArray)(j:er T Γ n F [.code c] (YF T ty b s rs r) .normal (Dd (.ptr 0 0 o::a)) (pP (kd ty b s 0 cs)) 1)(e:n<=1000000:=by exact aov rfl):yJ T Γ F d ty b s o cs a=some r:=by
 obtain⟨x,p,k,f⟩:=FO _ _ _ _ _ (show QN T Γ n F c (Dd (.ptr 0 0 o::a)) (pP (kd ty b s 0 cs)) 1 (YF T ty b s rs r) from j);unfold yJ;simp only[g,h];rw[if_pos (by rw[gr];exact e)];have l:yC ty b s o cs a=⟨Dd (.ptr 0 0 o::a),pP (kd ty b s 0 cs),1⟩:=rfl;rw[l,k,i];cases x with
 | normal=>exact f
 | ret=>exact f
 | exit m=>exact f.elim
def acd{b:Func}{c:Code}{n:Nat}{a:List D}{rs:List ResultVar}{r:Nat×Nat×Nat×Nat×Nat×List D}(f:b.body=some c)(g:b.ntmps=n)(h:b.results=rs.toArray)(i:er T Γ n F [.code c] (adR rs r) .normal (Dd a) NR 0)(d:n<=1000000:=by exact aov rfl):yI T Γ F b a=some r:=by
 obtain⟨x,l,j,e⟩:=FO _ _ _ _ _ (show QN T Γ n F c (Dd a) NR 0 (adR rs r) from i);unfold yI;simp only[f,g];rw[if_pos (by rw[gr];exact d)];have k:cP none a=⟨Dd a,NR,0⟩:=rfl;rw[k,j,h];cases x with
 | normal=>exact e
 | ret=>exact e
 | exit m=>exact e.elim
def aD{a:Mode}{d:Func}{c:Code}{n:Nat}{rs:List ResultVar}{b:List D}{r:RK×Option Row}(g:d.body=some c)(f:d.ntmps=n)(h:d.results=rs.toArray)(i:er T Γ n F [.code c] (adT a T none rs r) .normal (Dd b) NR 0)(e:n<=1000000:=by exact aov rfl):lP a T Γ F d none b=some r:=by
 refine XO ?_ (by rw[f];exact e);unfold wpf;rw[g,f,h];exact i
def UD(r:Row)(i:Nat):pP r i=if i=0 then some r else none:=apL
def KZ{a:Mode}{d:Func}{c:Code}{n:Nat}{rs:List ResultVar}{d0:D}{ty:Nat}{cells:List D}{fz lst:Bool}{b:List D}{r:RK×Option Row}(g:d.body=some c)(f:d.ntmps=n)(h:d.results=rs.toArray)
  (i:er T Γ n F [.code c] (adT a T (some (d0,⟨0,ty,cells,fz,lst,false⟩)) rs r) .normal (Dd (d0::b)) (pP ⟨0,ty,cells,fz,lst,false⟩) 1) (e:n<=1000000:=by exact aov rfl):lP a T Γ F d (some (d0,⟨0,ty,cells,fz,lst,false⟩)) b=some r:=by
 refine XO ?_ (by rw[f];exact e);unfold wpf;rw[g,f,h];exact i
end
section
variable {h:Nat->Option Row} {k x o v ty fz' nv s n e:Nat} {cs xs:List D} {fz lst:Bool}
def acp(a:k<2000000):EH h k=(h k).map (HA k):=wV (by rw[gr];exact a)
def ahC(a:x<1000000):EH h (NK x o)=(h x).bind fun r=>vS r o:=wU (by rw[gr];exact a)
def Oj:HA k ⟨v,ty,cs,fz,lst,false⟩=⟨v,ty,cs,fz,lst,false⟩:=apL
def ZM{a:List eE}:HA k ⟨v,ty,[.mpc a xs],fz,lst,true⟩=⟨v,ty,[.mpc a xs],fz,lst,true⟩:=apL
def afh{t:Nat}:HA k ⟨v,ty,[.nr t s nv cs],fz,lst,true⟩=⟨v,ty,cs.mapIdx (wT k s),fz,lst,true⟩:=apL
def TQ{t:Nat}:vS ⟨v,ty,[.nr t s nv cs],fz,lst,true⟩ o=JG t nv fz (cs.drop o).head?:=apL
def TP:JG ty nv fz (some (.nx n xs))=some ⟨nv,ty,xs,fz,true,false⟩:=apL
def aio(a:x<1000000):rt (NK x o)=x:=yX (by rw[gr];exact a)
def No:nO h []=[]:=apL
def Nn{r:Option Row}{l:List (Nat×Option Row)}(a:k<2000000):nO h ((k,r)::l)=(k,Lx r)::nO (cq h k (Lx r)) l:=by
 have b:rt k=k:=kh (by rw[gr];exact a);have c:D2 h k r=Lx r:=if_pos (by rw[gr];exact a);simp only[nO,b,c]
def Sz{r:Option Row}{l:List (Nat×Option Row)}(b:x<1000000):nO h ((NK x o,r)::l)=(x,(h x).map (Kj o r))::nO (cq h x ((h x).map (Kj o r))) l:=by
 have a:x<PK:=by rw[gr];exact b
 have c:rt (NK x o)=x:=yX a;have d:D2 h (NK x o) r=(h x).map (Kj o r):=by
  unfold D2;rw[if_neg (by have:=jM x o;omega),zn o a,HL o a]
 simp only[nO,c,d]
def NQ:Lx none=none:=apL
def JI:Lx (some ⟨v,ty,cs,fz,lst,false⟩)=some ⟨v,ty,cs,fz,lst,false⟩:=apL
def TS{a:List eE}:Lx (some ⟨v,ty,[.mpc a xs],fz,lst,true⟩)=some ⟨v,ty,[.mpc a xs],fz,lst,true⟩:=apL
def ZE{t:Nat}{r:Option Row}:Kj o r ⟨v,ty,[.nr t s nv cs],fz,lst,true⟩=⟨v,ty,KB t s nv fz cs o r (cs.drop o).head?,fz,lst,true⟩:=apL
def ZK{t b:Nat}{a:List D}:KB t s nv fz cs o (some ⟨b,t,a,fz,true,false⟩) (some (.nx n xs))=if b=nv then [.nr t s nv (putCells cs o [.nx n a])] else [.nr t s nv (putCells cs o [.und])]:=by
 by_cases c:b=nv<;>simp[KB,Up,c]
def lvN(x v:Nat):Option Row->Option (Row×Nat×Nat×Nat×List D)
 | some r=>if r.v=v∧r.fz=false∧r.mp=true∧x<1000000 then nrO r r.cells else none
 | none=>none
def Tq:jB h x v=lvN x v (h x):=by
 unfold jB lvN;rw[gr];cases h x<;>rfl
def aeC{t:Nat}(a:x<1000000):lvN x v (some ⟨v,ty,[.nr t s nv cs],false,lst,true⟩)=some (⟨v,ty,[.nr t s nv cs],false,lst,true⟩,t,s,nv,cs):=by
 simp only[lvN,true_and,a,and_self,if_true,nrO]
def aiZ(τ:Ty)(x o:Nat):Option (Row×Nat×Nat×Nat×List D)->Option cI
 | some (r,ty,s,nv,cs)=>PJ τ x s nv o cs (cs.drop o).head?
 | none=>none
def Y5{τ:Ty}:uF τ h (.ptr x v o)=aiZ τ x o (jB h x v):=by
 simp only[uF,aiZ];grind
def Nt{τ:Ty}{r:Row}{t:Nat}:aiZ τ x o (some (r,t,s,nv,cs))=PJ τ x s nv o cs (cs.drop o).head?:=apL
def Y3{a:Ds}{b:Nat}{z:List Value}{q:Bool}:PJ ⟨a,1,b,z,q⟩ x s nv o cs (some (.nx n xs))=if a.xt=false then some ⟨.buf (NK x o) nv s 0 n,[]⟩ else none:=by
 simp only[PJ,true_and]
def agK(τ:Ty)(o:Nat)(cs:List D):Option cI :=
 if o+τ.size<=cs.length∧((cs.drop o).take τ.size).all gD=true then okD (mE τ ((cs.drop o).take τ.size)) else none
def Ti{τ:Ty}{a:IntKind}{i:Int}:PJ τ x s nv o cs (some (.int a i))=agK τ o cs:=apL
def Y4{τ:Ty}{a b:Bool}:PJ τ x s nv o cs (some (.sl a b n xs))=agK τ o cs:=apL
def ahq(τ:Ty)(e:Nat)(h:Nat->Option Row)(x o:Nat)(d:D):Option (Row×Nat×Nat×Nat×List D)->Option cI
 | some (r,ty,s,nv,cs)=>if o+τ.size<=cs.length∧0<τ.size then LR τ e h x r ty s nv cs o d else none
 | none=>none
def ZT{τ:Ty}{d:D}:rq τ e h (.ptr x v o) d=ahq τ e h x o d (jB h x v):=by
 simp only[rq,ahq];grind
def Ow{a:Ds}{m b:Nat}{z:List Value}{q:Bool}{d:D}{r:Row}{t:Nat}(c:0<m)(f:o+m<=cs.length):ahq ⟨a,m,b,z,q⟩ e h x o d (some (r,t,s,nv,cs))=LR ⟨a,m,b,z,q⟩ e h x r t s nv cs o d:=by
 simp only[ahq,c,f,and_self,if_true]
def ajo(x:Nat)(r:Row)(ty s:Nat)(cs:List D)(o y n:Nat)(b:Option Nat):Option Row->Option cI
 | some q=>if q.fz=false∧q.lst=true∧q.ty=ty∧q.cells.length=n*s then FG x r ty s cs o y n q b else none
 | none=>none
def Ox{c:Ds}{b y a:Nat}{z:List Value}{q:Bool}{r:Row}{t:Nat}(d:y<1000000):LR ⟨c,1,b,z,q⟩ e h x r t s nv cs o (.buf y a s 0 n)=ajo x r t s cs o y n (bump nv e) (live h y a):=by
 have f:¬y=NK x o:=by have:=jM x o;rw[gr]at this;omega
 have g:y<PK:=by rw[gr];exact d
 simp only[LR,and_self,if_true,f,if_false,g]<;>cases live h y a<;>rfl
def Ov{r q:Row}{t a y:Nat}(b:q.fz=false∧q.lst=true∧q.ty=t∧q.cells.length=n*s):ajo x r t s cs o y n (some a) (some q)=some ⟨.und,[(y,none),(x,some ⟨r.v,r.ty,[.nr t s a (putCells cs o [.nx n q.cells])],false,r.lst,true⟩)]⟩:=by
 simp only[ajo,b,and_self,if_true,FG]
def U6{τ:Ty}{r:Row}{t:Nat}:LR τ e h x r t s nv cs o (.agg xs)=Qq τ x r t s nv cs o (some xs):=apL
def OB{τ:Ty}{r:Row}{t:Nat}{a:List D}:Qq τ x r t s nv cs o (some a)=if a.length=τ.size∧a.all gD=true then some ⟨.und,[(x,some ⟨r.v,r.ty,[.nr t s nv (putCells cs o (a.map canon))],false,r.lst,true⟩)]⟩ else none:=apL
def mj(a:nv<=4*e):bump nv e=some (4*e+1):=if_pos a
def ac4(a:nv=4*e+2):bump nv e=some (4*e+3):=by unfold bump;simp_all
def Um{E:cI}{y:Option cI}:orE (some E) y=some E:=apL
def Ul{y:Option cI}:orE none y=y:=apL
def aem(τ:Ty)(x o:Nat):Option (Row×Nat×Nat×Nat×List D)->Option cI
 | some (r,ty,s,nv,cs)=>if r.lst=false∧o=0∧cs.length=τ.size∧1<τ.size∧cs.all (wR s)=true then WH x r ty s nv (pQ τ.size 0 cs) (mE τ (cs.map C8)) else none
 | none=>none
def Y2{τ:Ty}:zM τ h (.ptr x v o)=orE (aem τ x o (jB h x v)) (uF τ h (.ptr x v o)):=by
 simp only[zM,uE]<;>cases jB h x v<;>rfl
def aen{τ:Ty}{a ty:Nat}{cells:List D}{fz mp:Bool}{t:Nat}:aem τ x o (some (⟨a,ty,cells,fz,true,mp⟩,t,s,nv,cs))=none:=by simp[aem]
def aeo{τ:Ty}{a ty:Nat}{cells:List D}{fz mp:Bool}{t:Nat}:aem τ x o (some (⟨a,ty,cells,fz,false,mp⟩,t,s,nv,cs))=if o=0∧cs.length=τ.size∧1<τ.size∧cs.all (wR s)=true then WH x ⟨a,ty,cells,fz,false,mp⟩ t s nv (pQ τ.size 0 cs) (mE τ (cs.map C8)) else none:=by
 simp only[aem,true_and]
def Ns{r:Row}{t:Nat}{d:D}:WH x r t s nv cs (some d)=some ⟨d,[(x,some ⟨r.v,r.ty,[.nr t s nv cs],false,r.lst,true⟩)]⟩:=apL
def afr(τ:Ty)(e x o:Nat)(d:D):Option (Row×Nat×Nat×Nat×List D)->Option cI
 | some (r,ty,s,nv,cs)=>if r.lst=false∧o=0∧cs.length=τ.size then Xm τ.size e x r ty s nv cs d else none
 | none=>none
def ZQ{τ:Ty}{d:D}:zO τ e h (.ptr x v o) d=orE (afr τ e x o d (jB h x v)) (rq τ e h (.ptr x v o) d):=by
 simp only[zO,uI]<;>cases jB h x v<;>rfl
def afs{τ:Ty}{d:D}{a ty:Nat}{cells:List D}{fz mp:Bool}{t:Nat}:afr τ e x o d (some (⟨a,ty,cells,fz,true,mp⟩,t,s,nv,cs))=none:=by simp[afr]
def aft{τ:Ty}{d:D}{a ty:Nat}{cells:List D}{fz mp:Bool}{t:Nat}:afr τ e x o d (some (⟨a,ty,cells,fz,false,mp⟩,t,s,nv,cs))=if o=0∧cs.length=τ.size then Xm τ.size e x ⟨a,ty,cells,fz,false,mp⟩ t s nv cs d else none:=by
 simp only[afr,true_and]
def U9{a t:Nat}{r:Row}:Xm a e x r t s nv cs (.agg xs)=if xs.length=a then stZ x r t s (bump nv e) (xr cs xs) else none:=apL
def U8{r:Row}{t a:Nat}{b:List D}:stZ x r t s (some a) (some b)=some ⟨.und,[(x,some ⟨r.v,r.ty,[.nr t s a b],false,r.lst,true⟩)]⟩:=apL
def alV:Option D->Option (List D)->Option (List D)
 | some y,some a=>some (y::a)
 | _,_=>none
def ON{y:D}{a:List D}:alV (some y) (some a)=some (y::a):=apL
def OO:xr [] []=some []:=apL
def K5{c x:D}{cs xs:List D}:xr (c::cs) (x::xs)=alV (Vx c x) (xr cs xs):=by
 simp only[xr];cases Vx c x<;>cases xr cs xs<;>rfl
def aaq:Vx (.nx n xs) (.sl true true 0 [])=some (.nx 0 []):=apL
def aap{k a:IntKind}{i j:Int}:Vx (.int k i) (.int a j)=some (.int a j):=apL
def Vu{a b:D}:pQ 2 0 [a,b]=[C8 a,C8 b]:=apL
def aai{k:IntKind}{i:Int}:C8 (.int k i)=.int k i:=apL
def afP:C8 (.nx n xs)=.sl false false n xs:=apL
def Zw{k:IntKind}{i:Int}:wR s (.int k i)=true:=apL
def aeW:wR s (.nx n xs)=(xs.length==n*s):=apL
end
section
variable {Γ:Env} {g d:Nat} {p:Nat×Nat×Nat}
def YL{f:Nat}{l:Bool}{G:Option (D×Row)->List D->Option (RK×Option Row)}:(Am.ext Γ f l G).nst g=Γ.nst g:=apL
def Td:(Am.keep d Γ).nst g=Γ.nst g:=apL
def NM:bd.nst g=none:=apL
def T3:(Am.zf d p Γ).nst g=if g=d then some p else Γ.nst g:=apL
def JM:(Am.zf d p Γ).lends g=Γ.lends g:=apL
def T5{l:Option (D×Row)}{am1:List D}:(Am.zf d p Γ).sem g l am1=Γ.sem g l am1:=apL
def T4:(Am.zf d p Γ).own g=Γ.own g:=apL
def NU:(Am.zf d p Γ).hint g=Γ.hint g:=apL
def T2:(Am.zf d p Γ).ins g=Γ.ins g:=apL
def T1:(Am.zf d p Γ).grw g=Γ.grw g:=apL
def adW{f:Nat}{l:Bool}{G:Option (D×Row)->List D->Option (RK×Option Row)}:(Am.ext Γ f l G).nx=Γ.nx:=apL
def YY:(Am.keep d Γ).nx=Γ.nx:=apL
def YV{f:Nat}:(Am.Jl f p Γ).nx=Γ.nx:=apL
def Zu:(Am.zf d p Γ).nx=Γ.nx:=apL
def NL:bd.nx.lnd g=none:=apL
def NO:bd.nx.res g=none:=apL
end
section
variable {Γ:Env} {g d f:Nat} {p:Nat×(Nat->Nat->Nat->Nat->List D->List D->Option (D×List D))}
def Tt:(Am.tH f p Γ).nx.lnd g=if g=f then some p else Γ.nx.lnd g:=apL
def Tw:(Am.tH f p Γ).nx.res g=Γ.nx.res g:=apL
def Ju:(Am.tH f p Γ).lends g=Γ.lends g:=apL
def Tx{l:Option (D×Row)}{am1:List D}:(Am.tH f p Γ).sem g l am1=Γ.sem g l am1:=apL
def Tv:(Am.tH f p Γ).own g=Γ.own g:=apL
def Nx:(Am.tH f p Γ).hint g=Γ.hint g:=apL
def Ts:(Am.tH f p Γ).ins g=Γ.ins g:=apL
def Tr:(Am.tH f p Γ).grw g=Γ.grw g:=apL
def Tu:(Am.tH f p Γ).nst g=Γ.nst g:=apL
end
section
variable {Γ:Env} {g d f:Nat} {p:List D->Option (Nat×Nat×Nat×Nat×Nat×List D)}
def TZ:(Am.DW f p Γ).nx.res g=if g=f then some p else Γ.nx.res g:=apL
def TW:(Am.DW f p Γ).nx.lnd g=Γ.nx.lnd g:=apL
def JL:(Am.DW f p Γ).lends g=Γ.lends g:=apL
def T0{l:Option (D×Row)}{am1:List D}:(Am.DW f p Γ).sem g l am1=Γ.sem g l am1:=apL
def TY:(Am.DW f p Γ).own g=Γ.own g:=apL
def NT:(Am.DW f p Γ).hint g=Γ.hint g:=apL
def TV:(Am.DW f p Γ).ins g=Γ.ins g:=apL
def TU:(Am.DW f p Γ).grw g=Γ.grw g:=apL
def TX:(Am.DW f p Γ).nst g=Γ.nst g:=apL
end
section
variable {Γ:Env} {h:Nat->Option Row} {e x v o g:Nat} {rest:List D}
def VN(Γ:Env)(e:Nat)(h:Nat->Option Row)(g x o:Nat)(rest:List D):Option (Row×Nat×Nat×Nat×List D)->Option cI
 | some (r,ty,s,nv,cs)=>H8 e x r ty s nv cs o (Γ.nx.lnd g) (cc (EH h) rest)
 | none=>none
def Mo:wY Γ e h g (.ptr x v o::rest)=VN Γ e h g x o rest (jB h x v):=by
 simp only[wY,VN];grind
def F3{r:Row}{ty s nv:Nat}{cs:List D}:VN Γ e h g x o rest (some (r,ty,s,nv,cs))=H8 e x r ty s nv cs o (Γ.nx.lnd g) (cc (EH h) rest):=apL
def F1{r:Row}{ty s nv:Nat}{cs am1:List D}{p:Nat×(Nat->Nat->Nat->Nat->List D->List D->Option (D×List D))}:H8 e x r ty s nv cs o (some p) (some (am1,[]))=O2 x r ty s o p.1 (bump nv e) (p.2 r.ty ty s o cs am1):=apL
def F2{r:Row}{ty s b k:Nat}{d:D}{a:List D}:O2 x r ty s o k (some b) (some (d,a))=if ((a.drop o).take k).all (wR s)=true then some ⟨d,[(x,some ⟨r.v,r.ty,[.nr ty s b (pQ k o a)],false,r.lst,true⟩)]⟩ else none:=apL
end
end Go.Proofs.YtobnihfgnbnncaaGreat.Am
namespace Go.Proofs.YtobnihfgnbnncaaGreat.P
open Go.RowKit
def FU:Nat:=1000000000000000000000000
def uR{σ ρ:Type}(a:σ->Option (σ⊕ρ)):Nat->σ->Option ρ
 | 0,_=>none
 | n+1,s =>
  match a s with
  | some (.inl s')=>uR a n s'
  | some (.inr r)=>some r
  | none=>none
def aO{σ ρ:Type}(a:σ->Option (σ⊕ρ))(s:σ):Option ρ:=uR a FU s
def aei{σ ρ:Type}{a:σ->Option (σ⊕ρ)}(I:σ->Prop)(μ:σ->Nat)(Q:ρ->Prop)
  (b:∀s,I s->(∃c,a s=some (.inl c)∧I c∧μ c<μ s)∨(∃r,a s=some (.inr r)∧Q r)):∀(n:Nat)(s:σ),I s->μ s<n->∃r,uR a n s=some r∧Q r:=by
 intro n
 induction n with
 | zero=>intro s _ h;omega
 | succ n f =>
  intro s g k;rcases b s g with⟨c,d,e,l⟩|⟨r,d,e⟩
  ·obtain⟨r,i,j⟩:=f c e (by omega);exact⟨r,by simp only[uR,d];exact i,j⟩
  ·exact⟨r,by simp only[uR,d],e⟩
def uU{σ ρ:Type}{body:σ->Option (σ⊕ρ)}(I:σ->Prop)(μ:σ->Nat)(Q:ρ->Prop){s:σ}(c:I s)(d:μ s<FU)
  (a:∀s,I s->(∃b,body s=some (.inl b)∧I b∧μ b<μ s)∨(∃r,body s=some (.inr r)∧Q r)):∃r,aO body s=some r∧Q r:=aei I μ Q a FU s c d
def idx{α:Type}(l:List α)(i:Int):Option α:=if 0<=i∧i<l.length then l[i.toNat]? else none
def Hj{α:Type}(l:List α)(a b:Int):Option (List α):=if 0<=a∧a<=b∧b<=l.length then some ((l.drop a.toNat).take (b.toNat-a.toNat)) else none
def Ha{α:Type}(bytes:Nat)(n c:Int)(z:α):Option (List α):=if 0<=n∧n<=c∧c<=maxLen∧c.toNat*bytes<=140737488355328 then some (List.replicate n.toNat z) else none
abbrev Bd(σ ρ:Type):Type:=σ->Option (σ⊕ρ)
def me{α:Type}(bytes:Nat)(l m:List α):Option (List α):=if l.length+m.length<=maxLen∧(l.length+m.length)*bytes<=140737488355328 then some (l++m) else none
def aeg{α:Type}(bytes:Nat)(l:List α)(i:Int)(xs:List α):Option (List α):=if 0<=i∧i<=l.length∧0<xs.length∧(l.length+xs.length)*bytes<=140737488355328 then some (l.take i.toNat++(xs++l.drop i.toNat)) else none
def adn{α:Type}(l:List α)(i j:Int):Option (List α):=if 0<=i∧i<=j∧j<=l.length∧l.length<=maxLen then some (l.take i.toNat++l.drop j.toNat) else none
def Uj{α:Type}(x:Bool×α):Option α:=if x.1=true then none else some x.2
def UX{α:Type}(x:Bool×α):Option α:=if x.1=true then some x.2 else none
def Nh{α:Type}(l:List α):List (Bool×α):=l.map fun x=>(false,x)
def Ep(k:IntKind)(x y:Int):Option Int:=if y=0 then none else some (k.wrap (x.tdiv y))
def JE(_:IntKind)(x y:Int):Option Int:=if y=0 then none else some (x.tmod y)
def LP(k:IntKind)(x y:Int):Option Int:=if y<0 then none else some (k.wrap (x*2 ^ (min y.toNat k.bits)))
def CZ(k:IntKind)(x y:Int):Option Int:=if y<0 then none else some (x.fdiv (2 ^ (min y.toNat k.bits)))
def nR(op:BinOp)(k:IntKind)(x y:Int):Int :=
 let a:=BitVec.ofInt k.bits x
 let b:=BitVec.ofInt k.bits y
 match op with
 | .and=>k.wrap (a &&& b).toNat
 | .or=>k.wrap (a ||| b).toNat
 | .xor=>k.wrap (a ^^^ b).toNat
 | _=>k.wrap (a &&& ~~~b).toNat
def ib{κ α:Type}[DecidableEq κ](z:α):List (κ×α)->κ->α
 | [],_=>z
 | (k,v)::m,n=>if k=n then v else ib z m n
def qG{κ α:Type}[DecidableEq κ]:List (κ×α)->κ->Bool
 | [],_=>false
 | (k,_)::m,n=>k==n||qG m n
def u4{κ α:Type}[DecidableEq κ]:List (κ×α)->κ->α->List (κ×α)
 | [],n,v=>[(n,v)]
 | (k,x)::m,n,v=>if k=n then (k,v)::m else (k,x)::u4 m n v
def vk(l:List Int):List Int:=l.mergeSort fun x y=>decide (x<=y)
def tZ(l:List Int):(vk l).length=l.length:=List.length_mergeSort l
def Om:vk []=[]:=by simp[vk]
def ae{α β:Type}{o:Option α}{f:α->Option β}{r:β}(h:o.bind f=some r):∃a,o=some a∧f a=some r:=by
 cases o with
 | none=>cases h
 | some a=>exact⟨a,rfl,h⟩
def akp{α:Type}{b:Bool}{x y r:α}(a:b=true)(h:(if b=true then x else y)=r):x=r:=by rw[if_pos a]at h;exact h
def ako{α:Type}{b:Bool}{x y r:α}(a:b=false)(h:(if b=true then x else y)=r):y=r:=by rw[a]at h;simpa using h
def ai{a b:Prop}(x:a)(y:b):a∧b:=⟨x,y⟩
def sp{α:Type}{b:Bool}{P1 P2 Q:Prop}{x y r:α}(k:(b=true->P1)->(b=false->P2)->Q)(h:(if b=true then x else y)=r)(h1:b=true->x=r->P1)(h2:b=false->y=r->P2):Q:=k (fun a=>h1 a (akp a h)) fun a=>h2 a (ako a h)
end Go.Proofs.YtobnihfgnbnncaaGreat.P
namespace Go.Proofs.YtobnihfgnbnncaaGreat.Am
open Go.RowKit Go.Proofs.YtobnihfgnbnncaaGreat.P
structure jq(α:Type) where
 cells:α->List D
 size:Nat
 len:∀x,(cells x).length=size
 pos:0<size
 inj:∀x y,cells x=cells y->x=y
def aq{α:Type}(e:jq α):List α->List D
 | []=>[]
 | x::l=>e.cells x++aq e l
section
variable {α β:Type} (e:jq α)
def DE:aq e []=[]:=rfl
def bY(x:α)(l:List α):aq e (x::l)=e.cells x++aq e l:=rfl
def je:∀l m:List α,aq e (l++m)=aq e l++aq e m
 | [],m=>rfl
 | x::l,m=>by rw[aoJ,bY,bY,je l m,aoK]
def bQ:∀l:List α,(aq e l).length=l.length*e.size
 | []=>by simp[aq]
 | x::l=>by rw[bY,an7,bQ l,e.len,anO,aoz];omega
def ru:∀(l:List α)(i:Nat),(aq e l).drop (i*e.size)=aq e (l.drop i)
 | l,0=>by simp
 | [],i+1=>by simp[aq]
 | x::l,i+1=>by
  rw[bY,aoL,<- ru l i,aow,e.len,aox (by rw[e.len,aoz];omega),aoy];grind
def lV:∀(l:List α)(i:Nat),(aq e l).take (i*e.size)=aq e (l.take i)
 | l,0=>by simp[aq]
 | [],i+1=>by simp[aq]
 | x::l,i+1=>by
  rw[bY,aoM,bY,List.take_append,e.len,aoF (by rw[e.len,aoz];omega),<- lV l i];grind
def zP:∀l m:List α,aq e l=aq e m->l=m
 | [],[],_=>rfl
 | [],y::m,h=>by
  have:=congrArg List.length h;have a:=e.pos;rw[bY,an7,e.len]at this;simp[aq]at this;omega
 | x::l,[],h=>by
  have:=congrArg List.length h;have a:=e.pos;rw[bY,an7,e.len]at this;simp[aq]at this;omega
 | x::l,y::m,h=>by
  rw[bY,bY]at h;obtain⟨b,c⟩:=aoN h (by rw[e.len,e.len]);rw[e.inj _ _ b,zP l m c]
def Sj:∀(n:Nat)(x:α),rK n (e.cells x)=aq e (List.replicate n x)
 | 0,x=>by simp[rK,aq]
 | n+1,x=>by rw[anU,bY,<- Sj n x];simp[rK,List.replicate_succ]
end
def eI(k:IntKind):jq Int:=⟨fun n=>[.int k n],1,fun _=>rfl,by decide,fun x y h=>by simpa using h⟩
def aiM:jq ByteArray:=⟨fun n=>[.str n],1,fun _=>rfl,by decide,fun x y h=>by simpa using h⟩
def fj{α:Type}(e:jq α):jq (List α):=⟨fun l=>[.sl false false l.length (aq e l)],1,fun _=>rfl,by decide,fun x y h=>by
 simp only[ans,D.sl.injEq,true_and,and_true]at h;exact zP e _ _ h.2⟩
def pt{α β:Type}(e:jq α)(f:jq β):jq (α×β):=⟨fun x=>e.cells x.1++f.cells x.2,e.size+f.size,fun x=>by rw[an7,e.len,f.len],am9 e.pos (Nat.le_add_right _ _),fun x y h=>by
 obtain⟨a,b⟩:=aoN h (by rw[e.len,e.len]);exact Prod.ext (e.inj _ _ a) (f.inj _ _ b)⟩
def DC{α β:Type}(e:jq β)(f:α->β)(hf:∀x y,f x=f y->x=y):jq α:=⟨fun x=>e.cells (f x),e.size,fun x=>e.len _,e.pos,fun x y h=>hf _ _ (e.inj _ _ h)⟩
structure Arg(α:Type) where
 d:α->D
 inj:∀x y,d x=d y->x=y
def aI(k:IntKind):Arg Int:=⟨fun n =>.int k n,fun x y h=>by simpa using h⟩
def ahL:Arg Bool:=⟨fun n =>.bool n,fun x y h=>by simpa using h⟩
def iQ{α:Type}(e:jq α):Arg (List α):=⟨fun l =>.sl false false l.length (aq e l),fun x y h=>by
 simp only[D.sl.injEq,true_and]at h;exact zP e _ _ h.2⟩
def bC{α:Type}(e:jq α):Arg α:=⟨fun x =>.agg (e.cells x),fun x y h=>e.inj _ _ (by simpa using h)⟩
def aj6(k:IntKind)(n:Int):(aI k).d n=.int k n:=apL
def X9(n:Bool):ahL.d n=.bool n:=apL
def ahN{α:Type}(e:jq α)(l:List α):(iQ e).d l=.sl false false l.length (aq e l):=apL
def acJ{α:Type}(e:jq α)(x:α):(bC e).d x=.agg (e.cells x):=apL
def Dw(k:IntKind)(n:Int):(eI k).cells n=[.int k n]:=apL
def Eu{α:Type}(e:jq α)(l:List α):(fj e).cells l=[.sl false false l.length (aq e l)]:=apL
structure kZ(α:Type) where
 ds:α->List D
 inj:∀x y,ds x=ds y->x=y
def as0:kZ Unit:=⟨fun _=>[],fun _ _ _=>rfl⟩
def dp{α:Type}(a:Arg α):kZ α:=⟨fun x=>[a.d x],fun x y h=>a.inj _ _ (by simpa using h)⟩
def eZ{α β:Type}(a:Arg α)(b:kZ β):kZ (α×β):=⟨fun x=>a.d x.1::b.ds x.2,fun x y h=>by
 simp only[ans]at h;exact Prod.ext (a.inj _ _ h.1) (b.inj _ _ h.2)⟩
def dx{α β:Type}(A:kZ α)(F:α->Option β)(R:β->RK):Option (D×Row)->List D->Option (RK×Option Row):=fun cg b =>
 match cg with
 | none=>open Classical in if h:∃a,A.ds a=b then (F (Classical.choose h)).map fun r=>(R r,none) else none
 | some _=>none
def cF{α β:Type}(A:kZ α)(F:α->Option β)(R:β->RK)(a:α):dx A F R none (A.ds a)=(F a).map fun r=>(R r,none):=by
 have h:∃b,A.ds b=A.ds a:=⟨a,rfl⟩;simp only[dx];rw[dif_pos h,A.inj _ _ (Classical.choose_spec h)]
def uV{α β:Type}{A:kZ α}{F:α->Option β}{R:β->RK}{cg:Option (D×Row)}{c:List D}{d:RK}{b:Option Row}(h:dx A F R cg c=some (d,b)):cg=none∧b=none∧∃a r,c=A.ds a∧F a=some r∧d=R r:=by
 unfold dx at h;split at h
 ·split at h
  ·rename_i e;rw[am4]at h;grind
  ·cases h
 ·cases h
structure b6(P:Program)(f:FuncId)(G:Option (D×Row)->List D->Option (RK×Option Row)):Prop where
 calls:∀cg am1 rk out,G cg am1=some (rk,out)->uc P f cg am1 rk out
 callable:fB P f
def b6.of{P:Program}{T:Nat->Option Ty}{Γ:Env}(i:km P T)(j:bN P Γ)(k:P.follows .mixedOrders=true){α β:Type}{A:kZ α}{F:α->Option β}{R:β->RK}{d:Mode}{f:FuncId}{b:Func}(g:P.funcs[f]? = some b)(e:(match b.body with|some c=>codeOk c|none=>true)=true)
  (l:(b.name == "runtime.NumGoroutine")=false∧b.body.isNone=false) (m:∀a,(A.ds a).length<=b.ntmps) (h:∀a r,F a=some r->lP d T Γ FU b none (A.ds a)=some (R r,none)):b6 P f (dx A F R) where
 calls cg am1 rk out n:=by
  obtain⟨rfl,rfl,a,r,rfl,o,rfl⟩:=uV n;exact mT i j k g e (m a) rfl (h a r o)
 callable:=⟨b,g,l⟩
def bN.add{P:Program}{Γ:Env}(a:bN P Γ){f:Nat}{G:Option (D×Row)->List D->Option (RK×Option Row)}(h:b6 P f G)(l:Bool):bN P (Am.ext Γ f l G):=a.ext h.calls h.callable
section
variable {T:Nat->Option Ty} {Γ:Env} {N e:Nat} {ws:List W} {Q:Kt} {t:Nat->D} {h:Nat->Option Row}
def LK{σ ρ:Type}(b:σ->(Nat->D)->(Nat->Option Row)->Nat->Prop)(a:ρ->Ex->(Nat->D)->(Nat->Option Row)->Nat->Prop)(c:σ⊕ρ):Kt:=fun x t h e =>
 match x with
 | .normal=>∃d,c=.inl d∧b d t h e
 | x=>∃o,c=.inr o∧a o x t h e
def gS{σ ρ:Type}{a:σ->(Nat->D)->(Nat->Option Row)->Nat->Prop}{b:ρ->Ex->(Nat->D)->(Nat->Option Row)->Nat->Prop}{c:σ}(k:a c t h e):LK a b (.inl c) .normal t h e:=⟨c,rfl,k⟩
def jf{σ ρ:Type}{b:σ->(Nat->D)->(Nat->Option Row)->Nat->Prop}{a:ρ->Ex->(Nat->D)->(Nat->Option Row)->Nat->Prop}{o:ρ}{n:Nat}(k:a o (.exit n) t h e):LK b a (.inr o) (.exit n) t h e:=⟨o,rfl,k⟩
def tf{σ ρ:Type}{b:σ->(Nat->D)->(Nat->Option Row)->Nat->Prop}{a:ρ->Ex->(Nat->D)->(Nat->Option Row)->Nat->Prop}{o:ρ}(k:a o .ret t h e):LK b a (.inr o) .ret t h e:=⟨o,rfl,k⟩
def az{σ ρ:Type}{a:σ->Option (σ⊕ρ)}{b:Code}(d:σ->(Nat->D)->(Nat->Option Row)->Nat->Prop)(f:ρ->Ex->(Nat->D)->(Nat->Option Row)->Nat->Prop){l:σ}{g:ρ}(w:aO a l=some g)(y:d l t h e)
  (i:∀s t h e,d s t h e->∀c,a s=some c->er T Γ N FU [.code b] (LK d f c) .normal t h e)
  (p:∀x t h e,f g x t h e->er T Γ N FU ws Q x t h e):ZI T Γ N FU b ws Q t h e:=by
 have key:∀(n:Nat)(s:σ)(t:Nat->D)(h:Nat->Option Row)(e:Nat),d s t h e->uR a n s=some g->∃x j,iter (iP T Γ N FU b) n ⟨t,h,e⟩=some (x,j)∧er T Γ N FU ws Q x j.t j.h j.e:=by
  intro n
  induction n with
  | zero=>intro s t h e _ k;cases k
  | succ n z =>
   intro s t h e A k;simp only[uR]at k;cases v:a s with
   | none=>simp_all
   | some c =>
    rw[v]at k;obtain⟨x,q,B,r⟩:=FO _ _ _ _ _ (show QN T Γ N FU b t h e (LK d f c) from i s t h e A c v);simp only[iter,B];cases x with
    | normal =>
     obtain⟨j,rfl,u⟩:=r;exact z j q.t q.h q.e u k
    | exit m =>
     obtain⟨o,rfl,u⟩:=r;grind
    | ret =>
     obtain⟨o,rfl,u⟩:=r;grind
 exact key FU l t h e y w
def Ec{d:D}{g:Nat}{A B A' B':(Nat->D)->Prop}(a:XM d t g A B)(h1:∀t,A t->A' t)(h2:∀t,B t->B' t):XM d t g A' B':=by
 cases d with
 | bool b=>exact⟨fun c=>h1 _ (a.1 c),fun c=>h2 _ (a.2 c)⟩
 | _=>exact a
def K3{d:D}{g:Nat}{A B S A' B' S':(Nat->D)->Prop}(a:wpS d t g A B S)(b:∀t,A t->A' t)(c:∀t,B t->B' t)(e:∀t,S t->S' t):wpS d t g A' B' S':=by
 unfold wpS at a ⊢;split at a
 ·exact e _ a
 ·exact Ec a b c
def JP{α:Type}{x:Option α}{K K':α->Prop}(b:xh x K)(c:∀a,K a->K' a):xh x K':=by
 cases x with
 | none=>exact b
 | some a=>exact c a b
def Vw{ops:List Oper}{gd:Option (Nat×Bool)}{A B A' B':(Nat->D)->Prop}(a:wpG ops t gd A B)(c:∀t,A t->A' t)(d:∀t,B t->B' t):wpG ops t gd A' B':=by
 unfold wpG at a ⊢;split
 ·exact c _ a
 ·rename_i j b;refine JP a fun g e=>K3 e ?_ ?_ d
  ·grind
  grind
def Ee{o:Oper}{K K':(Nat->D)->cI->Prop}(a:Vv T Γ e o t h K)(h1:∀t E,K t E->K' t E):Vv T Γ e o t h K':=by
 unfold Vv at a ⊢;split
 ·rename_i b;rw[b]at a;exact Ec a (fun _ h=>h1 _ _ h) (fun _ h=>h1 _ _ h)
 ·rename_i c;split at a
  ·simp_all
  ·exact JP a (fun _ h=>h1 _ _ h)
def By{ops:List Oper}{K K':(Nat->D)->(Nat->Option Row)->Prop}(h1:∀t h,K t h->K' t h):∀(l:List Oper)(t:Nat->D)(h:Nat->Option Row),Kw T Γ N e ops l t h K->Kw T Γ N e ops l t h K'
 | [],t,h,hk=>h1 _ _ hk
 | o::l,t,h,hk=>by
  unfold Kw at hk ⊢;exact⟨hk.1,Vw hk.2 (fun t a=>Ee a fun t E b=>By h1 l _ _ b) (fun t a=>By h1 l _ _ a)⟩
def Bv{ops:List Oper}{K K':(Nat->D)->(Nat->Option Row)->List nQ->Prop}(h1:∀t h fs,K t h fs->K' t h fs):∀(l:List Oper)(t:Nat->D)(h:Nat->Option Row)(fs:List nQ),runK T Γ N e ops l t h fs K->runK T Γ N e ops l t h fs K'
 | [],t,h,fs,hk=>h1 _ _ _ hk
 | o::l,t,h,fs,hk=>by
  unfold runK at hk ⊢;exact⟨hk.1,Vw hk.2 (fun t a=>Ee a fun t E b=>Bv h1 l _ _ _ b) (fun t a=>Bv h1 l _ _ _ a)⟩
def af3{ops:Array Oper}{a:Bool}{K K':(Nat->D)->(Nat->Option Row)->Prop}(b:wpR T Γ N ops a t h e K)(c:∀t h,K t h->K' t h):wpR T Γ N ops a t h e K':=by
 unfold wpR at b ⊢;cases a with
 | true=>exact Bv (fun t h fs d=>⟨d.1,c _ _ d.2⟩) _ _ _ _ b
 | false=>exact By c _ _ _ b
def acf{F:Nat}:∀(c:Code)(t:Nat->D)(h:Nat->Option Row)(e:Nat)(K K':Kt),QN T Γ N F c t h e K->(∀x t h e,K x t h e->K' x t h e)->QN T Γ N F c t h e K':=by
 intro c
 induction c with
 | skip=>intro t h e K K' d hm;exact hm _ _ _ _ d
 | region i ops draw=>intro t h e K K' d hm;exact af3 d fun t h o=>hm _ _ _ _ o
 | seq a b j k =>
  intro t h e K K' d hm;refine j _ _ _ _ _ d fun x t h e f =>?_;cases x with
  | normal=>exact k _ _ _ _ _ f hm
  | exit n=>exact hm _ _ _ _ f
  | ret=>exact hm _ _ _ _ f
 | cond c x y ihx ihy =>
  intro t h e K K' d hm;unfold QN at d ⊢;cases c with
  | tmp g=>exact Ec d (fun t l=>ihx _ _ _ _ _ l hm) (fun t l=>ihy _ _ _ _ _ l hm)
  | const v =>
   grind
  | _=>exact d
 | block id b m =>
  intro t h e K K' d hm;refine m _ _ _ _ _ d fun x t h e f =>?_;cases x with
  | normal=>exact hm _ _ _ _ f
  | ret=>exact hm _ _ _ _ f
  | exit n =>
   unfold ac1 at f ⊢;grind
 | loop b m =>
  intro t h e K K' d hm;obtain⟨x,s,p,q⟩:=d;exact⟨x,s,p,hm _ _ _ _ q⟩
 | exit id=>intro t h e K K' d hm;exact hm _ _ _ _ d
 | ret=>intro t h e K K' d hm;exact hm _ _ _ _ d
 | _=>intro t h e K K' d;exact d.elim
def CK{σ:Type}(J:σ->(Nat->D)->(Nat->Option Row)->Nat->Prop)(P:σ->Prop)(R:Kt):Kt:=fun x t h e =>
 match x with
 | .normal=>∃s,P s∧J s t h e
 | x=>R x t h e
def ay{σ:Type}{J:σ->(Nat->D)->(Nat->Option Row)->Nat->Prop}{P:σ->Prop}{R:Kt}:CK J P R .normal t h e = ∃s,P s∧J s t h e:=apL
end
section
variable {h:Nat->Option Row}
def Mq{k:IntKind}{n:Int}:canon (.int k n)=.int k n:=apL
def Mr{b:ByteArray}:canon (.str b)=.str b:=apL
def Rr{a b:Bool}{n:Nat}{xs:List D}:canon (.sl a b n xs)=.sl false false n xs:=apL
def H9{xs:List D}:kJ (.agg xs)=.agg (xs.map canon):=apL
def clB(x s o n:Nat):Option Row->Option (D×List Nat)
 | some r=>if o+n*s<=r.cells.length then some (.sl false false n ((r.cells.drop o).take (n*s)),[x]) else none
 | none=>none
def RB{x s o n:Nat}{r:Row}:clB x s o n (some r)=if o+n*s<=r.cells.length then some (.sl false false n ((r.cells.drop o).take (n*s)),[x]) else none:=apL
def clP(x o:Nat):Option Row->Option (D×List Nat)
 | some r=>if o<=r.cells.length then some (.ip (r.cells.drop o),[x]) else none
 | none=>none
def RG{x o:Nat}{r:Row}:clP x o (some r)=if o<=r.cells.length then some (.ip (r.cells.drop o),[x]) else none:=apL
def Rw{k:IntKind}{n:Int}:cO h (.int k n)=some (.int k n,[]):=apL
def Mt{b:Bool}:cO h (.bool b)=some (.bool b,[]):=apL
def Yr{a b:Bool}{n:Nat}{xs:List D}:cO h (.sl a b n xs)=some (.sl false false n xs,[]):=apL
def Rt{xs:List D}:cO h (.agg xs)=some (.agg (xs.map canon),[]):=apL
def Yq{xs:List D}:cO h (.ip xs)=some (.ip xs,[]):=apL
def Yp{f:Nat}:cO h (.fn f)=some (.fn f,[]):=apL
def Ru{x v s o n:Nat}:cO h (.buf x v s o n)=clB x s o n (live h x v):=by
 simp only[cO,b7,eS];cases live h x v with
 | none=>rfl
 | some r=>by_cases a:o+n*s<=r.cells.length<;>simp[clB,a,canon]
def Rx{x v o:Nat}:cO h (.ptr x v o)=clP x o (live h x v):=by
 simp only[cO,b7];cases live h x v with
 | none=>rfl
 | some r=>simp only[clP]
def adl{k:IntKind}{n:Int}:ir h (.int k n)=some ([.int k n],[]):=apL
def adm{b:ByteArray}:ir h (.str b)=some ([.str b],[]):=apL
def ahR{a b:Bool}{n:Nat}{xs:List D}:ir h (.sl a b n xs)=some ([.sl a b n xs],[]):=apL
def adj{xs:List D}:ir h (.agg xs)=some (xs,[]):=apL
def cvB:Option (D×List Nat)->Option (List D×List Nat)
 | some (d,fr)=>some ([d],fr)
 | none=>none
def RO{d:D}{fr:List Nat}:cvB (some (d,fr))=some ([d],fr):=apL
def adk{x v s o n:Nat}:ir h (.buf x v s o n)=cvB (clB x s o n (live h x v)):=by
 simp only[ir,eS];cases live h x v with
 | none=>rfl
 | some r=>by_cases a:o+n*s<=r.cells.length<;>simp[clB,cvB,a]
def clF(h:Nat->Option Row):Option (D×List Nat)->Option cI
 | some (d,fr)=>some ⟨d,lJ h fr⟩
 | none=>none
def RE{d:D}{fr:List Nat}:clF h (some (d,fr))=some ⟨d,lJ h fr⟩:=apL
def Yb{x v s o n:Nat}:p6 h (.buf x v s o n)=clF h (clB x s o n (live h x v)):=by
 simp only[p6,uA,eS];cases live h x v with
 | none=>rfl
 | some r=>by_cases a:o+n*s<=r.cells.length<;>simp[clB,clF,a,canon,kJ]
variable {Γ:Env} {f g e:Nat} {l:Bool} {G:Option (D×Row)->List D->Option (RK×Option Row)} {cg:Option (D×Row)} {am1:List D} {dst:Option Nat} {fr:List Nat}
def Nc:(Am.ext Γ f l G).lends g=if g=f then l else Γ.lends g:=apL
def YN:(Am.ext Γ f l G).sem g cg am1=if g=f then G cg am1 else Γ.sem g cg am1:=apL
def YM{d:Nat}:(Am.ext Γ f l G).own d=Γ.own d:=apL
def NN{d:Nat}:bd.own d=true:=apL
def Te{d i:Nat}:(Am.keep d Γ).own i=(i != d&&Γ.own i):=apL
def Jn{d i:Nat}:(Am.keep d Γ).lends i=Γ.lends i:=apL
def Tf{d i:Nat}:(Am.keep d Γ).sem i cg am1=Γ.sem i cg am1:=apL
def GZ(b:Bool)(Γ:Env)(h:Nat->Option Row)(e:Nat)(dst:Option Nat)(g:Nat)(a:List D):Option cI :=
 if b then
  match a with
  | .buf x v s o n::rest=>uw Γ h e dst g x v (.buf 0 0 s o n) rest
  | .ptr x v o::rest=>uw Γ h e dst g x v (.ptr 0 0 o) rest
  | .mp x v::rest=>uw Γ h e dst g x v (.mp 0 0) rest
  | _=>none
 else zt Γ h e dst g a
def ago(p:Option (Nat×Nat×Nat))(Γ:Env)(h:Nat->Option Row)(e:Nat)(dst:Option Nat)(g:Nat)(a:List D):Option cI :=
 match p with
 | some p=>yO h e dst p a
 | none =>
  match Γ.grw g with
  | some p=>BP h p a
  | none=>GZ (Γ.lends g) Γ h e dst g a
def akg(p:Option Grow)(Γ:Env)(h:Nat->Option Row)(e:Nat)(dst:Option Nat)(g:Nat)(a:List D):Option cI :=
 match p with
 | some p=>BP h p a
 | none=>GZ (Γ.lends g) Γ h e dst g a
def Mj{a:List D}:ago none Γ h e dst g a=akg (Γ.grw g) Γ h e dst g a:=apL
def Mi{a:List D}:akg none Γ h e dst g a=GZ (Γ.lends g) Γ h e dst g a:=apL
def YJ{f:Nat}{l:Bool}{G:Option (D×Row)->List D->Option (RK×Option Row)}:(Am.ext Γ f l G).grw g=Γ.grw g:=apL
def Tb{d:Nat}:(Am.keep d Γ).grw g=Γ.grw g:=apL
def S6{f:Nat}{p:Nat×Nat×Nat}:(Am.Jl f p Γ).grw g=Γ.grw g:=apL
def NI:bd.grw g=none:=apL
def Mk{p:Nat×Nat×Nat}{a:List D}:ago (some p) Γ h e dst g a=yO h e dst p a:=apL
def YK{f:Nat}{l:Bool}{G:Option (D×Row)->List D->Option (RK×Option Row)}:(Am.ext Γ f l G).ins g=Γ.ins g:=apL
def Tc{d:Nat}:(Am.keep d Γ).ins g=Γ.ins g:=apL
def NJ:bd.ins g=none:=apL
def S7{f:Nat}{p:Nat×Nat×Nat}:(Am.Jl f p Γ).ins g=if g=f then some p else Γ.ins g:=apL
def Jm{f:Nat}{p:Nat×Nat×Nat}:(Am.Jl f p Γ).lends g=Γ.lends g:=apL
def S9{f:Nat}{p:Nat×Nat×Nat}{l:Option (D×Row)}{am1:List D}:(Am.Jl f p Γ).sem g l am1=Γ.sem g l am1:=apL
def S8{f:Nat}{p:Nat×Nat×Nat}{d:Nat}:(Am.Jl f p Γ).own d=Γ.own d:=apL
def ac6(ty k b x y s c o f n m:Nat)(i:Int)(e:Nat)(d:Nat):Option Row->Option Row->Option cI
 | some r,some a =>
   if r.fz=false∧a.fz=false∧r.lst=true∧a.lst=true∧x≠y∧s=k∧c=k∧r.ty=ty∧a.ty=ty∧o=0∧f=0∧r.cells.length=n*k∧a.cells.length=m*k∧0<=i∧i<=n∧0<m∧(n+m)*b<=140737488355328 then
    some ⟨.buf d e k 0 (n+m),[(y,none),(x,none),(d,some ⟨e,ty,r.cells.take (i.toNat*k)++(a.cells++r.cells.drop (i.toNat*k)),false,true,false⟩)]⟩
   else none
 | _,_=>none
def Yl{ty k a x v s o n y b c f m d:Nat}{i:Int}:yO h e (some d) (ty,k,a) [.buf x v s o n,.int .i64 i,.buf y b c f m]=ac6 ty k a x y s c o f n m i e d (live h x v) (live h y b):=by
 simp only[yO,ac6];grind
def H0{ty k b x y s c o f n m:Nat}{i:Int}{d:Nat}{r a:Row}:ac6 ty k b x y s c o f n m i e d (some r) (some a) = if r.fz = false ∧ a.fz = false ∧ r.lst = true ∧ a.lst = true ∧ x ≠ y ∧ s = k ∧ c = k ∧ r.ty = ty ∧ a.ty = ty ∧ o = 0 ∧ f = 0 ∧ r.cells.length = n * k ∧ a.cells.length = m * k ∧ 0 <= i ∧ i <= n ∧ 0 < m ∧ (n + m) * b <= 140737488355328 then
        some ⟨.buf d e k 0 (n + m), [(y, none), (x, none), (d, some ⟨e, ty, r.cells.take (i.toNat * k) ++ (a.cells ++ r.cells.drop (i.toNat * k)), false, true, false⟩)]⟩
      else none:=Eq.trans rfl rfl
def Yn{a:List D}:kD Γ h e dst (.fn g) a=ago (Γ.ins g) Γ h e dst g a:=by
 simp only[kD,ago,GZ];grind
def aaD(h:Nat->Option Row)(e:Nat)(dst:Option Nat)(fr:List Nat):Option (RK×Option Row)->Option cI
 | some (.clean r,_)=>some ⟨r,if kP r then [] else lJ h fr⟩
 | some (.fresh ty s n cells,_) =>
  match dst with
  | some d=>if fr.contains d=false then some ⟨.buf d e s 0 n,(if uK cells then [] else lJ h fr)++[(d,some ⟨e,ty,cells,false,true,false⟩)]⟩ else none
  | none=>none
 | _=>none
def agn(Γ:Env)(h:Nat->Option Row)(e:Nat)(dst:Option Nat)(g:Nat):Option (List D×List Nat)->Option cI
 | some (am1,fr)=>aaD h e dst fr (Γ.sem g none am1)
 | none=>none
def Ml{a:List D}:GZ false Γ h e dst g a=agn Γ h e dst g (cc h a):=by
 simp only[GZ,anD,if_false,zt,agn];cases cc h a with
 | none=>rfl
 | some p =>
  obtain⟨am1,fr⟩:=p;simp only;cases c:Γ.sem g none am1 with
  | none=>rfl
  | some q =>
   obtain⟨b,o⟩:=q;cases b<;>rfl
def Mh:agn Γ h e dst g (some (am1,fr))=aaD h e dst fr (Γ.sem g none am1):=apL
def ad3(h:Nat->Option Row)(fr:List Nat):Bool->List (Nat×Option Row)
 | true=>[]
 | false=>lJ h fr
def Np:ad3 h fr true=[]:=apL
def IX:ad3 h fr false=lJ h fr:=apL
def SE{b:Bool}:ad3 h [] b=[]:=by cases b<;>rfl
def H5{r:D}{o:Option Row}:aaD h e dst fr (some (.clean r,o))=some ⟨r,ad3 h fr (kP r)⟩:=by
 simp only[aaD]<;>cases kP r<;>rfl
def YP:lJ h []=[]:=apL
def SF{x:Nat}:lJ h (x::fr)=(x,(h x).map y9)::lJ h fr:=apL
def Mu:cc h []=some ([],[]):=apL
def caC(p:Option (D×List Nat))(q:Option (List D×List Nat)):Option (List D×List Nat) :=
 match p,q with
 | some (c,fr),some (a,b)=>some (c::a,fr++b)
 | _,_=>none
def Rc{d:D}{fr a:List Nat}{b:List D}:caC (some (d,fr)) (some (b,a))=some (d::b,fr++a):=apL
def Ia{d:D}{a:List D}:cc h (d::a)=caC (cO h d) (cc h a):=by
 simp only[cc];cases cO h d with
 | none=>rfl
 | some p=>cases cc h a<;>rfl
variable {T:Nat->Option Ty} {s:St} {rs:List ResultVar} {r:ResultVar}
def UB:AB T s []=some ([],[]):=apL
def Ob:AB T s (r::rs)=caC (Uz T s r) (AB T s rs):=by
 simp only[AB];cases Uz T s r with
 | none=>rfl
 | some p=>cases AB T s rs<;>rfl
def UA{t:Nat->D}{i:Nat}:Uz T ⟨t,h,e⟩ (.tmp i)=cO h (t i):=apL
def aje(T:Nat->Option Ty)(h:Nat->Option Row)(d:D)(τ:Option Ty):Option (D×List Nat) :=
 match τ,d with
 | some τ,.ptr x v o=>match gi τ h (.ptr x v o) with|some E=>some (kJ E.val,[])|none=>none
 | _,_=>none
def N9{t:Nat->D}{i ty:Nat}:Uz T ⟨t,h,e⟩ (.cell i ty)=aje T h (t i) (T ty):=apL
def ajf:Option cI->Option (D×List Nat)
 | some E=>some (kJ E.val,[])
 | none=>none
def Oa{d:D}{w:List (Nat×Option Row)}:ajf (some ⟨d,w⟩)=some (kJ d,[]):=apL
def Uy{τ:Ty}{x v o:Nat}:aje T h (.ptr x v o) (some τ)=ajf (gi τ h (.ptr x v o)):=by
 simp only[aje,ajf]
def aiO(p:Option (List D×List Nat)):Option (RK×Option Row) :=
 match p with
 | some (ds,_)=>some (.clean (pe ds),none)
 | none=>none
def MW{a:List D}{fr:List Nat}:aiO (some (a,fr))=some (.clean (pe a),none):=apL
def IL:gF .clean T none rs s=aiO (AB T s rs):=by
 simp only[gF,uJ,oN,aeV,aiO];grind
def H6{ty a n d:Nat}{cells:List D}{o:Option Row}:aaD h e (some d) fr (some (.fresh ty a n cells,o))=if fr.contains d=false then some ⟨.buf d e a 0 n,ad3 h fr (uK cells)++[(d,some ⟨e,ty,cells,false,true,false⟩)]⟩ else none:=by
 simp only[aaD]<;>cases uK cells<;>rfl
def Ew{k:IntKind}:∀l:List Int,uK (aq (eI k) l)=true
 | []=>rfl
 | x::l=>by
  have:=Ew (k:=k) l;simp only[bY,Dw,List.cons_append,List.nil_append,uK,kP,this,Bool.and_self]
def IM{ty a i:Nat}{t:Nat->D}:gF (.fresh ty a) T none [.tmp i] ⟨t,h,e⟩=tU ty a h (t i):=apL
def YB{ty a x v o n:Nat}:tU ty a h (.buf x v a o n)=Bh ty a o n (live h x v):=by simp[tU]
def Sf{ty a o n:Nat}{r:Row}:Bh ty a o n (some r)=if r.fz=false∧r.ty=ty∧o+n*a<=r.cells.length then some (.fresh ty a n ((r.cells.drop o).take (n*a)),none) else none:=apL
def Ko{d:D}:pe [d]=d:=apL
def Kp{d a:D}{b:List D}:pe (d::a::b)=.tup (d::a::b):=apL
end
def YA(k:IntKind):(eI k).size=1:=apL
def Se{α:Type}(e:jq α):(fj e).size=1:=apL
section
variable {α:Type} (E:jq α) {l m:List α} {x x' z:α} {i a b n c:Int} {B:Nat}
def uQ(h:P.idx l i=some x):0<=i∧i<l.length:=by
 unfold P.idx at h;simp_all
def PF(h:P.idx l i=some x):l[i.toNat]? = some x:=by
 unfold P.idx at h;grind
def Bj(h:P.idx l i=some x):(aq E l).drop (i.toNat*E.size)=E.cells x++aq E (l.drop (i.toNat+1)):=by
 have a:=PF h;obtain⟨b,rfl⟩:=anx.1 a;rw[ru,aoO b];rfl
def mC(a:Nat)(h:P.idx l i=some x):(aq E l).drop (i.toNat*E.size+a)=(E.cells x++aq E (l.drop (i.toNat+1))).drop a:=by
 rw[<- aoB,Bj E h]
def lq(h:P.idx l i=some x):i.toNat*E.size+E.size<=l.length*E.size:=by
 have a:=uQ h;have:i.toNat+1<=l.length:=by omega
 have:=anM E.size this;grind
def bh(h:P.idx l i=some x):(0<=i∧i<l.length)∧(aq E l).drop (i.toNat*E.size)=E.cells x++aq E (l.drop (i.toNat+1))∧i.toNat*E.size+E.size<=l.length*E.size:=⟨uQ h,Bj E h,lq E h⟩
def lK(a s:Nat)(b:a+s<=E.size)(h:P.idx l i=some x):i.toNat*E.size+a+s<=l.length*E.size:=by
 have:=lq E h;omega
def Xh:∀(l:List α)(i:Nat)(x:α),l[i]? = some x->∀x',aq E (l.set i x')=(aq E l).take (i*E.size)++E.cells x'++(aq E l).drop (i*E.size+E.size)
 | [],i,x,h,x'=>by simp at h
 | y::l,0,x,h,x'=>by
  rw[List.set_cons_zero,bY,bY,aoD,aoP,aoy,an5,aow,E.len,aoa,aoE,aox (by rw[E.len];exact am6 _),aoy]
 | y::l,i+1,x,h,x'=>by
  have a:=Xh l i x (by simpa using h) x';rw[List.set_cons_succ,bY,bY,a,aoz];have b:=E.len y;have c:(E.cells y++aq E l).take (i*E.size+E.size)=E.cells y++(aq E l).take (i*E.size):=by grind
  have d:(E.cells y++aq E l).drop (i*E.size+E.size+E.size)=(aq E l).drop (i*E.size+E.size):=by
   rw[aow,b,aox (by omega),aoy,aoA]
  simp_all
def eN(fo:Nat)(cs:List D)(h:P.idx l i=some x)(c:E.cells x'=putCells (E.cells x) fo cs)(d:fo+cs.length<=E.size):putCells (aq E l) (i.toNat*E.size+fo) cs=aq E (l.set i.toNat x'):=by
 have e:=PF h;rw[Xh E l i.toNat x e x',c];have f:=Bj E h;have g:=lq E h;have j:=bQ E l;have k:=E.len x;have a:aq E l=(aq E l).take (i.toNat*E.size)++(E.cells x++(aq E l).drop (i.toNat*E.size+E.size)):=by
  have m:=aoC (i.toNat*E.size) (aq E l);grind
 generalize (aq E l).drop (i.toNat*E.size+E.size)=r at *;generalize n:(aq E l).take (i.toNat*E.size)=p at *;have b:p.length=i.toNat*E.size:=by grind
 unfold putCells;rw[a];have o:(p++(E.cells x++r)).take (i.toNat*E.size+fo)=p++(E.cells x).take fo:=by
  rw[List.take_append,b,aoF (by omega),aoQ,aoR (by omega)]
 have q:(p++(E.cells x++r)).drop (i.toNat*E.size+fo+cs.length)=(E.cells x).drop (fo+cs.length)++r:=by
  rw[anp,aow,b,aox (by omega),aoQ,aoy,aoS (by omega)]
 simp_all
def ae5(h:P.idx l i=some x):putCells (aq E l) (i.toNat*E.size) (E.cells x')=aq E (l.set i.toNat x'):=by
 have:=eN E (x':=x') 0 (E.cells x') h (by unfold putCells;simp[E.len]) (by rw[E.len];omega);simpa using this
def aeM(h:Ha B n c z=some m):m=List.replicate n.toNat z∧0<=n∧n<=c∧c<=maxLen∧c.toNat*B<=140737488355328:=by
 unfold Ha at h;simp_all
def mk_one(h:Ha B n n z=some m):0<=n∧n.toNat=m.length∧m.length<=maxLen∧rK m.length (E.cells z)=aq E m∧m.length*B<=140737488355328:=by
 obtain⟨rfl,a,_,c,b⟩:=aeM h;refine⟨a,by simp,by simp;omega,by rw[Sj];simp,by simpa using b⟩
def FD(h:Hj l a b=some m):0<=a∧0<=b∧a.toNat<=b.toNat∧b.toNat<=l.length∧b.toNat-a.toNat=m.length∧(List.take (m.length*E.size) (List.drop (a.toNat*E.size) (aq E l))=aq E m):=by
 unfold Hj at h;split at h
 ·rename_i d;cases h;have c:((l.drop a.toNat).take (b.toNat-a.toNat)).length=b.toNat-a.toNat:=by simp;omega
  refine⟨d.1,by omega,by omega,by omega,c.symm,?_⟩;rw[c,ru,lV]
 ·cases h
def ajm(h:Hj l a b=some m):0<=a∧0<=b∧(a.toNat<=b.toNat∧b.toNat<=l.length)∧b.toNat-a.toNat=m.length∧(List.take (m.length*E.size) (List.drop (a.toNat*E.size) (aq E l))=aq E m):=by
 obtain⟨c,d,e,f,g,i⟩:=FD E h;simp_all
def afi(h:Hj l a (l.length:Int)=some m):0<=a∧0<=a∧a.toNat<=l.length∧l.length-a.toNat=m.length∧(List.take (m.length*E.size) (List.drop (a.toNat*E.size) (aq E l))=aq E m):=by
 obtain⟨b,c,d,e,f,g⟩:=FD E h;simp_all
def Qm(h:Hj l 0 b=some m):0<=b∧0<=b∧m.length<=l.length∧b.toNat=m.length∧(List.take (m.length*E.size) (aq E l)=aq E m):=by
 obtain⟨a,c,d,e,f,g⟩:=FD E h;grind
def Em{n:List α}(h:me B l m=some n):n=l++m∧n.length<=maxLen∧n.length*B<=140737488355328:=by
 unfold me at h;grind
def iR{n:List α}(h:me B l [x]=some n):l.length+1=n.length∧aq E l++E.cells x=aq E n∧n.length<=maxLen∧n.length*B<=140737488355328:=by
 obtain⟨rfl,a,b⟩:=Em h;exact⟨by simp,by rw[je];simp[aq],a,b⟩
def vC{n:List α}(h:me B [] l=some n):n=l∧l.length<=maxLen∧l.length*B<=140737488355328:=by
 obtain⟨rfl,a,b⟩:=Em h;simp_all
def agf{n:List α}(h:me B l m=some n):l.length+m.length=n.length∧aq E l++aq E m=aq E n∧n.length<=maxLen∧n.length*B<=140737488355328:=by
 obtain⟨rfl,a,b⟩:=Em h;exact⟨by simp,by rw[je],a,b⟩
end
def xT{k:IntKind}{x y z:Int}(h:Ep k x y=some z):¬y=0∧k.wrap (x.tdiv y)=z:=by
 unfold Ep at h;simp_all
def DT{k:IntKind}{x y z:Int}(h:JE k x y=some z):¬y=0∧x.tmod y=z:=by
 unfold JE at h;simp_all
def Hz{k:IntKind}{x y z:Int}(h:LP k x y=some z):¬y<0∧k.wrap (x*2 ^ (min y.toNat k.bits))=z:=by
 unfold LP at h;simp_all
def yB{k:IntKind}{x y z:Int}(h:CZ k x y=some z):¬y<0∧x.fdiv (2 ^ (min y.toNat k.bits))=z:=by
 unfold CZ at h;simp_all
def Yi(op:BinOp)(k:IntKind)(x y:Int):HZ op k x y=nR op k x y:=apL
def uc.emp{P:Program}{f:FuncId}{i:RK}{a:Option Row}(v:uc P f none [.sl true true 0 []] i a)(x:uc P f none [.sl true false 0 []] i a):uc P f none [.sl false false 0 []] i a:=by
 intro w M vs k b;have l:=b.2 0 _ rfl;generalize m:vs.getD 0 undef=u at l;cases l with
 | sl A c nl tight n xs o p q y g z r s t =>
  cases A with
  | none =>
   refine v w M vs k ⟨b.1,fun j d e =>?_,b.tab⟩;cases j with
   | zero=>cases e;rw[m];exact .sl none c true true 0 [] o p q (fun _=>⟨fun _=>⟨rfl,(g rfl).2⟩,fun h=>by cases h⟩) g (fun _=>(g rfl).2) r s t
   | succ j=>simp at e
  | some A =>
   refine x w M vs k ⟨b.1,fun j d e =>?_,b.tab⟩;cases j with
   | zero=>cases e;rw[m];exact .sl (some A) c true false 0 [] o p q (fun _=>⟨(fun h=>by cases h),fun _ h=>by cases h⟩) g (fun h=>by cases h) r s t
   | succ j=>simp at e
def b6.aic{P:Program}{T:Nat->Option Ty}{Γ:Env}(e:km P T)(g:bN P Γ)(h:P.follows .mixedOrders=true){α β:Type}{E:jq α}{F:List α->Option β}{R:β->RK}{mode:Mode}{f:FuncId}{a:Func}(d:P.funcs[f]? = some a)(b:(match a.body with|some c=>codeOk c|none=>true)=true)
  (k:(a.name == "runtime.NumGoroutine")=false∧a.body.isNone=false) (i:1<=a.ntmps)
  (m:∀r,F []=some r->lP mode T Γ FU a none [.sl true true 0 []]=some (R r,none))
  (n:∀r,F []=some r->lP mode T Γ FU a none [.sl true false 0 []]=some (R r,none))
  (o:∀l r,0<l.length->F l=some r->lP mode T Γ FU a none [.sl false false l.length (aq E l)]=some (R r,none)):b6 P f (dx (dp (iQ E)) F R) where
 calls cg am1 rk out p:=by
  obtain⟨rfl,rfl,l,r,rfl,j,rfl⟩:=uV p;cases l with
  | nil=>exact uc.emp (mT e g h d b i rfl (m r j)) (mT e g h d b i rfl (n r j))
  | cons x l=>exact mT e g h d b i rfl (o (x::l) r (by simp) j)
 callable:=⟨a,d,k⟩
def agH{α:Type}(E:jq α){B:Nat}{l n:List α}{i:Int}{x:α}(h:aeg B l i [x]=some n):0<=i∧i<=(l.length:Int)∧l.length+1=n.length∧n.length*B<=140737488355328 ∧
  (aq E l).take (i.toNat*E.size)++(E.cells x++(aq E l).drop (i.toNat*E.size))=aq E n:=by
 unfold aeg at h;split at h
 ·rename_i a;cases h;obtain⟨b,c,-,e⟩:=a;have d:l.length+1=(l.take i.toNat++([x]++l.drop i.toNat)).length:=by simp;omega
  refine⟨b,c,d,by simp_all,?_⟩;rw[je,je,lV,ru];simp[aq]
 ·cases h
def VD{w:World}{M:Nat->Prop}{k:IntKind}{n:Int}{u:Value}(h:RP w M (.int k n) u):u=.int k n:=by cases h;rfl
def afU{vs:Array Value}(h:vs.size=1):vs = #[vs.getD 0 undef]:=by
 apply aoc
 ·simp[h]
 simp_all
def jg(b:Nat){ty:Nat}{fr:Nat×Nat}:∀(vs:List Value)(o:Nat)(w:World)(a:Array Value),w.heap[b]? = some (.cells a ty fr)->o+vs.length<=a.size ->
  (w.setCells b o vs).os=w.os∧(w.setCells b o vs).tape=w.tape∧(w.setCells b o vs).output=w.output∧(w.setCells b o vs).heap.size=w.heap.size∧(∀k,k≠b->(w.setCells b o vs).heap[k]? = w.heap[k]?) ∧
  ∃c,(w.setCells b o vs).heap[b]? = some (.cells c ty fr)∧c.size=a.size∧∀j,c[j]? = if o<=j∧j<o+vs.length then vs[j-o]? else a[j]?
 | [],o,w,a,h,_=>⟨rfl,rfl,rfl,rfl,fun k _=>rfl,a,h,rfl,fun j=>by grind⟩
 | v::r,o,w,a,h,e=>by
  simp only[List.length_cons]at e;have f:(w.setCell ⟨b,o,none⟩ v).heap[b]? = some (.cells (a.setIfInBounds o v) ty fr):=by
   simp[World.setCell,ang,h]
  obtain⟨g,i,l,m,n,c,p,q,s⟩:=jg b r (o+1) (w.setCell ⟨b,o,none⟩ v) _ f (by simp;omega);refine⟨g,i,l,m.trans (by simp_all),fun k d=>(n k d).trans (by simp[World.setCell,ang,Ne.symm d]),c,p,by simpa using q,fun j =>?_⟩;grind
def vm1:=ai @Oh<|ai @UH<|ai @UG<|ai @Of<|ai @Kx<|ai @Og<|ai @aV<|ai @AE<|ai @yY<|ai @bc<|ai @B3<|ai @GJ<|ai @Kz<|ai @Oe<|ai @OI<|ai @KO<|ai @UE<|ai @Oc<|ai @Ku<|ai @OJ<|ai @KP<|ai @KQ<|ai @GS<|ai @UF<|ai @Od<|ai @Kv<|ai @OK<|ai @KS<|ai @KT<|ai @GU<|ai @U3<|ai @U7<|ai @ZS<|ai @ZV<|ai @Kh<|ai @GF<|ai @Ki<|ai @GG<|ai @R0<|ai @R6<|ai @RZ<|ai @R5<|ai @Ik<|ai @Im<|ai @ME<|ai @ML<|ai @R1<|ai @R7<|ai @RX<|@R3
def vm2:=ai @MJ<|ai @MO<|ai @Dr<|ai @Du<|ai @BQ<|ai @BU<|ai @BR<|ai @BV<|ai @MG<|ai @MH<|ai @MF<|ai @MM<|ai @zG<|ai @zH<|ai @BS<|ai @BW<|ai @MD<|ai @MK<|ai @Yv<|ai @F8<|ai @F9<|ai @Gc<|ai @RW<|ai @R2<|ai @F7<|ai @Gb<|ai @T6<|ai @Uh<|ai @Me<|ai @FW<|ai @Mx<|ai @Ss<|ai @Iu<|ai @It<|ai @Jj<|ai @Ji<|ai @cw<|ai @Gm<|ai @cL<|ai @aak<|ai @L6<|ai @L5<|@Nf
def vm3:=ai @Ng<|ai @GP<|ai @KM<|ai @KL<|ai @GR<|ai @AL<|ai @y4<|ai @y5<|ai @y6<|ai @GO<|ai @B7<|ai @GQ<|ai @xp<|ai @KK<|ai @B6<|ai @Ea<|ai @Zt<|ai @TR<|ai @N8<|ai @N7<|ai @Nu<|ai @Ye<|ai @Q8<|ai @ac0<|ai @Hq<|ai @Yd<|ai @L9<|ai @HV<|ai @Yf<|ai @Ma<|ai @Mq<|ai @Mr<|ai @Rr<|ai @H9<|@RB
def vm4:=ai @RG<|ai @Rw<|ai @Mt<|ai @Yr<|ai @Rt<|ai @Yq<|ai @Yp<|ai @Ru<|ai @Rx<|ai @adl<|ai @adm<|ai @ahR<|ai @adj<|ai @adk<|ai @RO<|ai @Nc<|ai @YN<|ai @Yn<|ai @Ml<|ai @Mh<|ai @H5<|ai @Np<|ai @IX<|ai @SE<|ai @YP<|ai @SF<|ai @Mu<|ai @Ia<|ai @Rc<|ai @UB<|ai @Ob<|ai @UA<|ai @N9<|ai @Uy<|ai @Oa<|ai @IL<|ai @MW<|ai @H6<|ai @Ew<|ai @IM<|ai @YB<|ai @Sf<|ai @Ko<|ai @Kp<|ai @Yi<|ai @DE<|@bY
def vmk:=ai @Vk<|@Vl
def vmc:=ai @true_and<|ai @and_true<|ai @anD<|ai @anb<|ai @anP<|ai @aoL<|ai @aoE<|ai @aoM<|ai @aoP<|ai @anO<|ai @an8<|ai @List.contains_nil.{0}<|ai @aoy<|ai @aoJ<|ai @aoI<|ai @anu<|ai @an4<|ai @decide_true<|ai @beq_self_eq_true.{0}<|ai @List.isEmpty_nil.{0}<|ai @List.isEmpty_cons.{0}<|ai @Option.map_none.{0,0}<|ai @ane<|ai @List.all_cons.{0}<|ai @List.all_nil.{0}<|ai @aoT<|ai @Bool.and_true<|ai @aoU<|ai @Bool.false_and<|ai @Bool.and_self<|ai @and_self<|ai @an5<|ai @anE<|ai @aoD<|ai @Nat.sub_zero<|ai @am7<|ai @am6<|ai @anf<|ai @aoV<|ai @Bool.or_self<|@aoW
def vm5:=ai @Ky<|ai @ahP<|ai @Mb<|ai @HW<|ai @acL<|ai @Yb<|ai @RE<|ai @YM<|ai @NN<|ai @Te<|ai @Jn<|@Tf
def vmu:=ai @CJ.eq_1<|ai @CJ.eq_2<|ai @ev.eq_1<|ai @ev.eq_2<|ai @ev.eq_4<|ai @sf.eq_1<|ai @sf.eq_2<|ai @sf.eq_3<|ai @sf.eq_4<|ai @gq.eq_1<|ai @gq.eq_2<|ai @HY.eq_1<|ai @HY.eq_3<|ai @oM.eq_1<|ai @oM.eq_2<|ai @oM.eq_3<|ai @ku.eq_1<|ai @ku.eq_2<|ai @ku.eq_3<|ai @ku.eq_4<|ai @ku.eq_5<|ai @ku.eq_6<|ai @ku.eq_7<|ai @ku.eq_10<|ai @ku.eq_11<|ai @ku.eq_12<|ai @ku.eq_13<|ai @ku.eq_14<|ai @ku.eq_15<|ai @unD.eq_1<|ai @unD.eq_4<|ai @ag0.eq_1<|ai @aW.eq_1<|ai @aW.eq_2<|ai @iw.eq_1<|ai @iw.eq_3<|ai @gi.eq_1<|ai @gi.eq_2<|ai @live.eq_1<|ai @mE.eq_1<|ai @mE.eq_2<|ai @Ds.xt.eq_1<|ai @Ds.xt.eq_3<|ai @eT.eq_1<|ai @eT.eq_2<|ai @eT.eq_4<|ai @eT.eq_5<|ai @kP.eq_1<|ai @kP.eq_2<|ai @kP.eq_4<|ai @kP.eq_5<|ai @kP.eq_6<|ai @uK.eq_1<|ai @uK.eq_2<|ai @G8.eq_2<|ai @G8.eq_3<|ai @G8.eq_4<|ai @alive.eq_3<|ai @nm.eq_2<|ai @kF.eq_1<|ai @kF.eq_5<|ai @kF.eq_6<|ai @jz.eq_1<|ai @vX.eq_1<|ai @rp.eq_1<|ai @di.eq_1<|ai @di.eq_2<|ai @oh.eq_1<|ai @jx.eq_3<|ai @jw.eq_1<|ai @lf.eq_1<|ai @lf.eq_2<|ai @fieldAt.eq_1<|ai @fG.eq_1<|ai @vJ.eq_1<|ai @lU.eq_1<|ai @content.eq_1<|ai @content.eq_2<|ai @putCells.eq_1<|ai @eqD.eq_1<|ai @eqD.eq_2<|ai @CY.eq_1<|ai @CY.eq_2<|ai @bH.eq_1<|ai @bH.eq_3<|ai @bH.eq_4<|ai @uW.eq_1<|ai @Ce.eq_2<|ai @Ce.eq_3<|@Ce.eq_4
def alM:=ai @Mj<|ai @Mi<|ai @YJ<|ai @Tb<|ai @S6<|ai @NI<|ai @Mk<|ai @YK<|ai @Tc<|ai @NJ<|ai @S7<|ai @Jm<|ai @S9<|ai @S8<|ai @Yl<|@H0
section
variable {T:Nat->Option Ty} {Γ:Env} {N F e:Nat} {Q Q':Kt} {t:Nat->D} {h:Nat->Option Row}
def kW(hm:∀x t h e,Q x t h e->Q' x t h e):∀(ws:List W)(x:Ex)(t:Nat->D)(h:Nat->Option Row)(e:Nat),er T Γ N F ws Q x t h e->er T Γ N F ws Q' x t h e
 | [],x,t,h,e,hk=>hm _ _ _ _ hk
 | .code c::ws,x,t,h,e,hk=>by
  unfold er at hk ⊢;cases x with
  | normal=>exact acf c t h e _ _ hk (fun x t h e b=>kW hm ws x t h e b)
  | exit n=>exact kW hm ws _ t h e hk
  | ret=>exact kW hm ws _ t h e hk
 | .blk id::ws,x,t,h,e,hk=>by
  unfold er ac1 at hk ⊢;cases x with
  | normal=>exact kW hm ws _ t h e hk
  | exit n =>
   simp only at hk ⊢;split at hk
   ·rename_i a;rw[if_pos a];exact kW hm ws _ t h e hk
   ·rename_i a;rw[if_neg a];exact kW hm ws _ t h e hk
  | ret=>exact kW hm ws _ t h e hk
def ve:∀(ws:List W)(k:Nat),er T Γ N F ws Q=er T Γ N F (ws.take k) (er T Γ N F (ws.drop k) Q)
 | ws,0=>by simp[er]
 | [],k+1=>by simp[er]
 | .code c::ws,k+1=>by
  rw[aoM,aoL];funext x t h e;unfold er;rw[ve ws k]
 | .blk id::ws,k+1=>by
  rw[aoM,aoL];funext x t h e;unfold er;rw[ve ws k]
variable {σ:Type} {ops l:List Oper} {ws:List W} {dst:Option Nat} {fs:List nQ} {d:D} {g:Nat}
def yM{J:σ->(Nat->D)->(Nat->Option Row)->Nat->Prop}{P:σ->Prop}{R:Kt}(a:∀s t h e,J s t h e->P s->R .normal t h e):∀x t h e,CK J P R x t h e->R x t h e:=by
 intro x t h e b;cases x with
 | normal=>obtain⟨s,c,d⟩:=b;exact a s t h e d c
 | exit n=>exact b
 | ret=>exact b
def Bw(a:∀x t h e,Q x t h e->Q' x t h e)(b:nX T Γ N F ops l ws Q t h e):nX T Γ N F ops l ws Q' t h e:=By (fun t h c=>kW a ws _ _ _ _ c) _ _ _ b
def Bx(b:∀x t h e,Q x t h e->Q' x t h e)(c:pf T Γ N F ops l ws Q t h e fs):pf T Γ N F ops l ws Q' t h e fs:=Bv (fun t h fs a=>⟨a.1,kW b ws _ _ _ _ a.2⟩) _ _ _ _ c
def yx(k:Nat):nX T Γ N F ops l ws Q t h e=nX T Γ N F ops l (ws.take k) (er T Γ N F (ws.drop k) Q) t h e:=by unfold nX;rw[ve ws k]
def yy(k:Nat):pf T Γ N F ops l ws Q t h e fs=pf T Γ N F ops l (ws.take k) (er T Γ N F (ws.drop k) Q) t h e fs:=by unfold pf;rw[ve ws k]
def MI(k:Nat){o:Oper}:vp T Γ N F o ops l ws Q t h e=vp T Γ N F o ops l (ws.take k) (er T Γ N F (ws.drop k) Q) t h e:=by
 unfold vp;congr 1;funext t E;rw[yx k]
def MN(k:Nat){o:Oper}:yQ T Γ N F o ops l ws Q t h e fs=yQ T Γ N F o ops l (ws.take k) (er T Γ N F (ws.drop k) Q) t h e fs:=by
 unfold yQ;congr 1;funext t E;rw[yy k]
def RY{o:Oper}(a:∀x t h e,Q x t h e->Q' x t h e)(b:vp T Γ N F o ops l ws Q t h e):vp T Γ N F o ops l ws Q' t h e:=Ee b fun _ _ c=>Bw a c
def R4{o:Oper}(a:∀x t h e,Q x t h e->Q' x t h e)(b:yQ T Γ N F o ops l ws Q t h e fs):yQ T Γ N F o ops l ws Q' t h e fs:=Ee b fun _ _ c=>Bx a c
variable (k:Nat) (J:σ->(Nat->D)->(Nat->Option Row)->Nat->Prop) (P:σ->Prop)
def oB{x y:Code}(a:∀s t h e,J s t h e->P s->er T Γ N F (ws.drop k) Q .normal t h e)(f:QG T Γ N F d g x y (ws.take k) (CK J P (er T Γ N F (ws.drop k) Q)) t h e):QG T Γ N F d g x y ws Q t h e:=by
 unfold QG at f ⊢;have i:∀c:Code,er T Γ N F (.code c::ws) Q=er T Γ N F (.code c::ws.take k) (er T Γ N F (ws.drop k) Q):=fun c=>ve (.code c::ws) (k+1);rw[i,i];exact Ec f (fun _ b=>kW (yM a) _ _ _ _ _ b) (fun _ b=>kW (yM a) _ _ _ _ _ b)
def bX{b:Bool}{o:Oper}(a:∀s t h e,J s t h e->P s->er T Γ N F (ws.drop k) Q .normal t h e)(f:BM T Γ N F d g b o ops l (ws.take k) (CK J P (er T Γ N F (ws.drop k) Q)) t h e):BM T Γ N F d g b o ops l ws Q t h e:=by
 unfold BM at f ⊢;refine K3 f (fun t c =>?_) (fun t c =>?_) (fun t c =>?_)
 ·cases b
  ·simp only[anD,if_false]at c ⊢;rw[yx k];exact Bw (yM a) c
  ·simp only[if_true]at c ⊢;rw[MI k];exact RY (yM a) c
 ·cases b
  ·simp only[anD,if_false]at c ⊢;rw[MI k];exact RY (yM a) c
  ·simp only[if_true]at c ⊢;rw[yx k];exact Bw (yM a) c
 ·rw[yx k];exact Bw (yM a) c
def afM{b:Bool}{o:Oper}(a:∀s t h e,J s t h e->P s->er T Γ N F (ws.drop k) Q .normal t h e)(f:BN T Γ N F d g b o ops l (ws.take k) (CK J P (er T Γ N F (ws.drop k) Q)) t h e fs):BN T Γ N F d g b o ops l ws Q t h e fs:=by
 unfold BN at f ⊢;refine K3 f (fun t c =>?_) (fun t c =>?_) (fun t c =>?_)
 ·cases b
  ·simp only[anD,if_false]at c ⊢;rw[yy k];exact Bx (yM a) c
  ·simp only[if_true]at c ⊢;rw[MN k];exact R4 (yM a) c
 ·cases b
  ·simp only[anD,if_false]at c ⊢;rw[MN k];exact R4 (yM a) c
  ·simp only[if_true]at c ⊢;rw[yy k];exact Bx (yM a) c
 ·rw[yy k];exact Bx (yM a) c
end
end Go.Proofs.YtobnihfgnbnncaaGreat.Am
