import Derived.Test.YtobnihfgnbnncaaGreatHb
set_option linter.unusedSimpArgs false
set_option linter.unusedVariables false
set_option linter.defProp false
noncomputable section
open Go.Proofs.Tryz
namespace Go.Proofs.YtobnihfgnbnncaaGreat.Am
open Go.RowKit
structure mP where
 tc:List Nat
 q:Bool
def yr(ops:Array Oper)(t:Nat->D)(o:Oper):Option Bool :=
 match o.guard with
 | none=>some true
 | some (j,a) =>
  match (ops[j]?).bind (·.dst) with
  | some g=>match t g with | .bool b=>some (b==a) | .skp=>some false|_=>none
  | none=>none
def fT(t:Nat->D)(dst:Option Nat)(d:D):Nat->D :=
 match dst with
 | none=>t
 | some i=>ca t i d
def fits(N:Nat)(dst:Option Nat):Bool :=
 match dst with
 | none=>true
 | some i=>decide (i<N)
def step1(T:Nat->Option Ty)(Γ:Env)(N e:Nat)(ops:Array Oper)(o:Oper)(t:Nat->D)(h:Nat->Option Row):Option ((Nat->D)×(Nat->Option Row)×mP) :=
 if fits N o.dst then
  match yr ops t o with
  | some true =>
   match se T Γ e o (ev t) h with
   | some E=>some (fT t o.dst E.val,aW h E.hw,⟨cR o (ev t),E.hw.isEmpty⟩)
   | none=>none
  | some false=>some (fT t o.dst .skp,h,⟨[],true⟩)
  | none=>none
 else none
section
variable {P:Program} {T:Nat->Option Ty} {N:Nat} {M:Nat->Prop} {L:kz} {w0:World} {blk:Nat->Option (Nat×Nat)} {t:Nat->D} {h:Nat->Option Row} {a:Act} {w:World} {e:Nat} {o:Oper} {Γ:Env} {ops:Array Oper}
def BW{V:Nat->Nat->Prop}(p:Inv N M L w0 blk V t h a w){b:Bool}(c:yr ops t o=some b):Region.wanted o (yielded ops a.tmps)=b:=by
 unfold yr at c;split at c
 ·rename_i i;simp only[akq]at c;subst c;simp[Region.wanted,i]
 ·rename_i j e i;split at c
  ·rename_i g l;split at c
   ·rename_i q m;simp only[akq]at c;subst c;have f:=p.slots g;rw[m]at f;have d:=y7 f;have r:a.tmps[g]? = some (.bool q):=by
     simp only[akm]at d;cases k:a.tmps[g]? with
     | none=>rw[k]at d;cases d
     | some v=>simp_all
    have n:yielded ops a.tmps j=some q:=by
     unfold yielded;simp_all
    simp only[Region.wanted,i,n];simp_all
   ·rename_i m;simp only[akq]at c;subst c;have f:=p.slots g;rw[m]at f;have d:a.tmps.getD g undef=undef:=f;have n:yielded ops a.tmps j=none:=by
     unfold yielded;rw[l];simp only[akm]at d;cases k:a.tmps[g]? with
     | none=>simp_all
     | some v=>rw[k]at d;simp only[Option.getD_some]at d;subst d;simp only[Option.bind_some,k];rfl
    simp only[Region.wanted,i,n]<;>cases e<;>rfl
   ·cases c
  ·cases c
def Inv.agy{V:Nat->Nat->Prop}(b:Inv N M L w0 blk V t h a w)(c:fits N o.dst=true){d:D}{v:Value}(e:RT w (Own M h blk) h blk V d v):Inv N M L w0 blk V (fT t o.dst d) h (a.put o.dst v) w:=by
 cases f:o.dst with
 | none=>simpa [fT,Act.put] using b
 | some i =>
  rw[f]at c;exact b.put (by simpa [fits] using c) e
def NX(y:jL P T)(z:bU P Γ){done:List Nat}{p:Nat->D}{q:Nat->Option Row}{f:mP}{K:Act->World->Prop}{Q:Exit->Act->World->Prop}(i:vT N M L w0 blk e done t h a w)
  (b:step1 T Γ N e ops o t h=some (p,q,f)) (A:∀d,o.dst=some d->d∉done) (r:∀s k c,vT N M L w0 c e (o.dst.toList++done) p q s k->K s k) :
  if Region.wanted o (yielded ops a.tmps) then o.wp P a w K Q∨(o.asks P a w∧LetsOut Q) else K (a.put o.dst undef) w:=by
 unfold step1 at b;split at b
 ·rename_i u;split at b
  ·rename_i l;rw[BW i.inv l];simp only[if_true];split at b
   ·rename_i E B;simp only[akq,Prod.mk.injEq]at b;obtain⟨rfl,rfl,_⟩:=b;have:=TG y z i (fun d m=>⟨A d m,by grind[fits]⟩) B;refine .inl (this.wp fun v k C =>?_);obtain⟨c,j,F⟩:=C;exact r _ _ c ⟨j.inv.agy u F,j.nv⟩
   ·cases b
  ·rename_i l;rw[BW i.inv l];simp only[akN,if_false];simp only[akq,Prod.mk.injEq]at b;obtain⟨rfl,rfl,_⟩:=b;have g:∀x,x∈done->x∈o.dst.toList++done:=fun x hx=>akw _ hx;exact r _ _ blk ⟨(i.inv.agy u (d:=.skp) (v:=undef) rfl).weaken fun x n hx=>hx.step (.refl e h) g,i.nv.step (.refl e h) g⟩
  ·cases b
 ·cases b
theorem l9{x:Nat}:∀{l:List (Nat×Option Row)}{h:Nat->Option Row},(∀p∈l,p.1≠x)->aW h l x=h x
 | [],_,_=>rfl
 | (y,r)::l,h,hn=>by
  simp only[aW];rw[l9 (fun p a=>hn p (by simp[a]))];exact aC _ _ (fun e=>hn (y,r) (by simp) e.symm)
theorem JL{x:Nat}:∀{l:List (Nat×Option Row)}{h c:Nat->Option Row},(∃p∈l,p.1=x)->aW h l x=aW c l x
 | [],_,_,he=>by simp_all
 | (y,r)::l,h,c,he=>by
  simp only[aW]
  by_cases hl:∃p∈l,p.1=x
  ·exact JL hl
  ·have d:∀p∈l,p.1≠x:=fun p b a=>hl ⟨p,b,a⟩;rw[l9 d,l9 d];obtain⟨p,b,a⟩:=he;rcases ako.1 b with rfl|b
   ·simp only at a;subst a;rw[aB,aB]
   grind
def OF{l l':List (Nat×Option Row)}{h:Nat->Option Row}(a:∀p∈l,∀q∈l',p.1≠q.1):aW (aW h l) l'=aW (aW h l') l:=by
 grind[l9,JL]
def YV{t:Nat->D}{x y:Option Nat}{v u:D}(hne:∀d,x=some d->y≠some d):fT (fT t x v) y u=fT (fT t y u) x v:=by
 cases x with
 | none=>rfl
 | some i =>
  cases y with
  | none=>rfl
  | some j=>exact adb t v u (fun e=>hne i rfl (by rw[e]))
def WV{t:Nat->D}{x:Option Nat}{v:D}{s:Nat}(hne:x≠some s):fT t x v s=t s:=by
 cases x with
 | none=>rfl
 | some i=>exact aC _ _ (fun e=>hne (by rw[e]))
def SG{t t1:Nat->D}{h n:Nat->Option Row}{f:mP}(b:step1 T Γ N e ops o t h=some (t1,n,f)) :
  ∃v hw,t1=fT t o.dst v∧n=aW h hw∧(∀p∈hw,p.1∈f.tc)∧(f.q=true->hw=[]) ∧
   ∀a d,(∀s∈o.looksAt ops,t s=a s)->(∀x∈f.tc,h x=d x)->step1 T Γ N e ops o a d=some (fT a o.dst v,aW d hw,f):=by
 have l:∀a:Nat->D,(∀s∈o.looksAt ops,t s=a s)->yr ops t o=yr ops a o:=by
  intro a c;unfold yr;split
  ·rfl
  ·rename_i j q u;split
   ·rename_i g k;rw[c g (by simp[Oper.looksAt,u,k])]
   ·rfl
 have m:∀a:Nat->D,(∀s∈o.looksAt ops,t s=a s)->∀y∈o.op.operands.toList,ev t y=ev a y:=by
  intro a c y G;cases y with
  | tmp i=>exact c i (by unfold Oper.looksAt;grind)
  | const v=>rfl
  | global g=>rfl
  | func f=>rfl
 unfold step1 at b;split at b
 ·rename_i w;split at b
  ·rename_i k;split at b
   ·rename_i E r;simp only[akq,Prod.mk.injEq]at b;obtain⟨rfl,rfl,rfl⟩:=b;refine⟨E.val,E.hw,rfl,rfl,TF r,fun z=>by simpa using z,fun a d c hh =>?_⟩;obtain⟨A,B⟩:=adW (T:=T) (Γ:=Γ) (e:=e) (h:=h) (m a c);have H:se T Γ e o (ev a) d=some E:=by
     rw[<- r,A];exact (TE (fun x C=>hh x (by rw[B];exact C))).symm
    unfold step1;grind
   ·cases b
  ·rename_i k;simp only[akq,Prod.mk.injEq]at b;obtain⟨rfl,rfl,rfl⟩:=b;refine⟨.skp,[],rfl,rfl,fun p F=>by simp at F,fun _=>rfl,fun a d c hh =>?_⟩;unfold step1;rw[if_pos w,<- l a c,k];rfl
  ·cases b
 ·cases b
def Tc(T:Nat->Option Ty)(Γ:Env)(N e:Nat)(ops:Array Oper)(F:Nat->mP):List Nat->(Nat->D)->(Nat->Option Row)->(Nat->D)->(Nat->Option Row)->Prop
 | [],t,h,a,h'=>t=a∧h=h'
 | i::L,t,h,a,h'=>∃o t1 b,ops[i]? = some o∧step1 T Γ N e ops o t h=some (t1,b,F i)∧Tc T Γ N e ops F L t1 b a h'
def adS(l a:List Nat):Bool:=l.all fun x => !a.contains x
structure Vc(ops:Array Oper)(F:Nat->mP)(j i:Nat):Prop where
 apart:∀oj oi,ops[j]? = some oj->ops[i]? = some oi->oj.apart ops oi=true
 foot:((F j).q&&(F i).q||adS (F j).tc (F i).tc)=true
def swap{F:Nat->mP}{i j:Nat}{L:List Nat}{t H:Nat->D}{h I:Nat->Option Row}(M:Tc T Γ N e ops F (j::i::L) t h H I)(J:Vc ops F j i):Tc T Γ N e ops F (i::j::L) t h H I:=by
 obtain⟨v,t1,h1,c,w,u,t2,Q,f,z,b⟩:=M;obtain⟨a1,a2,a3⟩:=Oper.apart_spec (J.apart v u c f);obtain⟨R,K,rfl,rfl,S,U,g⟩:=SG w;obtain⟨vi,A,rfl,rfl,O,V,k⟩:=SG z;have a:=J.foot;simp only[Bool.or_eq_true,akP]at a;have d1:∀x∈(F i).tc,∀p∈K,p.1≠x:=by
  intro x m p B C;rcases a with⟨h1,_⟩|h1
  ·simp_all
  ·simp only[adS,aks]at h1;grind
 have d2:∀x∈(F j).tc,∀p∈A,p.1≠x:=by
  intro x m p B C;rcases a with⟨_,h1⟩|h1
  ·simp_all
  ·simp only[adS,aks]at h1;grind
 have n:=k t h (fun s E=>WV (fun o=>a1 s o E)) (fun x m=>l9 (d1 x m));have r:=g (fT t u.dst vi) (aW h A) (fun s E=>(WV (fun o=>a3 s o E)).symm) (fun x m=>(l9 (d2 x m)).symm);refine⟨u,_,_,f,n,v,_,_,c,r,?_⟩;rw[YV (x:=u.dst) (y:=v.dst) (fun d o G=>a2 d G o),OF (l:=A) (l':=K) (fun p B q P C=>d1 p.1 (O p B) q P C.symm)];exact b
def front{F:Nat->mP}{i:Nat}{post:List Nat}:∀{pre:List Nat}{t b:Nat->D}{h c:Nat->Option Row},Tc T Γ N e ops F (pre++i::post) t h b c->(∀j∈pre,Vc ops F j i)->Tc T Γ N e ops F (i::(pre++post)) t h b c
 | [],_,_,_,_,hr,_=>hr
 | j::pre,t,b,h,c,hr,hi=>by
  obtain⟨g,t1,l,d,f,a⟩:=hr;have m:=front (pre:=pre) a (fun k n=>hi k (by simp[n]));exact swap ⟨g,t1,l,d,f,m⟩ (hi j (by simp))
def direct(o:Oper):List Nat:=(o.after.toList.filter (Region.binds .any)).map (·.on)
def ze:List Oper->List (List Nat)->List (List Nat)
 | [],acc=>acc
 | o::l,acc=>ze l (acc++[direct o++(direct o).flatMap fun k=>acc.getD k []])
def af1(ops:Array Oper):List (List Nat):=ze ops.toList []
def F4(S:Nat->Prop):∀(l:List Oper)(acc:List (List Nat))(k:Nat),k=acc.length->(∀i j,j∈acc.getD i []->i<k->(∀m o,ops[m]? = some o->S m->∀d∈direct o,S d)->(∀o,ops[i]? = some o->∀d∈direct o,S d)->S j) ->
  (∀j,l[j]? = ops[k+j]?)->∀i j,j∈(ze l acc).getD i []->(∀m o,ops[m]? = some o->S m->∀d∈direct o,S d)->(∀o,ops[i]? = some o->∀d∈direct o,S d)->S j
 | [],acc,k,hk,a,e,i,j,b,g,h=>by
  simp only[ze]at b;grind
 | o::l,acc,k,hk,a,e,i,j,b,g,h=>by
  simp only[ze]at b;refine F4 S l _ (k+1) (by simp[hk]) ?_ (fun j=>by have:=e (j+1);grind) i j b g h;intro c s f n p q
  by_cases r:c<k
  ·grind
  ·obtain rfl:c=k:=by omega
   have:(acc++[direct o++(direct o).flatMap fun k=>acc.getD k []]).getD c []=direct o++(direct o).flatMap fun k=>acc.getD k []:=by
    simp_all
   rw[this]at f;have t:ops[c]? = some o:=by have:=e 0;simp_all
   grind
def adO{S:Nat->Prop}{i j:Nat}(a:j∈(af1 ops).getD i [])(b:∀m o,ops[m]? = some o->S m->∀d∈direct o,S d)(c:∀o,ops[i]? = some o->∀d∈direct o,S d):S j :=
 F4 S ops.toList [] 0 rfl (fun i j a _ _ _=>by simp at a) (fun j=>by simp) i j a b c
def aaP(acc:List Nat):List Nat->Nat
 | []=>0
 | k::l=>(2 ^ k ||| acc.getD k 0) ||| aaP acc l
def F5:List Oper->List Nat->List Nat
 | [],acc=>acc
 | o::l,acc=>F5 l (acc++[aaP acc (direct o)])
def VM(ops:Array Oper):List Nat:=F5 ops.toList []
def VP{a:List Nat}{j:Nat}:∀{l:List Nat},(aaP a l).testBit j=true->j∈l∨∃k∈l,(a.getD k 0).testBit j=true
 | [],h=>by simp[aaP]at h
 | k::l,h=>by
  simp only[aaP,Nat.testBit_or,Bool.or_eq_true,Nat.testBit_two_pow,decide_eq_true_eq]at h;rcases h with (rfl|h)|h
  ·simp_all
  ·simp_all
  ·rcases VP h with h|⟨b,c,d⟩
   ·simp_all
   grind
def DY:∀(l:List Oper)(a:List Nat)(c:List (List Nat)),a.length=c.length->(∀i j,(a.getD i 0).testBit j=true->j∈c.getD i [])->∀i j,((F5 l a).getD i 0).testBit j=true->j∈(ze l c).getD i []
 | [],_,_,_,h,i,j,d=>h i j d
 | o::l,a,c,e,h,i,j,d=>by
  refine DY l _ _ (by simp[e]) (fun f n b =>?_) i j d
  by_cases g:f<a.length
  ·rw[akQ,ak5 g,<- akQ]at b;grind
  ·by_cases m:f=a.length
   ·subst m;rw[akQ,ak7 (aki _),aln]at b;simp only[List.getElem?_cons_zero,Option.getD_some]at b;rw[e,akQ,ak7 (aki _),aln];simp only[List.getElem?_cons_zero,Option.getD_some,alv,alu];rcases VP b with b|⟨k,p,b⟩
    ·exact .inl b
    grind
   grind
def aaB{i j:Nat}(h:((VM ops).getD i 0).testBit j=true):j∈(af1 ops).getD i [] :=
 DY ops.toList [] [] rfl (fun i j h=>by simp at h) i j h
def Vk(ops:Array Oper)(F:Nat->mP):Prop:=∀j i,j<i->i<ops.size->j∈(af1 ops).getD i []∨Vc ops F j i
def ZH(hT:jL P T)(hΓ:bU P Γ){F:Nat->mP}{Q:Exit->Act->World->Prop}{t':Nat->D}{h':Nat->Option Row}(hp:Vk ops F)(l:∀i o,ops[i]? = some o->∀d∈direct o,d<i)
  (ae:∀(i j:Nat)(oi oj:Oper)(d:Nat),ops[i]? = some oi->ops[j]? = some oj->oi.dst=some d->oj.dst=some d->i=j) (hQ:∀C E f done,vT N M L w0 f e done t' h' C E->Q .normal C E) :
  ∀(n:Nat)(LL:List Nat)(listed:Array Bool)(t:Nat->D)(h:Nat->Option Row)(a:Act)(w:World)(blk:Nat->Option (Nat×Nat))(done:List Nat),LL.length=n->(∀i,i∈LL↔listed.getD i true=false)->LL.Pairwise (· < ·)->(∀i∈LL,i<ops.size)->listed.size=ops.size ->
   (∀i o,ops[i]? = some o->listed.getD i false=true->∀d∈direct o,listed.getD d false=true)->(∀d∈done,∃i o,ops[i]? = some o∧o.dst=some d∧listed.getD i false=true) ->
   Tc T Γ N e ops F LL t h t' h'->vT N M L w0 blk e done t h a w->wpAny P .any ops Q n listed a w:=by
 intro n
 induction n with
 | zero =>
  intro LL listed t h a w blk done O R U hlt u hdown g G V;have:LL=[]:=alq O;subst this;obtain⟨rfl,rfl⟩:=G;refine⟨?_,hQ a w blk done V⟩;refine List.eq_nil_iff_forall_not_mem.2 fun i W =>?_;have:=(mem_ready.1 W).1;grind
 | succ n ih =>
  intro LL listed t h a w blk done O R U hlt u hdown g G V;refine⟨fun H =>?_,fun i W =>?_⟩
  ·cases LL with
   | nil=>simp at O
   | cons i LL =>
    obtain⟨o,t1,h1,v,_⟩:=G;have I:i∈Region.ready .any ops listed:=by
     refine mem_ready.2 ⟨(R i).1 (by simp),o,v,fun J x hb =>?_⟩;have b:J.on∈direct o:=akh.2 ⟨J,alE.2 ⟨by simpa using x,hb⟩,rfl⟩;have ag:=l i o v _ b
     by_cases hm:J.on∈i::LL
     ·rcases ako.1 hm with hm|hm
      ·omega
      ·have:=(alF.1 U).1 _ hm;omega
     grind
    grind
  ·obtain⟨X,o,v,K⟩:=mem_ready.1 W;have y:i∈LL:=(R i).2 X;obtain⟨pre,post,rfl⟩:=List.append_of_mem y;have z:i<listed.size:=by grind
   have A:∀d∈direct o,listed.getD d false=true:=by
    intro d b;obtain⟨J,x,rfl⟩:=akh.1 b;grind
   have B:∀j∈pre,Vc ops F j i:=by
    intro j hj;have Y:j<i:=by
     grind
    rcases hp j i Y (hlt i y) with Z|Z
    ·have ai:listed.getD j false=true:=adO (S:=fun m=>listed.getD m false=true) Z (fun m om hm aa d b=>hdown m om hm aa d b) (fun o' p d b=>by
      grind)
     grind
    ·exact Z
   obtain⟨o',t1,h1,p,q,r⟩:=front G B;rw[v]at p;cases p;unfold wpOp;simp only[v];refine NX hT hΓ V q (fun d b aj =>?_) (fun C E f ab =>?_)
   ·grind
   ·have ah:∀k,(listed.setIfInBounds i true).getD k false=true↔k=i∨listed.getD k false=true:=by
     intro k
     by_cases c:k=i
     ·subst c;simp[z]
     ·rw[getD_set_ne false (Ne.symm c)];simp[c]
    have s:∀k,(listed.setIfInBounds i true).getD k true=false↔k≠i∧listed.getD k true=false:=by
     intro k
     by_cases c:k=i
     ·grind
     ·rw[getD_set_ne true (Ne.symm c)];simp[c]
    have al:(pre++i::post).Nodup:=U.imp (fun h=>Nat.ne_of_lt h);refine ih (pre++post) (listed.setIfInBounds i true) t1 h1 C E f _ (by grind) (fun k =>?_) ?_ (fun k hk=>hlt k (by grind)) (by simpa using u) (fun k ok hk ad d b =>?_) (fun d b =>?_) r ab
    ·rw[s];constructor
     ·intro hk;have an:k∈pre++i::post:=by grind
      grind
     grind
    ·grind
    ·grind
    ·rcases alv.1 b with b|b
     ·grind
     ·obtain⟨k,ok,hk,ao,ad⟩:=g d b;grind
end
def Dw(T:Nat->Option Ty)(Γ:Env)(N e:Nat)(ops:Array Oper):List Oper->(Nat->D)->(Nat->Option Row)->Option ((Nat->D)×(Nat->Option Row)×List mP)
 | [],t,h=>some (t,h,[])
 | o::l,t,h =>
  match step1 T Γ N e ops o t h with
  | some (t1,a,f) =>
   match Dw T Γ N e ops l t1 a with
   | some (t2,h2,fs)=>some (t2,h2,f::fs)
   | none=>none
  | none=>none
def Nu:List Nat->Bool
 | []=>true
 | x::l => !l.contains x&&Nu l
def aa4(ops:Array Oper):Bool:=Nu (ops.toList.filterMap (·.dst))
def Vv(ops:Array Oper)(j i:Nat):Bool :=
 match ops[j]?,ops[i]? with
 | some oj,some oi=>oj.apart ops oi
 | _,_=>true
def TD(ops:Array Oper):Bool :=
 (ops.toList.zipIdx.all fun p=>(direct p.1).all fun d=>decide (d<p.2)) &&
 ((List.range ops.size).all fun i=>(List.range i).all fun j=>((VM ops).getD i 0).testBit j||Vv ops j i)
def LG(ops:Array Oper):List (Nat×Nat):=(List.range ops.size).flatMap fun i=>((List.range i).filter fun j => !((VM ops).getD i 0).testBit j).map fun j=>(j,i)
def acn(fs:List mP)(p:Nat×Nat):Bool :=
 match fs[p.1]?,fs[p.2]? with
 | some f,some g=>f.q&&g.q||adS f.tc g.tc
 | _,_=>false
def Gk(ops:Array Oper)(fs:List mP):Bool:=(LG ops).all (acn fs)
inductive Ex where
 | normal
 | exit (n:Nat)
 | ret
structure St where
 t:Nat->D
 h:Nat->Option Row
 e:Nat
def iter(f:St->Option (Ex×St)):Nat->St->Option (Ex×St)
 | 0,_=>none
 | n+1,s =>
  match f s with
  | some (.normal,s1)=>iter f n s1
  | r=>r
def zG(T:Nat->Option Ty)(Γ:Env)(N:Nat)(ops:Array Oper)(a:Bool)(s:St):Option (Ex×St) :=
 match Dw T Γ N s.e ops ops.toList s.t s.h with
 | some (t,h,fs)=>if !a||Gk ops fs then some (.normal,⟨t,h,s.e+1⟩) else none
 | none=>none
def SV(d:D)(x y:Option (Ex×St)):Option (Ex×St) :=
 match d with
 | .bool b=>if b then x else y
 | _=>none
def ag5(r:Option (Ex×St))(k:St->Option (Ex×St)):Option (Ex×St) :=
 match r with
 | some (.normal,s)=>k s
 | r=>r
def U3(id:Nat)(r:Option (Ex×St)):Option (Ex×St) :=
 match r with
 | some (.exit n,s)=>if n=id then some (.normal,s) else some (.exit n,s)
 | r=>r
def ik(T:Nat->Option Ty)(Γ:Env)(N F:Nat):Code->St->Option (Ex×St)
 | .skip,s=>some (.normal,s)
 | .region _ ops draw,s=>zG T Γ N ops draw s
 | .seq a b,s=>ag5 (ik T Γ N F a s) (ik T Γ N F b)
 | .cond c x y,s=>SV (ev s.t c) (ik T Γ N F x s) (ik T Γ N F y s)
 | .block id b,s=>U3 id (ik T Γ N F b s)
 | .loop b,s=>iter (ik T Γ N F b) F s
 | .exit id,s=>some (.exit id,s)
 | .ret,s=>some (.ret,s)
 | _,_=>none
def codeOk:Code->Bool
 | .region _ ops draw=>aa4 ops&&(!draw||TD ops)
 | .seq a b=>codeOk a&&codeOk b
 | .cond _ x y=>codeOk x&&codeOk y
 | .block _ b=>codeOk b
 | .loop b=>codeOk b
 | _=>true
section
variable {P:Program} {T:Nat->Option Ty} {N:Nat} {M:Nat->Prop} {L:kz} {w0:World} {blk:Nat->Option (Nat×Nat)} {t:Nat->D} {h:Nat->Option Row} {a:Act} {w:World} {e:Nat} {o:Oper} {Γ:Env} {ops:Array Oper}
def Lv:∀{l:List Nat},Nu l=true->l.Nodup
 | [],_=>List.nodup_nil
 | x::l,h=>by
  simp only[Nu,akP,Bool.not_eq_true',List.contains_eq_mem,decide_eq_false_iff_not]at h;exact List.nodup_cons.2 ⟨h.1,Lv h.2⟩
def I7:∀{l:List Oper}{done:List Nat},(l.filterMap (·.dst)).Nodup->(∀o∈l,∀d,o.dst=some d->d∉done)->∀o a,l=o::a->(a.filterMap (·.dst)).Nodup∧∀b∈a,∀d,b.dst=some d->d∉o.dst.toList++done:=by
 grind
def Bf(u:jL P T)(v:bU P Γ){Q:Exit->Act->World->Prop}:∀{l:List Oper}{t g:Nat->D}{h i:Nat->Option Row}{fs:List mP}{a:Act}{w:World}{blk:Nat->Option (Nat×Nat)}{done:List Nat},
  Dw T Γ N e ops l t h=some (g,i,fs)->(l.filterMap (·.dst)).Nodup->(∀o∈l,∀d,o.dst=some d->d∉done)->vT N M L w0 blk e done t h a w ->
  (∀j k c done,vT N M L w0 c e done g i j k->Q .normal j k)->wpList P ops Q l a w
 | [],t,g,h,i,fs,a,w,blk,done,b,_,_,m,n=>by
  simp only[Dw,akq,Prod.mk.injEq]at b;obtain⟨rfl,rfl,_⟩:=b;exact n a w blk done m
 | o::l,t,g,h,i,fs,a,w,blk,done,b,y,x,m,n=>by
  simp only[Dw]at b;split at b
  ·rename_i t1 B f z;split at b
   ·rename_i t2 C A p;simp only[akq,Prod.mk.injEq]at b;obtain⟨rfl,rfl,_⟩:=b;obtain⟨q,r⟩:=I7 y x o l rfl;have:=NX (K:=wpList P ops Q l) (Q:=Q) u v m z (x o (by simp)) (fun j k c s=>Bf u v p q r s n);unfold wpList;exact this
   ·cases b
  ·cases b
def Ch{F:Nat->mP}:∀{l:List Oper}{k:Nat}{t b:Nat->D}{h c:Nat->Option Row}{fs:List mP},Dw T Γ N e ops l t h=some (b,c,fs)->(∀j,l[j]? = ops[k+j]?)->(∀j f,fs[j]? = some f->F (k+j)=f) ->
  fs.length=l.length∧Tc T Γ N e ops F (List.range' k l.length) t h b c
 | [],k,t,b,h,c,fs,a,_,_=>by
  simp only[Dw,akq,Prod.mk.injEq]at a;obtain⟨rfl,rfl,rfl⟩:=a;exact⟨rfl,rfl,rfl⟩
 | o::l,k,t,b,h,c,fs,a,g,i=>by
  simp only[Dw]at a;split at a
  ·rename_i t1 m f u;split at a
   ·rename_i t2 v n d;simp only[akq,Prod.mk.injEq]at a;obtain⟨rfl,rfl,rfl⟩:=a;obtain⟨p,q⟩:=Ch (k:=k+1) d (fun j=>by have:=g (j+1);grind) (fun j r s=>by have:=i (j+1) r (by simpa using s);rwa [show k+(j+1)=k+1+j by omega]at this);refine⟨by simp[p],o,t1,m,by have:=g 0;simp_all,?_,q⟩;have:=i 0 f rfl;simp_all
   ·cases a
  ·cases a
def Holds(N:Nat)(M:Nat->Prop)(L:kz)(w0:World)(s:St)(a:Act)(w:World):Prop:=∃blk,vT N M L w0 blk s.e [] s.t s.h a w
def JE(Z:jL P T)(hΓ:bU P Γ)(hm:P.follows .mixedOrders=true){id:Nat}{b:Bool}{s:St}{x:Ex}{s':St}{Q:Exit->Act->World->Prop}(z:zG T Γ N ops b s=some (x,s'))(g:(aa4 ops&&(!b||TD ops))=true)
  (hH:Holds N M L w0 s a w) (hQ:∀A B,Holds N M L w0 s' A B->Q .normal A B):x=.normal∧(Code.region id ops b).wp P Q a w:=by
 unfold zG at z;split at z
 ·rename_i t h fs n;split at z
  ·rename_i c;simp only[akq,Prod.mk.injEq]at z;obtain⟨rfl,rfl⟩:=z;refine⟨rfl,?_⟩;simp only[akP]at g;have E:(ops.toList.filterMap (·.dst)).Nodup:=Lv g.1;obtain⟨blk,K⟩:=hH;have p:∀A B e done,vT N M L w0 e s.e done t h A B->Q .normal A B:=by
    intro A B e done G;refine hQ A B ⟨e,G.inv.weaken fun x v O =>?_,fun x r ty s nv cs k1 k2 k3 k4 =>?_⟩
    ·rcases O with⟨J,O|⟨O,_⟩⟩|⟨J,R,h3,h4⟩
     ·exact .inl ⟨J,.inl (by simp only;omega)⟩
     ·exact .inl ⟨J,.inl (by simp only;omega)⟩
     ·exact .inr ⟨J,by simp only;omega,fun _=>by simp only;omega,h4⟩
    ·have:=G.nv x r ty s nv cs k1 k2 k3 k4;grind
   cases b with
   | false =>
    apply wp_region_list;exact Bf Z hΓ n E (done:=[]) (fun o _ d _=>by simp) K p
   | true =>
    simp only[alG,alb]at c g;apply wp_region_any hm;have C:=g.2;simp only[TD,akP]at C
    let F:Nat->mP:=fun i=>fs.getD i ⟨[],true⟩
    obtain⟨aa,q⟩:=Ch (F:=F) (k:=0) n (fun j=>by simp) (fun j f hj=>by grind);have D:∀i o,ops[i]? = some o->∀d∈direct o,d<i:=by
     intro i o ho d hd;have h1:=C.1;rw[aks]at h1;have u:(o,i)∈ops.toList.zipIdx:=by
      grind
     grind
    have H:∀(i j:Nat)(oi oj:Oper)(d:Nat),ops[i]? = some oi->ops[j]? = some oj->oi.dst=some d->oj.dst=some d->i=j:=by
     have key:∀(l:List Oper),(l.filterMap (·.dst)).Nodup->∀(i j:Nat)(oi oj:Oper)(d:Nat),l[i]? = some oi->l[j]? = some oj->oi.dst=some d->oj.dst=some d->i=j:=by
      intro l
      induction l with
      | nil=>simp_all
      | cons o l ih =>
       grind
     intro i j oi oj d y hj;exact key ops.toList E i j oi oj d (by simpa using y) (by simpa using hj)
    have m:Vk ops F:=by
     intro j i I y
     by_cases S:((VM ops).getD i 0).testBit j=true
     ·exact .inl (aaB S)
     ·refine .inr ⟨fun oj oi U V =>?_,?_⟩
      ·have R:=C.2;rw[aks]at R;have:=R i (alH.2 y);rw[aks]at this;have:=this j (alH.2 I);simp only[Bool.or_eq_true]at this;rcases this with h'|h'
       ·exact absurd h' S
       ·simpa [Vv,U,V] using h'
      ·rw[Gk,aks]at c;have u:(j,i)∈LG ops:=by
        refine alu.2 ⟨i,alH.2 y,akh.2 ⟨j,alE.2 ⟨alH.2 I,?_⟩,rfl⟩⟩;simpa using S
       have:=c _ u;have W:i<fs.length:=by grind
       have X:j<fs.length:=by omega
       simp only[acn,aku X,aku W]at this;grind
    rw[akR,<- List.range_eq_range']at q;have ab:∀i,(Array.replicate ops.size false).getD i false=false:=by
     intro i
     by_cases y:i<ops.size
     ·simp[Array.getD,y]
     grind
    have Y:∀i,(Array.replicate ops.size false).getD i true=false↔i<ops.size:=by
     grind
    exact ZH Z hΓ m D H p ops.size (List.range ops.size) (Array.replicate ops.size false) s.t s.h a _ blk [] (by simp) (fun i=>by grind) alI (fun i y=>alH.1 y) (by simp)
     (fun i o _ hl=>by grind) (fun d hd=>by simp at hd) q ⟨K.inv.drew,K.nv⟩
  ·cases z
 ·cases z
def GG:Ex->Exit
 | .normal =>.normal
 | .exit n =>.exit n
 | .ret =>.ret
def kh(E:jL P T)(G:bU P Γ)(H:P.follows .mixedOrders=true){F:Nat}:∀(c:Code)(s:St)(x:Ex)(i:St)(Q:Exit->Act->World->Prop)(a:Act)(w:World),ik T Γ N F c s=some (x,i)->codeOk c=true->Holds N M L w0 s a w ->
  (∀j k,Holds N M L w0 i j k->Q (GG x) j k)->c.wp P Q a w:=by
 intro c
 induction c with
 | skip =>
  intro s x i Q a w e _ l h;simp only[ik,akq,Prod.mk.injEq]at e;obtain⟨rfl,rfl⟩:=e;exact wp_skip (h a w l)
 | region id ops draw =>
  intro s x i Q a w e f l h;simp only[ik]at e;have I:x=.normal:=by
   unfold zG at e;grind
  subst I;exact (JE E G H e f l h).2
 | seq b c m ihc =>
  intro s x i Q a w e f l h;simp only[codeOk,akP]at f;simp only[ik,ag5]at e;apply wp_seq;split at e
  ·rename_i p o;exact m s .normal p _ a w o f.1 l (fun j k g=>ihc p x i Q j k e f.2 g h)
  ·rename_i r q;refine m s x i _ a w e f.1 l (fun j k g =>?_);cases x with
   | normal=>simp_all
   | exit n=>exact h j k g
   | ret=>exact h j k g
 | cond c b d m y =>
  intro s x i Q a w e f l h;simp only[codeOk,akP]at f;simp only[ik]at e;unfold SV at e;split at e
  ·rename_i B J;obtain⟨blk,z⟩:=l;have C:=z.inv.ev c;rw[J]at C;refine wp_cond (t:=B) (y7 C) ?_;cases B with
   | true=>exact m s x i Q a w e f.1 ⟨blk,z⟩ h
   | false=>exact y s x i Q a w e f.2 ⟨blk,z⟩ h
  ·cases e
 | block id b u =>
  intro s x i Q a w e f l h;simp only[ik]at e;apply wp_block;unfold U3 at e;split at e
  ·rename_i n p o;refine u s (.exit n) p _ a w o f l (fun j k g =>?_);split at e
   ·rename_i A;simp only[akq,Prod.mk.injEq]at e;obtain⟨rfl,rfl⟩:=e;simp only[GG,Exit.inBlock,A,if_true];exact h j k g
   ·rename_i A;simp only[akq,Prod.mk.injEq]at e;obtain⟨rfl,rfl⟩:=e;simp only[GG,Exit.inBlock,A,if_false];exact h j k g
  ·rename_i r q;refine u s x i _ a w e f l (fun j k g =>?_);cases x with
   | normal=>exact h j k g
   | exit n=>simp_all
   | ret=>exact h j k g
 | loop b u =>
  intro s x i Q a w e f l h;simp only[ik]at e;refine wp_loop_ghost (fun n a w=>∃s,Holds N M L w0 s a w∧iter (ik T Γ N F b) n s=some (x,i)) F ⟨s,l,e⟩ ?_;intro n a w ⟨p,v,o⟩;cases n with
  | zero=>simp[iter]at o
  | succ n =>
   simp only[iter]at o;split at o
   ·rename_i D K;exact u p .normal D _ a w K f v (fun j k g=>⟨n,by omega,D,g,o⟩)
   ·rename_i r q;refine u p x i _ a w o f v (fun j k g =>?_);cases x with
    | normal=>simp_all
    | exit n=>exact h j k g
    | ret=>exact h j k g
 | exit id =>
  intro s x i Q a w e _ l h;simp only[ik,akq,Prod.mk.injEq]at e;obtain⟨rfl,rfl⟩:=e;exact wp_exit (h a w l)
 | ret =>
  intro s x i Q a w e _ l h;simp only[ik,akq,Prod.mk.injEq]at e;obtain⟨rfl,rfl⟩:=e;exact wp_ret (h a w l)
 | _=>intro s x i Q a w e;simp[ik]at e
end
def R4(T:Nat->Option Ty)(s:St):ResultVar->Option (D×List Nat)
 | .tmp i=>cU s.h (s.t i)
 | .cell i ty =>
  match T ty,s.t i with
  | some τ,.ptr x v o=>match fO τ s.h (.ptr x v o) with|some E=>some (jT E.val,[])|none=>none
  | _,_=>none
def yG(T:Nat->Option Ty)(s:St):List ResultVar->Option (List D×List Nat)
 | []=>some ([],[])
 | r::rs =>
  match R4 T s r with
  | some (d,fr)=>match yG T s rs with
   | some (ds,a)=>some (d::ds,fr++a)
   | none=>none
  | none=>none
def n9:List D->D
 | [d]=>d
 | ds =>.tup ds
inductive Mode where
 | clean|same|tight
 | fresh (ty s:Nat)
def cF:Option (D×Row)->List D->St
 | none,args=>⟨fun i=>args.getD i .und,fun _=>none,0⟩
 | some (d0,r),args=>⟨fun i=>(d0::args).getD i .und,fun x=>if x=0 then some { r with v:=0 } else none,1⟩
def nN:Option (D×Row)->St->Option (Option Row)
 | none,_=>some none
 | some (_,r),s =>
  match s.h 0 with
  | some a=>if a.v=0∧a.fz=false∧a.ty=r.ty∧(a.mp=r.mp∧xp a=true) then some (some a) else none
  | none=>none
def ach:Option (D×Row)->List Nat->Bool
 | none,_=>true
 | some _,fr => !fr.contains 0
def th(T:Nat->Option Ty)(bY:Option (D×Row))(rs:List ResultVar)(s:St):Option (RK×Option Row) :=
 match yG T s rs,nN bY s with
 | some (a,fr),some o=>if ach bY fr then some (.clean (n9 a),o) else none
 | _,_=>none
def MZ(bY:Option (D×Row))(rs:List ResultVar)(s:St):Option (RK×Option Row) :=
 match rs with
 | [.tmp i] =>
  match s.t i,nN bY s with
  | .buf 0 0 sz o n,some (some r)=>some (.same sz o n,some r)
  | _,_=>none
 | _=>none
def KG:D->Option (RK×Option Row)
 | .sl nl a n xs=>some (.clean (.sl nl a n xs),none)
 | _=>none
def GD(bY:Option (D×Row))(rs:List ResultVar)(s:St):Option (RK×Option Row) :=
 match bY,rs with
 | none,[.tmp i]=>KG (s.t i)
 | _,_=>none
def zj(ty s o n:Nat):Option Row->Option (RK×Option Row)
 | some r=>if r.fz=false∧r.ty=ty∧o+n*s<=r.cells.length then some (.fresh ty s n ((r.cells.drop o).take (n*s)),none) else none
 | none=>none
def sw(ty s:Nat)(h:Nat->Option Row):D->Option (RK×Option Row)
 | .buf x v a o n=>if a=s then zj ty s o n (live h x v) else none
 | .sl _ b 0 _=>if b=true then some (.fresh ty s 0 [],none) else none
 | _=>none
def vk(ty s:Nat)(rs:List ResultVar)(a:St):Option (RK×Option Row) :=
 match rs with
 | [.tmp i]=>sw ty s a.h (a.t i)
 | _=>none
def gE(a:Mode)(T:Nat->Option Ty)(bY:Option (D×Row))(rs:List ResultVar)(s:St):Option (RK×Option Row) :=
 match a with
 | .clean=>th T bY rs s
 | .same=>MZ bY rs s
 | .tight=>GD bY rs s
 | .fresh ty sz=>vk ty sz rs s
def kN(a:Mode)(T:Nat->Option Ty)(Γ:Env)(F:Nat)(d:Func)(bY:Option (D×Row))(b:List D):Option (RK×Option Row) :=
 match d.body with
 | some c =>
  if d.ntmps<=PK then
   match ik T Γ d.ntmps F c (cF bY b) with
   | some (.exit _,_)=>none
   | some (_,s)=>gE a T bY d.results.toList ⟨s.t,EH s.h,s.e⟩
   | none=>none
  else none
 | none=>none
def HF:Option (D×Row)->Bool
 | none=>true
 | some (.buf 0 0 _ _ _,_)=>true
 | some (.ptr 0 0 _,_)=>true
 | some (.mp 0 0,_)=>true
 | _=>false
def Ht:Option (D×Row)->List D->Nat
 | none,akd=>akd.length
 | some _,akd=>akd.length+1
section
variable {P:Program} {T:Nat->Option Ty} {N:Nat} {M:Nat->Prop} {L:kz} {w0:World} {blk:Nat->Option (Nat×Nat)} {a:Act} {w:World} {Γ:Env}
def Inv.afz{V:Nat->Nat->Prop}{t:Nat->D}{h:Nat->Option Row}(d:Inv N M L w0 blk V t h a w)(fr:List Nat):rU M h blk fr M where
 le b c:=.inl c
 no x i r g e f c:=d.notM e f c
def Dv(a:Array Value):ResultVar->Sem Value
 | .tmp t=>pure (a.getD t undef)
 | .cell b t=>do loadVar t (<- asAddr (a.getD b undef))
def Ih(a:Func)(b:Array Value):results a b=(do
  let vs <- a.results.mapM (Dv b)
  pure (if h:vs.size=1 then vs[0] else .tuple vs)):=by
 unfold results;congr 1
def YZ(l:jL P T){f:Nat->Prop}{ty:Nat}{τ:Ty}{g c:Nat}{xs:List D}{d:D}(m:T ty=some τ)(b:At w f g c xs)(n:xs.length=τ.size)(e:lL τ xs=some d) :
  ∃u,(loadVar ty ⟨g,c,none⟩).run P w=.ok u w∧RP w f d u:=by
 obtain⟨h,i,o,p,q⟩:=b.DF;have j:τ.ds.vp=false->xs.length=1∧xs=[d]:=by
  intro k;simp only[lL,k,akN,if_false]at e;grind
 have a:=mG (l ty τ m) w g c h (by rw[i,n]) o (fun k=>by simp_all);refine⟨_,a,?_⟩;cases r:τ.ds.vp with
 | true =>
  simp only[lL,r,if_true,akq]at e;subst e;exact .agg xs h i p q
 | false =>
  grind
def acy(y:jL P T){q:Nat->Prop}{V:Nat->Nat->Prop}{s:St}(j:Inv N M L w0 blk V s.t s.h a w){r:ResultVar}{d:D}{fr:List Nat}(c:R4 T s r=some (d,fr))(hl:rU M s.h blk fr q):∃u,(Dv a.tmps r).run P w=.ok u w∧RP w q d u:=by
 cases r with
 | tmp i =>
  simp only[R4]at c;exact⟨a.tmps.getD i undef,rfl,j.cU c hl (j.slots i)⟩
 | cell i ty =>
  simp only[R4]at c;split at c
  ·rename_i τ x v o z A;split at c
   ·rename_i E e;simp only[akq,Prod.mk.injEq]at c;obtain⟨rfl,_⟩:=c;have f:=j.slots i;rw[A]at f;simp only[fO]at e;split at e
    ·rename_i B h;obtain⟨t,C⟩:=cQ h;split at e
     ·rename_i F;split at e
      ·rename_i I k;simp only[akq]at e;subst e;obtain⟨g,G,l⟩:=f.2 B t C;have m:=((j.rowAt t G (jz h)).drop o).take τ.size;obtain⟨u,n,p⟩:=YZ y z m (by simp;omega) k;refine⟨u,?_,(p.less fun b H=>hl.le b H).jT⟩;simp only[Dv,l,asAddr,akL,Sem.run_pure,Result.andThen_ok,n]
      ·cases e
     ·cases e
    ·cases e
   ·cases c
  ·cases c
def Si(g:jL P T){i:Nat->Prop}{V:Nat->Nat->Prop}{s:St}(k:Inv N M L w0 blk V s.t s.h a w):∀(rs:List ResultVar)(b:List D)(fr:List Nat),yG T s rs=some (b,fr)->rU M s.h blk fr i ->
  ∃c:List Value,(rs.mapM (Dv a.tmps)).run P w=.ok c w∧c.length=b.length∧∀j d,b[j]? = some d->RP w i d (c.getD j undef)
 | [],b,fr,h,_=>by
  simp only[yG,akq,Prod.mk.injEq]at h;simp_all
 | r::rs,b,fr,h,l=>by
  simp only[yG]at h;split at h
  ·rename_i d m n;split at h
   ·rename_i e f o;simp only[akq,Prod.mk.injEq]at h;obtain⟨rfl,rfl⟩:=h;obtain⟨c,v,p,x⟩:=Si g k rs e f o l.right;obtain⟨u,q,t⟩:=acy (P:=P) g k n l.left;refine⟨u::c,?_,by simp[p],fun j d y =>?_⟩
    ·simp_all
    grind
   ·cases h
  ·cases h
def uG(k:jL P T){i:Nat->Prop}{V:Nat->Nat->Prop}{s:St}(l:Inv N M L w0 blk V s.t s.h a w){f:Func}{b:List D}{fr:List Nat}(h:yG T s f.results.toList=some (b,fr))(m:rU M s.h blk fr i) :
  ∃v,(results f a.tmps).run P w=.ok v w∧RP w i (n9 b) v:=by
 obtain⟨e,n,g,c⟩:=Si (P:=P) k l _ b fr h m;have o:(f.results.mapM (Dv a.tmps)).run P w=.ok e.toArray w:=by
  rw[ak1,Sem.run_map,n];rfl
 rw[Ih];simp only[akL,o,Result.andThen_ok,Sem.run_pure];refine⟨_,rfl,?_⟩
 match e,b,g,c with
 | [u],[d],_,c=>simpa [n9] using c 0 d rfl
 | [],[],_,_=>exact .tup [] [] rfl (fun j x p=>by simp at p)
 | q::r::e,d1::d2::b,g,c =>
  have:¬(q::r::e).toArray.size=1:=by simp
  rw[dif_neg this];exact .tup _ _ (by simpa using g) c
def rl{a:Func}{b:Array Value}{i:Nat}(h:a.results.toList=[.tmp i]):(results a b).run P w=.ok (b.getD i undef) w:=by
 have c:a.results = #[.tmp i]:=by rw[<- h]
 rw[Ih,c];simp[Dv]
def Inv.vk{V:Nat->Nat->Prop}{s:St}{q Q:Nat}(t:Inv N M L w0 blk V s.t s.h a w){G:Func}{y:RK}{out:Option Row}(e:Am.vk q Q G.results.toList s=some (y,out)) :
  out=none∧∃v ty p n cells,y=.fresh ty p n cells∧(results G a.tmps).run P w=.ok v w∧xy w0 w M (LB L) v y:=by
 unfold Am.vk at e;split at e
 ·rename_i i k;have f:=t.slots i;unfold sw at e;split at e
  ·rename_i x v p o n z;rw[z]at f;split at e
   ·rename_i B;subst B;unfold zj at e;split at e
    ·rename_i r l;split at e
     ·rename_i h;obtain⟨R,S,T⟩:=h;simp only[akq,Prod.mk.injEq]at e;obtain⟨rfl,rfl⟩:=e;refine⟨rfl,a.tmps.getD i undef,_,_,_,_,rfl,rl k,?_⟩;obtain⟨H,hv⟩:=cQ l;have U:((r.cells.drop o).take (n*p)).length=n*p:=by simp;omega
      rcases t.Bq l f with⟨g,o',c,cs,C,I,J,D,g4,W,g7,K⟩|⟨C,rfl,J,A,D⟩
      ·by_cases X:0<c∨o=0
       ·obtain⟨Y,Z⟩:=W X;subst Y;refine .inl ⟨(g.1,g.2+o),c,cs,I,(show w0.heap.size<=g.1∨LB L g.1 from t.base H C),by simp_all,J,D,Z,by omega,fun j d m =>?_⟩;rw[km]at m;split at m
        ·rw[akA];refine⟨(K _ _ m).1,(K _ _ m).2.less fun b E =>?_⟩;rcases E with E|rfl
         ·exact .inl E
         ·exact .inr ⟨x,r,g,H,R,C,rfl⟩
        ·cases m
       ·have hn:n=0:=by omega
        have F:c=0:=by omega
        subst hn F;exact .inr ⟨rfl,by simp,_,I⟩
      ·exact .inr ⟨rfl,by simp,A,D⟩
     ·cases e
    ·cases e
   ·cases e
  ·rename_i O tg xs z;rw[z]at f;split at e
   ·rename_i aa;simp only[akq,Prod.mk.injEq]at e;obtain⟨rfl,rfl⟩:=e;refine⟨rfl,a.tmps.getD i undef,_,_,_,_,rfl,rl k,.inr ⟨rfl,rfl,?_⟩⟩;have hr:RP w (Own M s.h blk) (.sl O tg 0 xs) (a.tmps.getD i undef):=f;generalize a.tmps.getD i undef=u at *;cases hr with
    | sl A c O tight n xs us h1 h2 h3 h4 h5 h6 h7 h8 =>
     simp_all
   ·cases e
  ·cases e
 ·cases e
def yK{args:List D}{vs:Array Value}{n i:Nat}(a:vs.size=args.length):(vs++Array.replicate (n-vs.size) undef).getD i undef=vs.getD i undef∨args.getD i .und=.und:=by
 by_cases b:i<args.length
 ·left;have:i<vs.size:=by omega
  simp[akm,Array.getElem?_append_left this]
 simp_all
def XK{h:Nat->Option Row}(d:∀k r,h k=some r->k<2*PK∧xp r=true):EH h=h:=by
 funext k
 by_cases e:k<2*PK
 ·rw[sJ e];cases a:h k with
  | none=>rfl
  | some r =>
   simp only[Option.map_some,Fc];split
   ·rename_i c;obtain⟨f,vs,b⟩:=B4 (d k r a).2 c;cases r;simp only at b;subst b;rfl
   ·rfl
 ·have g:h k=none:=by
   cases a:h k with
   | none=>rfl
   | some r=>simp_all
  rw[g];unfold EH;rw[if_neg e];cases a:h (k % PK) with
  | none=>rfl
  | some r =>
   simp only[Option.bind_some,tx];split
   ·rename_i c;obtain⟨f,vs,b⟩:=B4 (d _ r a).2 c;rw[b];rfl
   ·rfl
def Fw{h:Nat->Option Row}(b:∀k r,h k=some r->k<2*PK∧r.mp=false):EH h=h:=by
 funext k
 by_cases c:k<2*PK
 ·rw[sJ c];cases a:h k with
  | none=>rfl
  | some r =>
   simp only[Option.map_some,Fc,(b k r a).2];rfl
 ·have d:h k=none:=by
   cases a:h k with
   | none=>rfl
   | some r=>simp_all
  rw[d];unfold EH;rw[if_neg c];cases a:h (k % PK) with
  | none=>rfl
  | some r =>
   simp only[Option.bind_some,tx,(b _ r a).2];rfl
def lY(hT:jL P T)(hΓ:bU P Γ)(hm:P.follows .mixedOrders=true){K:Mode}{f:FuncId}{A:Func}{F:Nat}{bY:Option (D×Row)}{a:List D}{rk:RK}{ad:Option Row}(hf:P.funcs[f]? = some A)
  (V:(match A.body with|some c=>codeOk c|none=>true)=true) (hn:Ht bY a<=A.ntmps) (W:HF bY=true)
  (d:kN K T Γ F A bY a=some (rk,ad)):uJ P f bY a rk ad:=by
 unfold kN at d;split at d<;>try (cases d;done)
 rename_i c hc;rw[hc]at V;simp only at V;split at d<;>try (cases d;done)
 rename_i aa;split at d<;>try (cases d;done)
 rename_i x s az hv;cases bY with
 | none =>
  intro w M vs hM h;have hI:Inv A.ntmps M none w (fun _=>none) (fun x v=>x<A.ntmps∧v<0) (cF none a).t (cF none a).h { tmps:=vs++Array.replicate (A.ntmps-vs.size) undef,defers:=[] } w:={
   tab:=fun b e=>(h.tab b e).less fun b e=>by
    rcases e with e|⟨x,r,g,l,_⟩
    ·exact e
    ·cases l
   below:=eM.refl _ _
   mlt:=hM
   bY:=fun b e=>absurd e ub
   pin:=fun B I=>by cases I
   defers:=rfl
   tsz:=by have:=h.1;simp only[Ht]at hn;simp;omega
   slots:=fun i=>by
    simp only[cF];rcases yK (n:=A.ntmps) (i:=i) h.1 with he|he
    ·rw[he]
     by_cases hi:i<a.length
     ·have C:=h.2 i _ (aku hi);have L:a.getD i .und=a[i]:=by simp_all
      rw[L];exact b6 (C.less fun b e=>by
       rcases e with e|⟨x,r,g,l,_⟩
       ·exact e
       ·cases l)
     ·have L:a.getD i .und=.und:=by simp_all
      rw[L];trivial
    ·rw[he];trivial
   rows:=fun x r l=>by cases l
   inj:=fun x y r s g g' l=>by cases l
   big:=aa
   pha:=fun y r g J=>by cases J
   ali:=fun y r g J=>by cases J }
  apply calls_of_wp hf hc;refine kh hT hΓ hm c (cF none a) x s _ _ _ hv V ⟨_,⟨(by rw[Fw (fun k r X=>by cases X)];exact hI.weaken fun x v l=>absurd l.2 (Nat.not_lt_zero _)),fun x r ty s nv cs l=>by cases l⟩⟩ (fun U w' hH =>?_);obtain⟨q,ae⟩:=hH;obtain⟨sE,N⟩:∃sE:St,sE=⟨s.t,EH s.h,s.e⟩:=⟨_,rfl⟩;have hI':Inv A.ntmps M none w q (VE A.ntmps s.e [] s.h) sE.t sE.h U w':=by rw[N];exact ae.inv
  rw[<- N]at d;have t:Below w.heap.size w w':=hI'.below.below (fun b e=>absurd e ub);have u:U.defers=[]∧∃v,(results A U.tmps).run P w'=.ok v w'∧(∃v',Ending.returned v=.returned v'∧Below w.heap.size w w'∧xy w w' M (fun _=>False) v' rk):=by
   refine⟨hI'.defers,?_⟩;cases K with
   | clean =>
    simp only[gE,th,nN]at d;split at d<;>try (cases d;done)
    rename_i ds fr o O ho;split at d<;>try (cases d;done)
    simp only[akq,Prod.mk.injEq]at d;obtain⟨rfl,_⟩:=d;obtain⟨v,E,z⟩:=uG (P:=P) hT hI' O (hI'.afz fr);exact⟨v,E,v,rfl,t,z⟩
   | same =>
    simp only[gE,MZ,nN]at d;grind
   | tight =>
    simp only[gE,GD]at d;split at d<;>try (cases d;done)
    rename_i i _ ag;have Y:=hI'.slots i;generalize sE.t i=dd at *;unfold KG at d;split at d<;>try (cases d;done)
    rename_i nl tg n xs;simp only[akq,Prod.mk.injEq]at d;obtain⟨rfl,_⟩:=d;have ao:RP w' (Own M sE.h q) (.sl nl tg n xs) (U.tmps.getD i undef):=Y;exact⟨U.tmps.getD i undef,rl ag,_,rfl,t,ao.less fun b e =>.inl e⟩
   | fresh au s0 =>
    obtain⟨rfl,v,ty,sz,n,cells,rfl,E,z⟩:=hI'.vk (P:=P) d;refine⟨v,E,v,rfl,t,?_⟩;rcases z with⟨g,k1,cs,k2,k3,k4⟩|z
    ·exact .inl ⟨g,k1,cs,k2,k3.imp id (fun e=>absurd e ub),k4⟩
    ·exact .inr z
  cases x with
  | normal=>exact u
  | ret=>exact u
  | exit n=>simp_all
 | some p =>
  obtain⟨d0,r⟩:=p;intro w M B u0 vs hM hgoM hz ah ab ai h;have Q:∀b,Own M (cF (some (d0,r)) a).h (fun x=>if x=0 then B else none) b↔(M b∨w8 B b):=by
   intro b;constructor
   ·rintro (e|⟨x,R,g,l,_,I,he⟩)
    ·exact .inl e
    ·simp only[cF]at l;split at l
     ·rename_i h0;subst h0;simp only[if_true]at I;exact .inr ⟨g,I,he.symm⟩
     ·cases l
   ·rintro (e|⟨g,I,he⟩)
    ·exact .inl e
    ·exact .inr ⟨0,{ r with v:=0 },g,rfl,hz,by simpa using I,he.symm⟩
  have hI:Inv A.ntmps M (Nl B) w (fun x=>if x=0 then B else none) (fun x v=>x<A.ntmps∧v<1) (cF (some (d0,r)) a).t (cF (some (d0,r)) a).h { tmps:=(#[u0]++vs)++Array.replicate (A.ntmps-(#[u0]++vs).size) undef,defers:=[] } w:={
   tab:=fun b e=>(h.tab b e).less fun b e=>(Q b).1 e
   below:=eM.refl _ _
   mlt:=hM
   bY:=fun b e=>hgoM b (Mw.1 e)
   pin:=fun aA I=>by
    cases I;exact⟨⟨by simp only[Ht]at hn;omega,alJ⟩,fun R _ _=>⟨rfl,fun g _=>rfl⟩⟩
   defers:=rfl
   tsz:=by have:=h.1;simp only[Ht]at hn;simp;omega
   slots:=fun i=>by
    simp only[cF];rcases yK (args:=d0::a) (vs:=#[u0]++vs) (n:=A.ntmps) (i:=i) (by simp[h.1];omega) with he|he
    ·rw[he];cases i with
     | zero =>
      have L:(#[u0]++vs).getD 0 undef=u0:=by simp[Array.getElem?_append]
      rw[L];simp only[alc];cases d0 with
      | buf x v sz o n =>
       have S:x=0∧v=0:=by
        simp only[HF]at W;grind
       obtain⟨rfl,rfl⟩:=S;exact⟨⟨by simp only[Ht]at hn;omega,alJ⟩,fun R C h2=>by simpa using ai.2 ⟨0,0,[],false,false,false⟩ rfl rfl⟩
      | ptr x v o =>
       have S:x=0∧v=0:=by
        simp only[HF]at W;grind
       obtain⟨rfl,rfl⟩:=S;exact⟨⟨by simp only[Ht]at hn;omega,alJ⟩,fun R C h2=>by simpa using ai.2 ⟨0,0,[],false,false,false⟩ rfl rfl⟩
      | mp x v =>
       have S:x=0∧v=0:=by
        simp only[HF]at W;grind
       obtain⟨rfl,rfl⟩:=S;exact⟨⟨by simp only[Ht]at hn;omega,alJ⟩,fun R C h2=>by simpa using ai.2 ⟨0,0,[],false,false,false⟩ rfl rfl⟩
      | _=>simp[HF]at W
     | succ i =>
      have L:(#[u0]++vs).getD (i+1) undef=vs.getD i undef:=by
       simp only[akm];rw[Array.getElem?_append_right (by simp)];simp
      rw[L];simp only[ald]
      by_cases hi:i<a.length
      ·have C:=h.2 i _ (aku hi);have L:a.getD i .und=a[i]:=by simp_all
       rw[L];exact b6 (C.less fun b e=>(Q b).1 e)
      ·have L:a.getD i .und=.und:=by simp_all
       rw[L];trivial
    ·rw[he];trivial
   rows:=fun x R l=>by
    simp only[cF]at l;split at l
    ·rename_i h0;subst h0;simp only[akq]at l;subst l;refine⟨fun hn=>⟨hn,alJ⟩,?_⟩;simp only[if_true];cases B with
     | none=>exact ab
     | some g =>
      exact⟨.inr (Mw.2 ⟨g,rfl,rfl⟩),eJ.keep (r':={ r with v:=0 }) ab rfl rfl rfl rfl (fun b C h2=>⟨C,fun e=>h2 ((Q b).1 e),rfl⟩)⟩
    ·cases l
   inj:=fun x y m r2 g g' l J _ _ _=>by
    simp_all
   big:=aa
   pha:=fun y m g J hm _ j x s n hj=>by
    simp only[cF]at J;split at J
    ·simp only[akq]at J;subst J;obtain⟨ks,av,hc⟩:=B4 ah hm;grind
    ·cases J
   ali:=fun y m g J aB=>by
    simp only[cF]at J;grind }
  have Z:EH (cF (some (d0,r)) a).h=(cF (some (d0,r)) a).h:=by
   refine XK fun k R X =>?_;simp only[cF]at X;split at X
   ·rename_i h0;subst h0;simp only[akq]at X;subst X;exact⟨(by have:=eD;omega),by simpa [xp] using ah⟩
   ·cases X
  have aq:I0 (cF (some (d0,r)) a).e [] (cF (some (d0,r)) a).h:=by
   intro x R ty s nv cs l aw;simp only[cF]at l;split at l
   ·simp only[akq]at l;subst l;intro aC;obtain⟨ks,av,hc⟩:=B4 ah aw;simp_all
   ·cases l
  apply calls_of_wp hf hc;refine kh hT hΓ hm c (cF (some (d0,r)) a) x s _ _ _ hv V ⟨_,⟨(by rw[Z];exact hI.weaken fun x v l =>.inl ⟨l.1,.inl l.2⟩),aq⟩⟩ (fun U w' hH =>?_);obtain⟨q,ae⟩:=hH;obtain⟨sE,N⟩:∃sE:St,sE=⟨s.t,EH s.h,s.e⟩:=⟨_,rfl⟩;have hI':Inv A.ntmps M (Nl B) w q (VE A.ntmps s.e [] s.h) sE.t sE.h U w':=by rw[N];exact ae.inv
  rw[<- N]at d;have t:eM (w8 B) w w':=⟨hI'.below.os,hI'.below.tape,hI'.below.output,hI'.below.size,fun k X hn=>hI'.below.block k X (fun e=>hn (Mw.1 e))⟩;have G:∀m,nN (some (d0,r)) sE=some (some m)->sE.h 0=some m∧m.v=0∧m.fz=false∧(m.ty=r.ty∧(m.mp=r.mp∧xp m=true))∧q 0=B∧(∀g,B=some g->w'.shape? g.1=w.shape? g.1)∧(∀b,(M b∨w8 B b)->Own M sE.h q b):=by
   intro m hl;simp only[nN]at hl;split at hl<;>try (cases hl;done)
   rename_i r2 h2;split at hl<;>try (cases hl;done)
   rename_i aj;simp only[akq]at hl;subst hl;obtain⟨c1,c2,c3⟩:=aj;obtain⟨_,k2⟩:=hI'.pin _ rfl;obtain⟨k3,k4⟩:=k2 r2 h2 c1;refine⟨h2,c1,c2,c3,k3,k4,?_⟩;rintro b (e|⟨g,I,he⟩)
   ·exact .inl e
   ·exact .inr ⟨0,r2,g,h2,c2,k3.trans I,he.symm⟩
  have H:∀m,nN (some (d0,r)) sE=some (some m)->Vm w' (fun b=>M b∨w8 B b) B m:=by
   intro m hl;obtain⟨C,_,_,h4,h5,_,h7⟩:=G m hl;have:=(hI'.rows 0 m C).2;rw[h5]at this;cases B with
   | none=>exact this
   | some g =>
    exact eJ.keep this.2 rfl rfl rfl rfl (fun b C h2=>⟨C,fun e=>h2 (h7 b e),rfl⟩)
  have u:U.defers=[]∧∃v,(results A U.tmps).run P w'=.ok v w'∧(∃v',Ending.returned v=.returned v'∧eM (w8 B) w w'∧ae6 w w' M B r ad∧ae8 w w' M B v' rk):=by
   refine⟨hI'.defers,?_⟩;cases K with
   | clean =>
    simp only[gE,th]at d;split at d<;>try (cases d;done)
    rename_i ds fr o O ho;split at d<;>try (cases d;done)
    rename_i ax;simp only[ach,Bool.not_eq_true',List.contains_eq_mem,decide_eq_false_iff_not]at ax;simp only[akq,Prod.mk.injEq]at d;obtain⟨rfl,rfl⟩:=d;cases o with
    | none =>
     simp only[nN]at ho;grind
    | some m =>
     obtain⟨C,h2,h3,h4,h5,h6,h7⟩:=G m ho;have al:rU M sE.h q fr (fun b=>M b∨w8 B b):=by
      refine⟨h7,fun x l R g ar I e =>?_⟩;rcases e with e|⟨g',ay,he⟩
      ·exact hI'.notM ar I e
      ·have:x=0:=hI'.inj x 0 R m g g' ar C I (h5.trans ay) he;simp_all
     obtain⟨v,E,z⟩:=uG (P:=P) hT hI' O al;exact⟨v,E,v,rfl,t,⟨h4.1,h3,h4.2,h6,H m ho⟩,z⟩
   | same =>
    simp only[gE,MZ]at d;split at d<;>try (cases d;done)
    rename_i i ag;split at d<;>try (cases d;done)
    rename_i sz o n m ht ho;simp only[akq,Prod.mk.injEq]at d;obtain⟨rfl,rfl⟩:=d;obtain⟨C,h2,h3,h4,h5,h6,h7⟩:=G m ho;refine⟨U.tmps.getD i undef,rl ag,_,rfl,t,⟨h4.1,h3,h4.2,h6,H m ho⟩,?_⟩;have Y:=hI'.slots i;rw[ht]at Y;refine⟨trivial,fun R _ _ =>?_⟩;have:=Y.2 m C h2;rw[h5]at this;exact this
   | tight =>
    simp only[gE,GD]at d;cases d
   | fresh au s0 =>
    obtain⟨rfl,v,ty,sz,n,cells,rfl,E,z⟩:=hI'.vk (P:=P) d;refine⟨v,E,v,rfl,t,trivial,?_⟩;rcases z with⟨g,k1,cs,k2,k3,k4⟩|z
    ·exact .inl ⟨g,k1,cs,k2,k3.imp id (fun e=>Mw.1 e),k4⟩
    ·exact .inr z
  cases x with
  | normal=>exact u
  | ret=>exact u
  | exit n=>simp_all
def ext(Γ:Env)(f:Nat)(l:Bool)(G:Option (D×Row)->List D->Option (RK×Option Row)):Env:=⟨fun g=>if g=f then l else Γ.lends g,fun g bY akd=>if g=f then G bY akd else Γ.sem g bY akd,Γ.own,Γ.hint,Γ.ins,Γ.grw,Γ.nst,Γ.nx⟩
def bU.ext(b:bU P Γ){f:Nat}{l:Bool}{G:Option (D×Row)->List D->Option (RK×Option Row)}(d:∀bY akd c a,G bY akd=some (c,a)->uJ P f bY akd c a)(e:fe P f):bU P (Am.ext Γ f l G):=by
 refine⟨fun g bY akd c a h =>?_,b.ins,b.grw,b.lnd,b.res⟩;simp only[Am.ext]at h;split at h
 ·simp_all
 ·exact b.calls g bY akd c a h
def bq:Env:=⟨fun _=>false,fun _ _ _=>none,fun _=>true,fun _=>none,fun _=>none,fun _=>none,fun _=>none,{}⟩
def bU.none:bU P bq:=⟨fun f bY a c b h=>(by cases h),fun f p h=>(by cases h),fun f p h=>(by cases h),fun f p h=>(by cases h),fun f p h=>(by cases h)⟩
def keep(d:Nat)(Γ:Env):Env:=⟨Γ.lends,Γ.sem,fun i=>i != d&&Γ.own i,Γ.hint,Γ.ins,Γ.grw,Γ.nst,Γ.nx⟩
def bU.keep(a:bU P Γ)(d:Nat):bU P (Am.keep d Γ):=⟨a.calls,a.ins,a.grw,a.lnd,a.res⟩
def Hb(f:Nat)(p:Nat×Nat×Nat)(Γ:Env):Env:=⟨Γ.lends,Γ.sem,Γ.own,Γ.hint,fun g=>if g=f then some p else Γ.ins g,Γ.grw,Γ.nst,Γ.nx⟩
def bU.Hb(a:bU P Γ){f:Nat}{p:Nat×Nat×Nat}(b:ZT P f p):bU P (Am.Hb f p Γ):=⟨a.calls,fun g q h=>by
 simp only[Am.Hb]at h;split at h
 ·simp_all
 ·exact a.ins g q h,a.grw,a.lnd,a.res⟩
def xq(d:Nat)(p:Nat×Nat×Nat)(Γ:Env):Env:=⟨Γ.lends,Γ.sem,Γ.own,Γ.hint,Γ.ins,Γ.grw,fun i=>if i=d then some p else Γ.nst i,Γ.nx⟩
def bU.xq(a:bU P Γ)(d:Nat)(p:Nat×Nat×Nat):bU P (Am.xq d p Γ):=⟨a.calls,a.ins,a.grw,a.lnd,a.res⟩
def si(f:Nat)(p:Nat×(Nat->Nat->Nat->Nat->List D->List D->Option (D×List D)))(Γ:Env):Env:=⟨Γ.lends,Γ.sem,Γ.own,Γ.hint,Γ.ins,Γ.grw,Γ.nst,⟨fun g=>if g=f then some p else Γ.nx.lnd g,Γ.nx.res⟩⟩
def bU.si(b:bU P Γ){f:Nat}{p:Nat×(Nat->Nat->Nat->Nat->List D->List D->Option (D×List D))}(e:fe P f)(i:∀ty t s o cs a d c,p.2 ty t s o cs a=some (d,c)->Mu P f ty t s o cs a d c):bU P (Am.si f p Γ):=⟨b.calls,b.ins,b.grw,fun g q h=>by
 simp only[Am.si]at h;split at h
 ·simp_all
 ·exact b.lnd g q h,b.res⟩
def B9(f:Nat)(p:List D->Option (Nat×Nat×Nat×Nat×Nat×List D))(Γ:Env):Env:=⟨Γ.lends,Γ.sem,Γ.own,Γ.hint,Γ.ins,Γ.grw,Γ.nst,⟨Γ.nx.lnd,fun g=>if g=f then some p else Γ.nx.res g⟩⟩
def bU.B9(b:bU P Γ){f:Nat}{p:List D->Option (Nat×Nat×Nat×Nat×Nat×List D)}(c:fe P f)(d:∀a ty t s S n cs,p a=some (ty,t,s,S,n,cs)->Mt P f a ty t s S n cs):bU P (Am.B9 f p Γ):=⟨b.calls,b.ins,b.grw,b.lnd,fun g q h=>by
 simp only[Am.B9]at h;split at h
 ·simp_all
 ·exact b.res g q h⟩
end
def wS(ty t s o:Nat)(cs a:List D):St:=⟨fun i=>(.ptr 0 0 o::a).getD i .und,oJ (jA ty t s 0 cs),1⟩
def abd(t s:Nat)(b:List D):List D->Option (D×List D)
 | [.nr c d _ a]=>if c=t∧d=s then some (n9 b,a) else none
 | _=>none
def PS(ty t s:Nat):Option (List D×List Nat)->Option Row->Option (D×List D)
 | some (a,fr),some r=>if r.v=0∧r.fz=false∧r.ty=ty∧r.mp=true∧fr.all (fun k=>rt k != 0)=true then abd t s a r.cells else none
 | _,_=>none
def Yj(T:Nat->Option Ty)(ty t s:Nat)(rs:List ResultVar)(a:St):Option (D×List D):=PS ty t s (yG T ⟨a.t,EH a.h,a.e⟩ rs) (a.h 0)
def wW(T:Nat->Option Ty)(Γ:Env)(F:Nat)(b:Func)(ty t s o:Nat)(cs a:List D):Option (D×List D) :=
 match b.body with
 | some c =>
  if b.ntmps<=PK then
   match ik T Γ b.ntmps F c (wS ty t s o cs a) with
   | some (.exit _,_)=>none
   | some (_,st)=>Yj T ty t s b.results.toList st
   | none=>none
  else none
 | none=>none
def abb(x S n:Nat)(ty:Nat):List D->Option (Nat×Nat×Nat×Nat×Nat×List D)
 | [.nr t s _ cs]=>if x<PK then some (ty,t,s,S,n,cs) else none
 | _=>none
def PQ(x v S n:Nat):Option Row->Option (Nat×Nat×Nat×Nat×Nat×List D)
 | some r=>if r.v=v∧r.fz=false∧r.mp=true then abb x S n r.ty r.cells else none
 | none=>none
def V0(h:Nat->Option Row):D->Option (Nat×Nat×Nat×Nat×Nat×List D)
 | .buf x v S 0 n=>PQ x v S n (h x)
 | _=>none
def aba(rs:List ResultVar)(a:St):Option (Nat×Nat×Nat×Nat×Nat×List D) :=
 match rs with
 | [.tmp i]=>V0 a.h (a.t i)
 | _=>none
def Be(T:Nat->Option Ty)(Γ:Env)(F:Nat)(b:Func)(a:List D):Option (Nat×Nat×Nat×Nat×Nat×List D) :=
 match b.body with
 | some c =>
  if b.ntmps<=PK then
   match ik T Γ b.ntmps F c (cF none a) with
   | some (.exit _,_)=>none
   | some (_,st)=>aba b.results.toList st
   | none=>none
  else none
 | none=>none
section
variable {P:Program} {T:Nat->Option Ty} {N:Nat} {M:Nat->Prop} {L:kz} {w0:World} {blk:Nat->Option (Nat×Nat)} {a:Act} {w:World} {Γ:Env}
def Oh(hT:jL P T)(hΓ:bU P Γ)(hm:P.follows .mixedOrders=true){f:FuncId}{K:Func}{F:Nat}{ty t s o:Nat}{cs a ab:List D}{d:D}(hf:P.funcs[f]? = some K)
  (V:(match K.body with|some c=>codeOk c|none=>true)=true) (hn:a.length+1<=K.ntmps)
  (z:wW T Γ F K ty t s o cs a=some (d,ab)):Mu P f ty t s o cs a d ab:=by
 unfold wW at z;split at z<;>try (cases z;done)
 rename_i c hc;rw[hc]at V;simp only at V;split at z<;>try (cases z;done)
 rename_i ad;split at z<;>try (cases z;done)
 rename_i x st az hv;intro w M blk E C m vs L N hM hdis ae hR A;have aA:=eD;have al:∀k r,E k=some r->r.fz=false:=by
  intro k r J;rw[L]at J;rcases kv J with⟨_,rfl⟩|⟨_,_,_,_,_,rfl⟩<;>rfl
 have G:∀b,Own M E blk b↔(M b∨y6 blk E b):=by
  intro b;constructor
  ·rintro (e|⟨k,r,g,C,_,h2,h3⟩)
   ·exact .inl e
   ·exact .inr ⟨k,r,g,C,h2,h3⟩
  ·rintro (e|⟨k,r,g,C,h2,h3⟩)
   ·exact .inl e
   ·exact .inr ⟨k,r,g,C,al k r C,h2,h3⟩
 have W:E 0=some ⟨0,ty,cs.mapIdx (vB 0 s),false,true,true⟩:=by rw[L];exact yH
 obtain⟨LL,ag⟩:∃LL:kz,LL=some (some m,y6 blk E):=⟨_,rfl⟩;have X:∀b,LB LL b↔y6 blk E b:=by
  intro b;subst ag;constructor
  ·rintro⟨p,hp,h⟩;cases hp;rcases h with⟨g,R,rfl⟩|h
   ·cases R;exact⟨0,_,m,W,ae,rfl⟩
   ·exact h
  ·exact fun h=>⟨_,rfl,.inr h⟩
 have hI:Inv K.ntmps M LL w blk (fun x v=>x<K.ntmps∧v<1) (wS ty t s o cs a).t E { tmps:=(#[Value.pointer (some ⟨m.1,m.2+o,none⟩)]++vs)++Array.replicate (K.ntmps-(#[Value.pointer (some ⟨m.1,m.2+o,none⟩)]++vs).size) undef,defers:=[] } w:={
  tab:=fun b e=>(A.tab b e).less fun b e=>(G b).1 e
  below:=eM.refl _ _
  mlt:=hM
  bY:=fun b e=>hdis b ((X b).1 e)
  pin:=fun p hp=>by
   grind
  defers:=rfl
  tsz:=by have:=A.1;simp;omega
  slots:=fun i=>by
   simp only[wS];rcases yK (args:=.ptr 0 0 o::a) (vs:=#[.pointer (some ⟨m.1,m.2+o,none⟩)]++vs) (n:=K.ntmps) (i:=i) (by simp[A.1];omega) with he|he
   ·rw[he];cases i with
    | zero =>
     have Y:(#[Value.pointer (some ⟨m.1,m.2+o,none⟩)]++vs).getD 0 undef=.pointer (some ⟨m.1,m.2+o,none⟩):=by simp[Array.getElem?_append]
     rw[Y];simp only[alc];exact⟨⟨by omega,alJ⟩,fun r' _ _=>⟨m,ae,rfl⟩⟩
    | succ i =>
     have Y:(#[Value.pointer (some ⟨m.1,m.2+o,none⟩)]++vs).getD (i+1) undef=vs.getD i undef:=by
      simp only[akm];grind
     rw[Y];simp only[ald]
     by_cases hi:i<a.length
     ·have C:=A.2 i _ (aku hi);have Y:a.getD i .und=a[i]:=by simp_all
      rw[Y];exact b6 (C.less fun b e=>(G b).1 e)
     ·have Y:a.getD i .und=.und:=by simp_all
      rw[Y];trivial
   ·rw[he];trivial
  rows:=fun k r J=>by
   refine⟨fun hn =>?_,?_⟩
   ·rw[L]at J;rcases kv J with⟨rfl,rfl⟩|⟨o',_,_,rfl,_,rfl⟩
    ·simp_all
    simp_all
   ·have:=hR.rows k r J;cases R:blk k with
    | none=>rw[R]at this;exact this
    | some g =>
     rw[R]at this;exact⟨.inr ((X g.1).2 ⟨k,r,g,J,R,rfl⟩),this.keep rfl rfl rfl rfl fun b S q2=>⟨S,fun e=>q2 ((G b).1 e),rfl⟩⟩
  inj:=hR.inj
  big:=ad
  pha:=hR.pha
  ali:=fun y r g hy hz=>by grind }
 have ah:I0 (wS ty t s o cs a).e [] (wS ty t s o cs a).h:=by
  intro k r' aB s' an ao U aC aq;simp only[wS,oJ]at U;split at U
  ·simp only[akq]at U;subst U;simp only[jA,akD,D.nr.injEq,and_true]at aq;omega
  ·cases U
 have ar:EH (wS ty t s o cs a).h=E:=L.symm;apply calls_of_wp hf hc;refine kh hT hΓ hm c (wS ty t s o cs a) x st _ _ _ hv V ⟨_,⟨(by rw[ar];exact hI.weaken fun x v U=>Or.inl ⟨U.1,Or.inl U.2⟩),ah⟩⟩ (fun a' w' hH =>?_);obtain⟨u,au⟩:=hH;have hI':=au.inv;unfold Yj PS at z;split at z<;>try (cases z;done)
 rename_i ds fr r1 ai O;split at z<;>try (cases z;done)
 rename_i Z;obtain⟨c1,c2,c3,c4,c5⟩:=Z;unfold abd at z;split at z<;>try (cases z;done)
 rename_i t' s' an ao j;split at z<;>try (cases z;done)
 rename_i av;obtain⟨rfl,rfl⟩:=av;simp only[akq,Prod.mk.injEq]at z;obtain⟨rfl,rfl⟩:=z;have aw:=gH O c4 j pW;obtain⟨p1,p2⟩:=(hI'.pin (some m,y6 blk E) ag).2 _ aw c1;have Q:=Mv (blk:=u) O c4 j pW;rw[c3]at Q;have hQ:∀b,(M b∨y6 (tT u 0) C b)->Own M (EH st.h) u b:=by
  rintro b (e|e)
  ·exact .inl e
  ·rw[N]at e;obtain⟨k,r',g',q0,S,q2,q3⟩:=(Q b).1 e;refine .inr ⟨k,r',g',S,?_,q2,q3⟩;rcases fF O c4 j pW q0 S with⟨_,rfl⟩|⟨_,_,_,_,_,rfl⟩<;>exact c2
 have aa:rU M (EH st.h) u fr (fun b=>M b∨y6 (tT u 0) C b):=by
  refine⟨hQ,fun k J r' g aj R e =>?_⟩;rcases e with e|e
  ·exact hI'.notM aj R e
  ·rw[N]at e;obtain⟨l,r2,g',q0,S,q2,q3⟩:=(Q _).1 e;have:=hI'.inj k l r' r2 g g' aj S R q2 q3.symm;simp_all
 obtain⟨v,ax,ay⟩:=uG (P:=P) (s:=⟨st.t,EH st.h,st.e⟩) hT hI' ai aa;have H:=hI'.agj O c4 j c2 pW hQ;rw[c3,<- N]at H;have I:a'.defers=[]∧∃v,(results K a'.tmps).run P w'=.ok v w'∧(∃v' B,Ending.returned v=.returned v'∧eM (y6 blk E) w w'∧B 0=some m∧w'.shape? m.1=w.shape? m.1∧(∀b,y6 B C b->w.heap.size<=b∨y6 blk E b)∧JH w' (fun b=>M b∨y6 B C b) B C∧RP w' (fun b=>M b∨y6 B C b) (n9 ds) v'):=by
  refine⟨hI'.defers,v,ax,v,tT u 0,rfl,⟨hI'.below.os,hI'.below.tape,hI'.below.output,hI'.below.size,fun k J hn=>hI'.below.block k J fun e=>hn ((X k).1 e)⟩,by rw[tT,u4];exact p1,p2 m rfl,fun b e =>?_,H,ay⟩;rw[N]at e;obtain⟨k,r',g',q0,S,q2,q3⟩:=(Q b).1 e;rcases hI'.base S q2 with q|q
  ·omega
  simp_all
 cases x with
 | normal=>exact I
 | ret=>exact I
 | exit n=>simp_all
def ajH(G:jL P T)(H:bU P Γ)(I:P.follows .mixedOrders=true){f:FuncId}{e:Func}{F:Nat}{a:List D}{c:Code}{x:Ex}{p:St}(J:P.funcs[f]? = some e)(K:e.body=some c)(z:codeOk c=true)(W:a.length<=e.ntmps)(t:e.ntmps<=PK)
  (L:ik T Γ e.ntmps F c (cF none a)=some (x,p)) (N:∀n,x ≠ .exit n) {w:World} {M:Nat->Prop} {vs:Array Value} (O:∀b,M b->b<w.heap.size) (d:Bk w M a vs) {Φ:Ending->World->Prop}
  (A:∀q o h,Inv e.ntmps M none w h (VE e.ntmps p.e [] p.h) p.t (EH p.h) q o->∃v,(results e q.tmps).run P o=.ok v o∧Φ (.returned v) o):Calls P f vs w Φ:=by
 have Q:Inv e.ntmps M none w (fun _=>none) (fun x v=>x<e.ntmps∧v<0) (cF none a).t (cF none a).h { tmps:=vs++Array.replicate (e.ntmps-vs.size) undef,defers:=[] } w:={
  tab:=fun b j=>(d.tab b j).less fun b j=>by
   rcases j with j|⟨x,r,g,l,_⟩
   ·exact j
   ·cases l
  below:=eM.refl _ _
  mlt:=O
  bY:=fun b j=>absurd j ub
  pin:=fun X R=>by cases R
  defers:=rfl
  tsz:=by have:=d.1;simp;omega
  slots:=fun i=>by
   simp only[cF];rcases yK (n:=e.ntmps) (i:=i) d.1 with he|he
   ·rw[he]
    by_cases S:i<a.length
    ·have B:=d.2 i _ (aku S);have C:a.getD i .und=a[i]:=by simp_all
     rw[C];exact b6 (B.less fun b j=>by
      rcases j with j|⟨x,r,g,l,_⟩
      ·exact j
      ·cases l)
    ·have C:a.getD i .und=.und:=by simp_all
     rw[C];trivial
   ·rw[he];trivial
  rows:=fun x r l=>by cases l
  inj:=fun x y r s g Y l=>by cases l
  big:=t
  pha:=fun y r g E=>by cases E
  ali:=fun y r g E=>by cases E }
 apply calls_of_wp J K;refine kh G H I c (cF none a) x p _ _ _ L z ⟨_,⟨(by rw[Fw (fun k r A=>by cases A)];exact Q.weaken fun x v l=>absurd l.2 (Nat.not_lt_zero _)),fun x r ty s nv cs l=>by cases l⟩⟩ (fun q o U =>?_);obtain⟨h,u⟩:=U;obtain⟨v,B,V⟩:=A q o h u.inv;have m:q.defers=[]∧∃v,(results e q.tmps).run P o=.ok v o∧Φ (.returned v) o:=⟨u.inv.defers,v,B,V⟩;cases x with
 | normal=>exact m
 | ret=>exact m
 | exit n=>simp_all
def SX{F:Nat}{d:Func}{b:List D}{ty t s S n:Nat}{cs:List D}(a:Be T Γ F d b=some (ty,t,s,S,n,cs)) :
  ∃c x e i k v r nv,d.body=some c∧d.ntmps<=PK∧ik T Γ d.ntmps F c (cF none b)=some (x,e)∧(∀m,x ≠ .exit m)∧d.results.toList=[.tmp i]∧e.t i=.buf k v S 0 n∧e.h k=some r∧r.v=v∧r.fz=false∧r.mp=true∧k<PK∧r.ty=ty∧r.cells=[.nr t s nv cs]:=by
 unfold Be at a;split at a<;>try (cases a;done)
 rename_i c l;split at a<;>try (cases a;done)
 rename_i g;split at a<;>try (cases a;done)
 rename_i x e h o;unfold aba at a;split at a<;>try (cases a;done)
 rename_i i j;unfold V0 at a;split at a<;>try (cases a;done)
 rename_i k v p q u;unfold PQ at a;split at a<;>try (cases a;done)
 rename_i r w;split at a<;>try (cases a;done)
 rename_i f;unfold abb at a;grind
def Og(X:jL P T)(Y:bU P Γ)(Z:P.follows .mixedOrders=true){f:FuncId}{E:Func}{F:Nat}{e:List D}{ty t s S n:Nat}{cs:List D}(hf:P.funcs[f]? = some E)
  (m:(match E.body with|some c=>codeOk c|none=>true)=true) (hn:e.length<=E.ntmps)
  (hr:Be T Γ F E e=some (ty,t,s,S,n,cs)):Mt P f e ty t s S n cs:=by
 obtain⟨c,x,st,i,k,v,r,nv,Q,y,hv,K,L,ht,G,c1,R,H,I,z,a⟩:=SX hr;rw[Q]at m;simp only at m;intro w M h vs A hM o;refine ajH X Y Z hf Q m hn y hv K hM o fun a' w' d j =>?_;have p:=Mv (blk:=d) G H a I;rw[z,<- A]at p;have B:Below w.heap.size w w':=j.below.below (fun b u=>absurd u ub);have hQ:∀b,(M b∨y6 (tT d k) h b)->Own M (EH st.h) d b:=by
  rintro b (u|u)
  ·exact .inl u
  ·obtain⟨l,N,U,V,J,O,W⟩:=(p b).1 u;refine .inr ⟨l,N,U,J,?_,O,W⟩;rcases fF G H a I V J with⟨_,rfl⟩|⟨_,_,_,_,_,rfl⟩<;>exact R
 have g:=j.agj G H a R I hQ;rw[z,<- A]at g;have C:=j.slots i;rw[ht]at C;refine⟨_,rl L,_,tT d k,rfl,B,fun b u =>?_,g,trivial,fun N _ _ =>?_⟩
 ·obtain⟨l,N,U,V,J,O,W⟩:=(p b).1 u;rcases j.base J O with q|q
  ·omega
  ·exact absurd q ub
 ·rw[tT,u4];exact C.2 _ (gH G H a I) c1
end
def abI:ec->D
 | (n,none) =>.int .i64 n
 | (a,some b) =>.agg [.int .i64 a,.int .i64 b]
def QC{w:World}{M:Nat->Prop}(k:ec):RP w M (abI k) (nW k):=by
 obtain⟨a,x⟩:=k;cases x with
 | none=>exact .int _ _
 | some b =>
  refine .agg [.int .i64 a,.int .i64 b] [.int .i64 a,.int .i64 b] rfl (fun j x c =>?_) (fun x d =>?_)
  ·match j,c with
   | 0,c=>simp only[List.getElem?_cons_zero,akq]at c;subst c;exact .int _ _
   | 1,c=>simp only[List.getElem?_cons_succ,List.getElem?_cons_zero,akq]at c;subst c;exact .int _ _
   | j+2,c=>simp at c
  ·simp only[ako,alB,or_false]at d;rcases d with rfl|rfl<;>rfl
section
variable {P:Program} {T:Nat->Option Ty} {N:Nat} {M:Nat->Prop} {L:kz} {w0:World} {blk:Nat->Option (Nat×Nat)} {V:Nat->Nat->Prop} {t:Nat->D} {h:Nat->Option Row} {a:Act} {w:World} {e:Nat} {o:Oper} {Γ:Env} {done:List Nat}
def xw{x v ty:Nat}{a:List ec}{vs:List D}{fz lst:Bool}(b:h x=some ⟨v,ty,[.mpc a vs],fz,lst,true⟩)(c:x<PK):EH h x=some ⟨v,ty,[.mpc a vs],fz,lst,true⟩∧∀o,EH h (NK x o)=none:=by
 constructor
 ·rw[sJ (by omega),b];rfl
 ·intro o;rw[sH c,b];rfl
def y8(m:vT N M L w0 blk e done t h a w)(p:∀d:Nat,o.dst=some d->d∉done∧d<N){E:cv}{v:Value}{l:World}(b:jr e h (aW h E.hw))(q:kW N M L w0 (VE N e done h) t h a e o.dst E v l):Fv N M L w0 t h a e (o.dst.toList++done) E v l:=by
 have c:∀x,x∈done->x∈o.dst.toList++done:=fun x k=>akw _ k;obtain⟨f,g,i⟩:=q;have j:∀x n,VE N e done h x n∨(o.dst=some x∧n=e)->VE N e (o.dst.toList++done) (aW h E.hw) x n:=by
  rintro x n (r|⟨k,rfl⟩)
  ·exact r.step b c
  ·exact .inl ⟨(p x k).2,.inr ⟨rfl,akv _ (by rw[k];simp)⟩⟩
 exact⟨f,⟨g.weaken j,m.nv.step b c⟩,i.mono ⟨fun _ g i=>⟨g,i,rfl⟩,j,fun _ _ _ s g i=>⟨⟨s,g,i⟩,rfl,fun _ _=>rfl⟩⟩⟩
def CC{ops:Array Oper}{l:List Oper}{Q:Exit->Act->World->Prop}(j:o.guard=none){K:(Nat->D)->(Nat->Option Row)->Prop}(s:vT N M L w0 blk e done t h a w)(k:fits N o.dst=true)
  (m:ff P o a w fun v c=>∃E:cv,K (fT t o.dst E.val) (aW h E.hw)∧Fv N M L w0 t h a e (o.dst.toList++done) E v c)
  (n:∀f g i c b,K f g->vT N M L w0 b e (o.dst.toList++done) f g i c->wpList P ops Q l i c):wpList P ops Q (o::l) a w:=by
 unfold wpList;have:Region.wanted o (yielded ops a.tmps)=true:=by simp[Region.wanted,j]
 rw[this];simp only[if_true];refine .inl (m.wp fun v c p =>?_);obtain⟨E,q,b,d,r⟩:=p;exact n _ _ _ _ b q ⟨d.inv.agy k r,d.nv⟩
def Tz(hT:jL P T)(Z:Inv N M L w0 blk V t (EH h) a w){ty d x v v' f k el:Nat}{m:Operand}{l:List ec}{vs:List D}{lst:Bool}(ho:o.op=.range ty m)(hd:o.dst=some d)(hV:ky N V d e)(hu:P.underlying ty=some (.map k el))(hm:ev t m=.mp x v)
  (hx:h x=some ⟨v,f,[.mpc l vs],false,lst,true⟩) (al:f<900000) (H:x<PK) (J:d≠x) :
  ff P o a w (kW N M L w0 V t h a e o.dst ⟨.ptr d e 0,[(x,some ⟨v,f,[.mpc l vs],true,true,true⟩),(d,some ⟨e,900000,[.mpc l vs],false,true,true⟩)]⟩):=by
 have an:=eD;have aj:=Z.big;have ao:d<N:=hV.lt;have s:d<PK:=by omega
 obtain⟨aq,ar⟩:=xw hx H;have K:=Z.ev m;rw[hm]at K;have aa:mN (EH h) x v=some (l,vs):=by unfold mN;simp_all
 obtain⟨g,r,h1,h2,h3,h4,h5,ab,O,F,c,p,au,ad,us,hk,hv⟩:=Z.QZ aa K;have Q:=run_range_map (P:=P) w ty k el g.1 F c hu p;have ae:=Z.le (BD (h:=h) d s);have ag:ca h d none x=some ⟨v,f,[.mpc l vs],false,lst,true⟩:=by rw[aC _ _ (Ne.symm J)];exact hx
 obtain⟨R,S⟩:=xw ag H;have hA:=ae.freeze [x];have u:∀z,aW (EH (ca h d none)) (kE (EH (ca h d none)) [x]) z=if z=x then some ⟨v,f,[.mpc l vs],true,true,true⟩ else EH (ca h d none) z:=by
  intro z;rw[CL]
  by_cases hz:z=x
  ·subst hz;rw[if_pos (by simp),if_pos rfl,R];rfl
  simp_all
 generalize av:aW (EH (ca h d none)) (kE (EH (ca h d none)) [x])=A at hA u;have U:=heap_alloc_new w (.mapIter (some g.1) c #[] c);have hold:∀b,b<w.heap.size->(w.alloc (.mapIter (some g.1) c #[] c)).heap[b]? = w.heap[b]?:=fun b G=>Below.heap_alloc w _ b G;have B:=(Below.refl w.heap.size w).alloc (aki _) (.mapIter (some g.1) c #[] c);have W:g.1<w.heap.size:=(alg.1 p).1;have X:A x=some ⟨v,f,[.mpc l vs],true,true,true⟩:=by simp_all
 have aw:¬Own M A blk g.1:=by
  rintro (G|⟨y,r',g',I,C,E,he⟩)
  ·exact hA.notM X h5 G
  ·have:y=x:=hA.inj y x r' _ g' g I X E h5 he;grind
 have hB:=hA.FI (w':=w.alloc (.mapIter (some g.1) c #[] c)) (h1:=A) (old:=none) (d:=d) (e:=e) (r0:=⟨e,900000,[.mpc l vs],false,true,true⟩) (go:=some (w.heap.size,0)) B.os B.tape B.output B.size (fun k hk _=>hold k hk) (fun y I=>by cases I) rfl hV
  ⟨.inl (aki _),.inl ⟨l,vs,rfl,O,fun q=>absurd q (Nat.lt_irrefl _),fun _=>⟨rfl,g.1,F,c,#[],[],List.range l.length,us,U,by grind,by
   grind,(hold _ W).trans p,ad,(aln 900000).symm,akj _,by simp,List.nodup_range,fun i=>by
   rw[alH];constructor
   ·simp_all
   grind,fun i hi=>by simp at hi,fun j k' hj=>by
   grind,fun j y hj=>(hv j y hj).keep fun b q1 q2=>⟨by grind,by
    rintro (G|G)
    ·apply q2;rcases G with G|⟨y,r',g',I,C,E,he⟩
     ·exact .inl G
     ·by_cases ah:y=x
      ·grind
      ·rw[u,if_neg ah]at I;obtain⟨r2,q3,q4⟩:=BD (h:=h) d s y r' I;refine .inr ⟨y,r2,g',q3,?_,E,he⟩;rcases q4 with rfl|⟨_,cs,rfl,_⟩|⟨_,kk,rfl⟩
       ·exact C
       ·exact C
       ·exact C
    omega,hold b q1⟩⟩⟩⟩ rfl rfl (fun _ g' E j x' s' n' hj=>by grind)
 have Y:ca A d (some (⟨e,900000,[.mpc l vs],false,true,true⟩:Row))=EH (aW h [(x,some ⟨v,f,[.mpc l vs],true,true,true⟩),(d,some ⟨e,900000,[.mpc l vs],false,true,true⟩)]):=by
  have ai:aW h [(x,some ⟨v,f,[.mpc l vs],true,true,true⟩),(d,some ⟨e,900000,[.mpc l vs],false,true,true⟩)]=ca (ca h x (some ⟨v,f,[.mpc l vs],true,true,true⟩)) d (some ⟨e,900000,[.mpc l vs],false,true,true⟩):=rfl;rw[ai];have k1:ca (ca h x (some (⟨v,f,[.mpc l vs],true,true,true⟩:Row))) d (some ⟨e,900000,[.mpc l vs],false,true,true⟩) d=some ⟨e,900000,[.mpc l vs],false,true,true⟩:=aB _ _ _;have k2:ca (ca h x (some (⟨v,f,[.mpc l vs],true,true,true⟩:Row))) d (some ⟨e,900000,[.mpc l vs],false,true,true⟩) x=some ⟨v,f,[.mpc l vs],true,true,true⟩:=by rw[aC _ _ (Ne.symm J),aB]
  obtain⟨m1,m2⟩:=xw k1 s;obtain⟨m3,m4⟩:=xw k2 H;have k3:ca h d none d=none:=aB _ _ _;funext z
  by_cases hzd:rt z=d
  ·rcases pB hzd with rfl|⟨o',rfl⟩
   ·rw[aB,m1]
   ·rw[aC _ _ (by grind),m2,u,if_neg (by grind),sH s,k3];rfl
  ·rw[aC _ _ (fun e=>hzd (by rw[e,iV (by omega)])),u]
   by_cases hzx:rt z=x
   ·rcases pB hzx with rfl|⟨o',rfl⟩
    ·rw[if_pos rfl,m3]
    ·rw[if_neg (by grind),m4,S]
   ·rw[if_neg (fun e=>hzx (by rw[e,iV (by omega)]))];exact eC (by rw[aC _ _ hzd,aC _ _ hzd,aC _ _ hzx])
 rw[Y]at hB;refine aP (v:=.pointer (some ⟨w.heap.size,0,none⟩)) (w':=w.alloc (.mapIter (some g.1) c #[] c)) ?_ ⟨ca blk d (some (w.heap.size,0)),hB.weaken fun x n hx =>?_,?_⟩
 ·simp[execOp,ho,ab,Q]
 ·grind
 ·exact⟨.inr ⟨hd,rfl⟩,fun r hr hv=>⟨(w.heap.size,0),aB _ _ _,rfl⟩⟩
def Inv.iter(i:Inv N M L w0 blk V t (EH h) a w){y v ty:Nat}{p:Operand}{e:List ec}{vs:List D}{lst:Bool}(k:Am.ev t p=.ptr y v 0)(l:h y=some ⟨v,ty,[.mpc e vs],false,lst,true⟩)(m:900000<=ty)(f:y<PK) :
  ∃(g:Nat×Nat),blk y=some g∧a.eval p=.pointer (some ⟨g.1,g.2+0,none⟩)∧vs.length=e.length∧Ow w (Own M (EH h) blk) g ty e vs:=by
 obtain⟨c,_⟩:=xw l f;have d:=i.ev p;rw[k]at d;obtain⟨g,n,r⟩:=d.2 _ c rfl;have b:=i.rowIs c n;unfold eJ at b;simp only at b;rcases b with⟨o,q,j,s,_,u⟩|⟨j,_⟩
 ·simp_all
 ·have:=j _ (akC.2 rfl);cases this
def Vb{y v ty b:Nat}{i c:List ec}{vs d:List D}{fz lst fz' a:Bool}(j:h y=some ⟨v,ty,[.mpc i vs],fz,lst,true⟩)(f:y<PK):EH (ca h y (some ⟨v,b,[.mpc c d],fz',a,true⟩))=ca (EH h) y (some ⟨v,b,[.mpc c d],fz',a,true⟩):=by
 obtain⟨_,k⟩:=xw j f;have g:ca h y (some (⟨v,b,[.mpc c d],fz',a,true⟩:Row)) y=some ⟨v,b,[.mpc c d],fz',a,true⟩:=aB _ _ _;obtain⟨l,m⟩:=xw g f;funext z
 by_cases hz:rt z=y
 ·rcases pB hz with rfl|⟨n,rfl⟩
  ·rw[aB,l]
  ·rw[aC _ _ (by have:=iz y n;have:=eD;omega),m,k]
 ·rw[aC _ _ (fun e=>hz (by rw[e,iV (by have:=eD;omega)]))];exact eC (by rw[aC _ _ hz])
def Yc(hI:Inv N M L w0 blk V t (EH h) a w){y v ty:Nat}{p:Operand}{I:List ec}{vs:List D}{lst:Bool}(ho:o.op=.next p false)(hp:ev t p=.ptr y v 0)(hy:h y=some ⟨v,ty,[.mpc I vs],false,lst,true⟩)(az:900000<=ty)(R:y<PK) :
  ff P o a w fun v' w'=>(I.drop (ty-900000)=[]∧kW N M L w0 V t h a e o.dst ⟨.tup [.bool false],[]⟩ v' w') ∨
   ∃(j:Nat)(k:ec)(x:D),(I.drop (ty-900000))[j]? = some k∧(vs.drop (ty-900000))[j]? = some x∧kW N M L w0 V t h a e o.dst ⟨.tup [.bool true,abI k,x],[(y,some ⟨v,900001,[.mpc (k::(I.drop (ty-900000)).eraseIdx j) (x::(vs.drop (ty-900000)).eraseIdx j)],false,lst,true⟩)]⟩ v' w':=by
 obtain⟨g,hg,ae,aq,ar,b,s,f,seen,c,l,us,h1,h2,h3,h4,ag,k1,k2,k3,k4,k5,k6,k7,k8⟩:=hI.iter hp hy az R;rw[ar,akO]at ae;obtain⟨ah,_⟩:=xw hy R;rw[<- k1];have S:(I.drop c.length).length=l.length:=by rw[akz,<- k3,alh];omega
 have aA:(vs.drop c.length).length=l.length:=by rw[akz,aq,<- k3,alh];omega
 rcases run_next_at (P:=P) w o.type g.1 b f f seen s f h1 h4 ag.1 (aki _) with⟨aB,F⟩|⟨B,aD,w1,aE,F⟩
 ·refine aP (v:=.tuple #[.bool false]) (w':=w) (by simp[execOp,ho,ae,F]) (.inl ⟨?_,?_⟩)
  ·have aF:l=[]:=by
    refine List.eq_nil_iff_forall_not_mem.2 fun i T =>?_;obtain⟨e1,G,q2⟩:=(k5 i).1 T;have:e1∈(leftOf s seen).toList:=by
     unfold leftOf;simp only[Array.toList_filter,alE];exact⟨by simpa using Array.mem_of_getElem? G,by rw[q2];rfl⟩
    have h0:(leftOf s seen).toList.length=0:=by simpa using aB
    rw[alq h0]at this;cases this
   rw[aF]at S;exact alq S
  ·refine bs.eL (h:=EH h) hI (b6 (.tup _ [_] rfl fun j x O =>?_))
   match j,O with
   | 0,O=>simp only[List.getElem?_cons_zero,akq]at O;subst O;exact .bool _
   | j+1,O=>simp at O
 ·obtain⟨m1,m2⟩:=mem_left aD;obtain⟨i,T⟩:=akB m1;rw[alk]at T;have aG:i∈l:=(k5 i).2 ⟨B,T,m2⟩;obtain⟨j,O⟩:∃j,j=l.idxOf i:=⟨_,rfl⟩;have aH:j<l.length:=by rw[O];exact List.idxOf_lt_length_of_mem aG
  have aI:l[j]? = some i:=by rw[aku aH];simp[O]
  have au:l.erase i=l.eraseIdx j:=List.erase_eq_eraseIdx_of_idxOf O.symm;have U:(I.drop c.length)[j]? = some ((I.drop c.length)[j]'(by omega)):=aku _;have W:(vs.drop c.length)[j]? = some ((vs.drop c.length)[j]'(by omega)):=aku _;generalize (I.drop c.length)[j]'(by omega)=k at U;generalize (vs.drop c.length)[j]'(by omega)=x at W;have av:∀n:Nat,(c++l)[c.length+n]? = l[n]?:=fun n=>by rw[ak7 (by omega)];congr 1;omega
  have H:B.key=nW k∧B.val=us (c.length+j):=by
   rw[akE]at U;obtain⟨i',J,G,q2,X,q4⟩:=k7 _ _ U;rw[av,aI]at G;cases G;rw[T]at q2;cases q2;exact⟨X,q4⟩
  have Z:RP w (Own M (EH h) blk) x (us (c.length+j)):=by
   rw[akE]at W;exact k8 _ _ W
  have aw:w1.heap=w.heap∧w1.os=w.os∧w1.tape=w.tape∧w1.output=w.output:=by rcases aE with rfl|rfl<;>exact⟨rfl,rfl,rfl,rfl⟩
  obtain⟨p1,p2,p3,p4⟩:=aw;generalize Y:ChangeMaps.setBlock w1 g.1 (.mapIter (some b) f (seen.push B.born) f)=w' at F;have ax:g.1<w.heap.size:=(alg.1 h1).1;have ai:w'.heap=w.heap.setIfInBounds g.1 (.mapIter (some b) f (seen.push B.born) f):=by rw[<- Y,<- p1];rfl
  have aj:w'.heap.size=w.heap.size:=by rw[ai];simp
  have aa:w'.heap[g.1]? = some (.mapIter (some b) f (seen.push B.born) f):=by rw[ai,Array.getElem?_setIfInBounds,if_pos rfl,if_pos ax]
  have hheap:∀Q,Q≠g.1->w'.heap[Q]? = w.heap[Q]?:=fun Q hb=>by rw[ai,Array.getElem?_setIfInBounds,if_neg (Ne.symm hb)]
  have ab:Own M (EH h) blk g.1:=.inr ⟨y,_,g,ah,rfl,hg,rfl⟩;have aJ:b≠g.1:=fun e=>h3 (e ▸ ab);have al:∀{d:D}{u:Value},RP w (Own M (EH h) blk) d u->RP w' (Own M (EH h) blk) d u:=fun hr=>hr.keep fun b G q2=>⟨by rw[aj];exact G,q2,hheap b (fun e=>q2 (e ▸ ab))⟩;have ad:∀{n:Nat}{J:MapEntry},s[n]? = some J->(J.born==B.born)=decide (n=i):=by
   intro n J A
   by_cases an:n=i
   ·subst an;rw[T]at A;cases A;simp
   ·have:J.born≠B.born:=by
     intro he;have aK:=ag.2.1;have a1:(s.toList.map (·.born))[n]? = some J.born:=by simp[A]
     have a2:(s.toList.map (·.born))[i]? = some B.born:=by simp[T]
     have aL:=(akI.1 a1).1;have aM:=(akI.1 a2).1;exact an ((List.getElem_inj (h₀:=aL) (h₁:=aM) aK).1 (by
      have b1:=(akI.1 a1).2;have b2:=(akI.1 a2).2;rw[b1,b2,he]))
    simp[an,this]
  have hB:=hI.lU (x:=y) (r:=⟨v,ty,[.mpc I vs],false,lst,true⟩) (r0:=⟨v,900001,[.mpc (k::(I.drop c.length).eraseIdx j) (x::(vs.drop c.length).eraseIdx j)],false,lst,true⟩) (w':=w') ah rfl rfl
   (by rw[<- Y];exact p2) (by rw[<- Y];exact p3) (by rw[<- Y];exact p4) (by rw[aj];exact aki _) (fun Q _ hb=>hheap Q (hb g hg)) (by
   rw[hg];refine⟨by simp[World.shape?,aa,h1],.inl ⟨_,_,rfl,?_,fun q=>absurd q (by show ¬(900001<900000);omega),fun _=>⟨ar,b,s,f,seen.push B.born,[i],l.eraseIdx j,fun m=>if m=0 then B.val else us (c.length+(if m-1<j then m-1 else m)),aa,by rw[aj];exact h2,h3,(hheap b aJ).trans h4,ag,(al5 (n:=900000) (m:=1)).symm,aki _,?_,?_,fun n =>?_,fun n A =>?_,fun m k' E =>?_,fun m x' E =>?_⟩⟩⟩
   ·simp only[List.length_cons,List.length_eraseIdx];rw[S,aA]
   ·simp only[alh,List.length_cons,List.length_nil,List.length_eraseIdx];rw[S];split<;>omega
   ·rw[<- au];exact k4.erase _
   ·rw[<- au,k4.mem_erase_iff,k5];constructor
    ·rintro⟨G,J,q2,X⟩;exact⟨J,q2,by rw[contains_push,X,ad q2];simpa using G⟩
    ·rintro⟨J,q2,X⟩;rw[contains_push,ad q2,Bool.or_eq_false_iff,decide_eq_false_iff_not]at X;exact⟨X.2,J,q2,X.1⟩
   ·simp only[akC]at A;subst A;exact⟨B,T,by simp⟩
   ·cases m with
    | zero =>
     simp only[List.getElem?_cons_zero,akq]at E;subst E;exact⟨i,B,rfl,T,H.1,by simp⟩
    | succ m =>
     rw[ale,List.getElem?_eraseIdx]at E;have K:(I.drop c.length)[if m<j then m else m+1]? = some k':=by
      by_cases C:m<j
      ·rw[if_pos C]at E ⊢;exact E
      ·rw[if_neg C]at E ⊢;exact E
     rw[akE]at K;obtain⟨i',J,G,q2,X,q4⟩:=k7 _ _ K;rw[av]at G;refine⟨i',J,?_,q2,X,?_⟩
     ·rw[List.singleton_append,ale,List.getElem?_eraseIdx]
      by_cases C:m<j
      ·rw[if_pos C]at G ⊢;exact G
      ·rw[if_neg C]at G ⊢;exact G
     ·simp only[Nat.add_eq_zero_iff,ama,and_false,if_false,alQ];exact q4
   ·cases m with
    | zero =>
     simp only[List.getElem?_cons_zero,akq]at E;subst E;simp only[if_true];rw[H.2];exact al Z
    | succ m =>
     rw[ale,List.getElem?_eraseIdx]at E;have K:(vs.drop c.length)[if m<j then m else m+1]? = some x':=by
      by_cases C:m<j
      ·rw[if_pos C]at E ⊢;exact E
      ·rw[if_neg C]at E ⊢;exact E
     rw[akE]at K;simp only[Nat.add_eq_zero_iff,ama,and_false,if_false,alQ];exact al (k8 _ _ K)) (fun hh=>by cases hh) (fun _ g' ao j' x' s' n' aN=>by cases j'<;>simp at aN)
  refine aP (v:=.tuple #[.bool true,B.key,B.val]) (w':=w') (by simp[execOp,ho,ae,F]) (.inr ⟨j,k,x,U,W,blk,?_,?_⟩)
  ·show Inv _ _ _ _ _ _ _ (EH (ca h y (some _))) _ _;rw[Vb hy R];exact hB.weaken fun _ _ h =>.inl h
  ·have aO:∀Q,Own M (EH (ca h y (some ⟨v,900001,[.mpc (k::(I.drop c.length).eraseIdx j) (x::(vs.drop c.length).eraseIdx j)],false,lst,true⟩))) blk Q->Own M (EH h) blk Q:=by
    rw[Vb hy R];rintro Q (hb|⟨z,r',g',hz,aQ,ao,he⟩)
    ·exact .inl hb
    ·by_cases ay:z=y
     ·subst ay;exact .inr ⟨z,_,g',ah,rfl,ao,he⟩
     ·rw[aC _ _ ay]at hz;exact .inr ⟨z,r',g',hz,aQ,ao,he⟩
   refine b6 (.tup _ [.bool true,B.key,B.val] rfl fun n d A =>?_)
   match n,A with
   | 0,A=>simp only[List.getElem?_cons_zero,akq]at A;subst A;exact .bool _
   | 1,A =>
    simp only[List.getElem?_cons_succ,List.getElem?_cons_zero,akq]at A;subst A;simp only[ald,alc];rw[H.1];exact QC k
   | 2,A =>
    simp only[List.getElem?_cons_succ,List.getElem?_cons_zero,akq]at A;subst A;simp only[ald,alc];rw[H.2];exact (al Z).less aO
   | n+3,A=>simp at A
def Tv(E:Inv N M L w0 blk V t (EH h) a w){y v:Nat}{p:Operand}{k:ec}{x:D}{ks:List ec}{vs:List D}{lst:Bool}(J:o.op=.entry p)(K:ev t p=.ptr y v 0)(O:h y=some ⟨v,900001,[.mpc (k::ks) (x::vs)],false,lst,true⟩)(u:y<PK) :
  ff P o a w (kW N M L w0 V t h a e o.dst ⟨.tup [abI k,x],[]⟩):=by
 obtain⟨g,Z,m,F,z,b,q,f,seen,c,l,us,G,h2,h3,Q,A,R,k2,k3,k4,k5,S,T,k8⟩:=E.iter K O (by omega) u;rw[z,akO]at m;have B:c.length=1:=by rw[R]
 match c,B with
 | [i],_ =>
  obtain⟨r,U,W⟩:=S i (by simp);obtain⟨i',e',H,I,X,r4⟩:=T 0 k rfl;simp only[List.singleton_append,List.getElem?_cons_zero,akq]at H;subst H;rw[U]at I;cases I;obtain⟨Y,C⟩:=Array.back?_eq_some_iff.1 W;rw[C]at G;have s:=run_entry_at (P:=P) w g.1 b f Y q f r G Q (by grind) A.2.1;refine aP (v:=.tuple #[r.key,r.val]) (w':=w) (by simp[execOp,J,m,s]) (bs.eL (h:=EH h) E (b6 (.tup _ [r.key,r.val] rfl fun n d j =>?_)))
  match n,j with
  | 0,j =>
   simp only[List.getElem?_cons_zero,akq]at j;subst j;simp only[alc];rw[X];exact QC k
  | 1,j =>
   simp_all
  | n+2,j=>simp at j
end
def tab(t:Nat):Option Ty :=
 match t with
 | 2=>some ⟨.int .i64,1,8,[.int .i64 0],false⟩
 | 3=>some ⟨.int .i64,1,8,[.int .i64 0],false⟩
 | 4=>some ⟨.bool,1,1,[.bool false],false⟩
 | 5=>some ⟨.int .u8,1,1,[.int .u8 0],false⟩
 | 9=>some ⟨.str,1,16,[.string ⟨#[]⟩],false⟩
 | 12=>some ⟨.int .u64,1,8,[.int .u64 0],false⟩
 | 21=>some ⟨.int .i32,1,4,[.int .i32 0],false⟩
 | 22=>some ⟨.slice 3,1,24,[.slice none 0 0],false⟩
 | 23=>some ⟨.slice 57,1,24,[.slice none 0 0],false⟩
 | 24=>some ⟨.struct [(22,0),(23,1)],2,48,[.slice none 0 0,.slice none 0 0],false⟩
 | 25=>some ⟨.struct [(22,0),(23,1)],2,48,[.slice none 0 0,.slice none 0 0],false⟩
 | 26=>some ⟨.slice 27,1,24,[.slice none 0 0],false⟩
 | 27=>some ⟨.slice 41,1,24,[.slice none 0 0],false⟩
 | 31=>some ⟨.int .i64,1,8,[.int .i64 0],false⟩
 | 38=>some ⟨.struct [(3,0),(22,1)],2,32,[.int .i64 0,.slice none 0 0],false⟩
 | 39=>some ⟨.struct [(3,0),(22,1)],2,32,[.int .i64 0,.slice none 0 0],false⟩
 | 40=>some ⟨.struct [(39,0),(39,2)],4,64,[.int .i64 0,.slice none 0 0,.int .i64 0,.slice none 0 0],false⟩
 | 41=>some ⟨.struct [(39,0),(39,2)],4,64,[.int .i64 0,.slice none 0 0,.int .i64 0,.slice none 0 0],false⟩
 | 51=>some ⟨.slice 83,1,24,[.slice none 0 0],false⟩
 | 52=>some ⟨.slice 60,1,24,[.slice none 0 0],false⟩
 | 53=>some ⟨.struct [(51,0),(52,1),(26,2)],3,72,[.slice none 0 0,.slice none 0 0,.slice none 0 0],false⟩
 | 54=>some ⟨.struct [(51,0),(52,1),(26,2)],3,72,[.slice none 0 0,.slice none 0 0,.slice none 0 0],false⟩
 | 55=>some ⟨.slice 72,1,24,[.slice none 0 0],false⟩
 | 56=>some ⟨.struct [(54,0),(55,3),(22,4)],5,120,[.slice none 0 0,.slice none 0 0,.slice none 0 0,.slice none 0 0,.slice none 0 0],false⟩
 | 57=>some ⟨.struct [(54,0),(55,3),(22,4)],5,120,[.slice none 0 0,.slice none 0 0,.slice none 0 0,.slice none 0 0,.slice none 0 0],false⟩
 | 59=>some ⟨.struct [(3,0),(3,1),(3,2),(9,3)],4,40,[.int .i64 0,.int .i64 0,.int .i64 0,.string ⟨#[]⟩],true⟩
 | 60=>some ⟨.struct [(3,0),(3,1),(3,2),(9,3)],4,40,[.int .i64 0,.int .i64 0,.int .i64 0,.string ⟨#[]⟩],true⟩
 | 63=>some ⟨.int .u16,1,2,[.int .u16 0],false⟩
 | 64=>some ⟨.slice 118,1,24,[.slice none 0 0],false⟩
 | 65=>some ⟨.struct [(3,0),(64,1)],2,32,[.int .i64 0,.slice none 0 0],false⟩
 | 66=>some ⟨.struct [(3,0),(64,1)],2,32,[.int .i64 0,.slice none 0 0],false⟩
 | 69=>some ⟨.slice 4,1,24,[.slice none 0 0],false⟩
 | 71=>some ⟨.struct [(3,0),(3,1)],2,16,[.int .i64 0,.int .i64 0],true⟩
 | 72=>some ⟨.struct [(3,0),(3,1)],2,16,[.int .i64 0,.int .i64 0],true⟩
 | 77=>some ⟨.slice 133,1,24,[.slice none 0 0],false⟩
 | 82=>some ⟨.struct [(3,0),(3,1),(3,2)],3,24,[.int .i64 0,.int .i64 0,.int .i64 0],true⟩
 | 83=>some ⟨.struct [(3,0),(3,1),(3,2)],3,24,[.int .i64 0,.int .i64 0,.int .i64 0],true⟩
 | 113=>some ⟨.map 116 41,1,8,[.map none],false⟩
 | 115=>some ⟨.struct [(3,0),(3,1)],2,16,[.int .i64 0,.int .i64 0],true⟩
 | 116=>some ⟨.struct [(3,0),(3,1)],2,16,[.int .i64 0,.int .i64 0],true⟩
 | 117=>some ⟨.struct [(3,0),(3,1),(41,2)],6,80,[.int .i64 0,.int .i64 0,.int .i64 0,.slice none 0 0,.int .i64 0,.slice none 0 0],false⟩
 | 118=>some ⟨.struct [(3,0),(3,1),(41,2)],6,80,[.int .i64 0,.int .i64 0,.int .i64 0,.slice none 0 0,.int .i64 0,.slice none 0 0],false⟩
 | 124=>some ⟨.slice 128,1,24,[.slice none 0 0],false⟩
 | 126=>some ⟨.slice 130,1,24,[.slice none 0 0],false⟩
 | 127=>some ⟨.struct [(41,0),(126,4)],5,88,[.int .i64 0,.slice none 0 0,.int .i64 0,.slice none 0 0,.slice none 0 0],false⟩
 | 128=>some ⟨.struct [(41,0),(126,4)],5,88,[.int .i64 0,.slice none 0 0,.int .i64 0,.slice none 0 0,.slice none 0 0],false⟩
 | 129=>some ⟨.struct [(3,0),(41,1)],5,72,[.int .i64 0,.int .i64 0,.slice none 0 0,.int .i64 0,.slice none 0 0],false⟩
 | 130=>some ⟨.struct [(3,0),(41,1)],5,72,[.int .i64 0,.int .i64 0,.slice none 0 0,.int .i64 0,.slice none 0 0],false⟩
 | 132=>some ⟨.struct [(3,0),(41,1)],5,72,[.int .i64 0,.int .i64 0,.slice none 0 0,.int .i64 0,.slice none 0 0],false⟩
 | 133=>some ⟨.struct [(3,0),(41,1)],5,72,[.int .i64 0,.int .i64 0,.slice none 0 0,.int .i64 0,.slice none 0 0],false⟩
 | 152=>some ⟨.int .u64,1,8,[.int .u64 0],false⟩
 | 153=>some ⟨.int .u64,1,8,[.int .u64 0],false⟩
 | 183=>some ⟨.int .i64,1,8,[.int .i64 0],false⟩
 | 190=>some ⟨.int .u32,1,4,[.int .u32 0],false⟩
 | 199=>some ⟨.slice 22,1,24,[.slice none 0 0],false⟩
 | 207=>some ⟨.int .u64,1,8,[.int .u64 0],false⟩
 | _=>none
def Xu:tab 3=some ⟨.int .i64,1,8,[.int .i64 0],false⟩:=rfl
def afN:tab 4=some ⟨.bool,1,1,[.bool false],false⟩:=rfl
def Xv:tab 5=some ⟨.int .u8,1,1,[.int .u8 0],false⟩:=rfl
def ac0:tab 9=some ⟨.str,1,16,[.string ⟨#[]⟩],false⟩:=rfl
def NZ:tab 22=some ⟨.slice 3,1,24,[.slice none 0 0],false⟩:=rfl
def UF:tab 23=some ⟨.slice 57,1,24,[.slice none 0 0],false⟩:=rfl
def N0:tab 25=some ⟨.struct [(22,0),(23,1)],2,48,[.slice none 0 0,.slice none 0 0],false⟩:=rfl
def N1:tab 26=some ⟨.slice 27,1,24,[.slice none 0 0],false⟩:=rfl
def N2:tab 27=some ⟨.slice 41,1,24,[.slice none 0 0],false⟩:=rfl
def UG:tab 39=some ⟨.struct [(3,0),(22,1)],2,32,[.int .i64 0,.slice none 0 0],false⟩:=rfl
def N3:tab 41=some ⟨.struct [(39,0),(39,2)],4,64,[.int .i64 0,.slice none 0 0,.int .i64 0,.slice none 0 0],false⟩:=rfl
def UH:tab 51=some ⟨.slice 83,1,24,[.slice none 0 0],false⟩:=rfl
def UI:tab 52=some ⟨.slice 60,1,24,[.slice none 0 0],false⟩:=rfl
def UJ:tab 54=some ⟨.struct [(51,0),(52,1),(26,2)],3,72,[.slice none 0 0,.slice none 0 0,.slice none 0 0],false⟩:=rfl
def UK:tab 55=some ⟨.slice 72,1,24,[.slice none 0 0],false⟩:=rfl
def N4:tab 57=some ⟨.struct [(54,0),(55,3),(22,4)],5,120,[.slice none 0 0,.slice none 0 0,.slice none 0 0,.slice none 0 0,.slice none 0 0],false⟩:=rfl
def N5:tab 60=some ⟨.struct [(3,0),(3,1),(3,2),(9,3)],4,40,[.int .i64 0,.int .i64 0,.int .i64 0,.string ⟨#[]⟩],true⟩:=rfl
def UL:tab 63=some ⟨.int .u16,1,2,[.int .u16 0],false⟩:=rfl
def acX:tab 64=some ⟨.slice 118,1,24,[.slice none 0 0],false⟩:=rfl
def acY:tab 66=some ⟨.struct [(3,0),(64,1)],2,32,[.int .i64 0,.slice none 0 0],false⟩:=rfl
def acZ:tab 69=some ⟨.slice 4,1,24,[.slice none 0 0],false⟩:=rfl
def N6:tab 72=some ⟨.struct [(3,0),(3,1)],2,16,[.int .i64 0,.int .i64 0],true⟩:=rfl
def N7:tab 83=some ⟨.struct [(3,0),(3,1),(3,2)],3,24,[.int .i64 0,.int .i64 0,.int .i64 0],true⟩:=rfl
def Xk:tab 113=some ⟨.map 116 41,1,8,[.map none],false⟩:=rfl
def Xl:tab 116=some ⟨.struct [(3,0),(3,1)],2,16,[.int .i64 0,.int .i64 0],true⟩:=rfl
def Xm:tab 118=some ⟨.struct [(3,0),(3,1),(41,2)],6,80,[.int .i64 0,.int .i64 0,.int .i64 0,.slice none 0 0,.int .i64 0,.slice none 0 0],false⟩:=rfl
def Xn:tab 124=some ⟨.slice 128,1,24,[.slice none 0 0],false⟩:=rfl
def Xo:tab 126=some ⟨.slice 130,1,24,[.slice none 0 0],false⟩:=rfl
def NY:tab 128=some ⟨.struct [(41,0),(126,4)],5,88,[.int .i64 0,.slice none 0 0,.int .i64 0,.slice none 0 0,.slice none 0 0],false⟩:=rfl
def Xp:tab 130=some ⟨.struct [(3,0),(41,1)],5,72,[.int .i64 0,.int .i64 0,.slice none 0 0,.int .i64 0,.slice none 0 0],false⟩:=rfl
def Xq:tab 152=some ⟨.int .u64,1,8,[.int .u64 0],false⟩:=rfl
def Xr:tab 153=some ⟨.int .u64,1,8,[.int .u64 0],false⟩:=rfl
def Xs:tab 190=some ⟨.int .u32,1,4,[.int .u32 0],false⟩:=rfl
def Xt:tab 199=some ⟨.slice 22,1,24,[.slice none 0 0],false⟩:=rfl
def ajK:eG prog 2 ⟨.int .i64,1,8,[.int .i64 0],false⟩:=⟨by kernel_rfl,by kernel_rfl,by kernel_rfl,fun h=>by cases h⟩
def ajL:eG prog 3 ⟨.int .i64,1,8,[.int .i64 0],false⟩:=⟨by kernel_rfl,by kernel_rfl,by kernel_rfl,fun h=>by cases h⟩
def ajM:eG prog 4 ⟨.bool,1,1,[.bool false],false⟩:=⟨by kernel_rfl,by kernel_rfl,by kernel_rfl,fun h=>by cases h⟩
def ajN:eG prog 5 ⟨.int .u8,1,1,[.int .u8 0],false⟩:=⟨by kernel_rfl,by kernel_rfl,by kernel_rfl,fun h=>by cases h⟩
def ajO:eG prog 9 ⟨.str,1,16,[.string ⟨#[]⟩],false⟩:=⟨by kernel_rfl,by kernel_rfl,by kernel_rfl,fun h=>by cases h⟩
def aix:eG prog 12 ⟨.int .u64,1,8,[.int .u64 0],false⟩:=⟨by kernel_rfl,by kernel_rfl,by kernel_rfl,fun h=>by cases h⟩
def aiy:eG prog 21 ⟨.int .i32,1,4,[.int .i32 0],false⟩:=⟨by kernel_rfl,by kernel_rfl,by kernel_rfl,fun h=>by cases h⟩
def aiz:eG prog 22 ⟨.slice 3,1,24,[.slice none 0 0],false⟩:=⟨by kernel_rfl,by kernel_rfl,by kernel_rfl,fun h=>by cases h⟩
def aiA:eG prog 23 ⟨.slice 57,1,24,[.slice none 0 0],false⟩:=⟨by kernel_rfl,by kernel_rfl,by kernel_rfl,fun h=>by cases h⟩
def aiB:eG prog 24 ⟨.struct [(22,0),(23,1)],2,48,[.slice none 0 0,.slice none 0 0],false⟩:=⟨by kernel_rfl,by kernel_rfl,by kernel_rfl,fun h=>by cases h⟩
def aiC:eG prog 25 ⟨.struct [(22,0),(23,1)],2,48,[.slice none 0 0,.slice none 0 0],false⟩:=⟨by kernel_rfl,by kernel_rfl,by kernel_rfl,fun h=>by cases h⟩
def aiD:eG prog 26 ⟨.slice 27,1,24,[.slice none 0 0],false⟩:=⟨by kernel_rfl,by kernel_rfl,by kernel_rfl,fun h=>by cases h⟩
def aiE:eG prog 27 ⟨.slice 41,1,24,[.slice none 0 0],false⟩:=⟨by kernel_rfl,by kernel_rfl,by kernel_rfl,fun h=>by cases h⟩
def aiF:eG prog 31 ⟨.int .i64,1,8,[.int .i64 0],false⟩:=⟨by kernel_rfl,by kernel_rfl,by kernel_rfl,fun h=>by cases h⟩
def aiG:eG prog 38 ⟨.struct [(3,0),(22,1)],2,32,[.int .i64 0,.slice none 0 0],false⟩:=⟨by kernel_rfl,by kernel_rfl,by kernel_rfl,fun h=>by cases h⟩
def aiH:eG prog 39 ⟨.struct [(3,0),(22,1)],2,32,[.int .i64 0,.slice none 0 0],false⟩:=⟨by kernel_rfl,by kernel_rfl,by kernel_rfl,fun h=>by cases h⟩
def aiI:eG prog 40 ⟨.struct [(39,0),(39,2)],4,64,[.int .i64 0,.slice none 0 0,.int .i64 0,.slice none 0 0],false⟩:=⟨by kernel_rfl,by kernel_rfl,by kernel_rfl,fun h=>by cases h⟩
def aiJ:eG prog 41 ⟨.struct [(39,0),(39,2)],4,64,[.int .i64 0,.slice none 0 0,.int .i64 0,.slice none 0 0],false⟩:=⟨by kernel_rfl,by kernel_rfl,by kernel_rfl,fun h=>by cases h⟩
def aiK:eG prog 51 ⟨.slice 83,1,24,[.slice none 0 0],false⟩:=⟨by kernel_rfl,by kernel_rfl,by kernel_rfl,fun h=>by cases h⟩
def aiL:eG prog 52 ⟨.slice 60,1,24,[.slice none 0 0],false⟩:=⟨by kernel_rfl,by kernel_rfl,by kernel_rfl,fun h=>by cases h⟩
def aiM:eG prog 53 ⟨.struct [(51,0),(52,1),(26,2)],3,72,[.slice none 0 0,.slice none 0 0,.slice none 0 0],false⟩:=⟨by kernel_rfl,by kernel_rfl,by kernel_rfl,fun h=>by cases h⟩
def aiN:eG prog 54 ⟨.struct [(51,0),(52,1),(26,2)],3,72,[.slice none 0 0,.slice none 0 0,.slice none 0 0],false⟩:=⟨by kernel_rfl,by kernel_rfl,by kernel_rfl,fun h=>by cases h⟩
def aiO:eG prog 55 ⟨.slice 72,1,24,[.slice none 0 0],false⟩:=⟨by kernel_rfl,by kernel_rfl,by kernel_rfl,fun h=>by cases h⟩
def aiP:eG prog 56 ⟨.struct [(54,0),(55,3),(22,4)],5,120,[.slice none 0 0,.slice none 0 0,.slice none 0 0,.slice none 0 0,.slice none 0 0],false⟩:=⟨by kernel_rfl,by kernel_rfl,by kernel_rfl,fun h=>by cases h⟩
def aiQ:eG prog 57 ⟨.struct [(54,0),(55,3),(22,4)],5,120,[.slice none 0 0,.slice none 0 0,.slice none 0 0,.slice none 0 0,.slice none 0 0],false⟩:=⟨by kernel_rfl,by kernel_rfl,by kernel_rfl,fun h=>by cases h⟩
def aiR:eG prog 59 ⟨.struct [(3,0),(3,1),(3,2),(9,3)],4,40,[.int .i64 0,.int .i64 0,.int .i64 0,.string ⟨#[]⟩],true⟩:=⟨by kernel_rfl,by kernel_rfl,by kernel_rfl,fun _=>⟨by kernel_rfl,by kernel_rfl,by kernel_rfl⟩⟩
def aiS:eG prog 60 ⟨.struct [(3,0),(3,1),(3,2),(9,3)],4,40,[.int .i64 0,.int .i64 0,.int .i64 0,.string ⟨#[]⟩],true⟩:=⟨by kernel_rfl,by kernel_rfl,by kernel_rfl,fun _=>⟨by kernel_rfl,by kernel_rfl,by kernel_rfl⟩⟩
def aiT:eG prog 63 ⟨.int .u16,1,2,[.int .u16 0],false⟩:=⟨by kernel_rfl,by kernel_rfl,by kernel_rfl,fun h=>by cases h⟩
def aiU:eG prog 64 ⟨.slice 118,1,24,[.slice none 0 0],false⟩:=⟨by kernel_rfl,by kernel_rfl,by kernel_rfl,fun h=>by cases h⟩
def aiV:eG prog 65 ⟨.struct [(3,0),(64,1)],2,32,[.int .i64 0,.slice none 0 0],false⟩:=⟨by kernel_rfl,by kernel_rfl,by kernel_rfl,fun h=>by cases h⟩
def aiW:eG prog 66 ⟨.struct [(3,0),(64,1)],2,32,[.int .i64 0,.slice none 0 0],false⟩:=⟨by kernel_rfl,by kernel_rfl,by kernel_rfl,fun h=>by cases h⟩
def aiX:eG prog 69 ⟨.slice 4,1,24,[.slice none 0 0],false⟩:=⟨by kernel_rfl,by kernel_rfl,by kernel_rfl,fun h=>by cases h⟩
def aiY:eG prog 71 ⟨.struct [(3,0),(3,1)],2,16,[.int .i64 0,.int .i64 0],true⟩:=⟨by kernel_rfl,by kernel_rfl,by kernel_rfl,fun _=>⟨by kernel_rfl,by kernel_rfl,by kernel_rfl⟩⟩
def aiZ:eG prog 72 ⟨.struct [(3,0),(3,1)],2,16,[.int .i64 0,.int .i64 0],true⟩:=⟨by kernel_rfl,by kernel_rfl,by kernel_rfl,fun _=>⟨by kernel_rfl,by kernel_rfl,by kernel_rfl⟩⟩
def ai0:eG prog 77 ⟨.slice 133,1,24,[.slice none 0 0],false⟩:=⟨by kernel_rfl,by kernel_rfl,by kernel_rfl,fun h=>by cases h⟩
def ai1:eG prog 82 ⟨.struct [(3,0),(3,1),(3,2)],3,24,[.int .i64 0,.int .i64 0,.int .i64 0],true⟩:=⟨by kernel_rfl,by kernel_rfl,by kernel_rfl,fun _=>⟨by kernel_rfl,by kernel_rfl,by kernel_rfl⟩⟩
def ai2:eG prog 83 ⟨.struct [(3,0),(3,1),(3,2)],3,24,[.int .i64 0,.int .i64 0,.int .i64 0],true⟩:=⟨by kernel_rfl,by kernel_rfl,by kernel_rfl,fun _=>⟨by kernel_rfl,by kernel_rfl,by kernel_rfl⟩⟩
def agK:eG prog 113 ⟨.map 116 41,1,8,[.map none],false⟩:=⟨by kernel_rfl,by kernel_rfl,by kernel_rfl,fun h=>by cases h⟩
def agL:eG prog 115 ⟨.struct [(3,0),(3,1)],2,16,[.int .i64 0,.int .i64 0],true⟩:=⟨by kernel_rfl,by kernel_rfl,by kernel_rfl,fun _=>⟨by kernel_rfl,by kernel_rfl,by kernel_rfl⟩⟩
def agM:eG prog 116 ⟨.struct [(3,0),(3,1)],2,16,[.int .i64 0,.int .i64 0],true⟩:=⟨by kernel_rfl,by kernel_rfl,by kernel_rfl,fun _=>⟨by kernel_rfl,by kernel_rfl,by kernel_rfl⟩⟩
def agN:eG prog 117 ⟨.struct [(3,0),(3,1),(41,2)],6,80,[.int .i64 0,.int .i64 0,.int .i64 0,.slice none 0 0,.int .i64 0,.slice none 0 0],false⟩:=⟨by kernel_rfl,by kernel_rfl,by kernel_rfl,fun h=>by cases h⟩
def agO:eG prog 118 ⟨.struct [(3,0),(3,1),(41,2)],6,80,[.int .i64 0,.int .i64 0,.int .i64 0,.slice none 0 0,.int .i64 0,.slice none 0 0],false⟩:=⟨by kernel_rfl,by kernel_rfl,by kernel_rfl,fun h=>by cases h⟩
def agP:eG prog 124 ⟨.slice 128,1,24,[.slice none 0 0],false⟩:=⟨by kernel_rfl,by kernel_rfl,by kernel_rfl,fun h=>by cases h⟩
def agQ:eG prog 126 ⟨.slice 130,1,24,[.slice none 0 0],false⟩:=⟨by kernel_rfl,by kernel_rfl,by kernel_rfl,fun h=>by cases h⟩
def agR:eG prog 127 ⟨.struct [(41,0),(126,4)],5,88,[.int .i64 0,.slice none 0 0,.int .i64 0,.slice none 0 0,.slice none 0 0],false⟩:=⟨by kernel_rfl,by kernel_rfl,by kernel_rfl,fun h=>by cases h⟩
def agS:eG prog 128 ⟨.struct [(41,0),(126,4)],5,88,[.int .i64 0,.slice none 0 0,.int .i64 0,.slice none 0 0,.slice none 0 0],false⟩:=⟨by kernel_rfl,by kernel_rfl,by kernel_rfl,fun h=>by cases h⟩
def agT:eG prog 129 ⟨.struct [(3,0),(41,1)],5,72,[.int .i64 0,.int .i64 0,.slice none 0 0,.int .i64 0,.slice none 0 0],false⟩:=⟨by kernel_rfl,by kernel_rfl,by kernel_rfl,fun h=>by cases h⟩
def agU:eG prog 130 ⟨.struct [(3,0),(41,1)],5,72,[.int .i64 0,.int .i64 0,.slice none 0 0,.int .i64 0,.slice none 0 0],false⟩:=⟨by kernel_rfl,by kernel_rfl,by kernel_rfl,fun h=>by cases h⟩
def agV:eG prog 132 ⟨.struct [(3,0),(41,1)],5,72,[.int .i64 0,.int .i64 0,.slice none 0 0,.int .i64 0,.slice none 0 0],false⟩:=⟨by kernel_rfl,by kernel_rfl,by kernel_rfl,fun h=>by cases h⟩
def agW:eG prog 133 ⟨.struct [(3,0),(41,1)],5,72,[.int .i64 0,.int .i64 0,.slice none 0 0,.int .i64 0,.slice none 0 0],false⟩:=⟨by kernel_rfl,by kernel_rfl,by kernel_rfl,fun h=>by cases h⟩
def agX:eG prog 152 ⟨.int .u64,1,8,[.int .u64 0],false⟩:=⟨by kernel_rfl,by kernel_rfl,by kernel_rfl,fun h=>by cases h⟩
def agY:eG prog 153 ⟨.int .u64,1,8,[.int .u64 0],false⟩:=⟨by kernel_rfl,by kernel_rfl,by kernel_rfl,fun h=>by cases h⟩
def agZ:eG prog 183 ⟨.int .i64,1,8,[.int .i64 0],false⟩:=⟨by kernel_rfl,by kernel_rfl,by kernel_rfl,fun h=>by cases h⟩
def ag0:eG prog 190 ⟨.int .u32,1,4,[.int .u32 0],false⟩:=⟨by kernel_rfl,by kernel_rfl,by kernel_rfl,fun h=>by cases h⟩
def ag1:eG prog 199 ⟨.slice 22,1,24,[.slice none 0 0],false⟩:=⟨by kernel_rfl,by kernel_rfl,by kernel_rfl,fun h=>by cases h⟩
def ag2:eG prog 207 ⟨.int .u64,1,8,[.int .u64 0],false⟩:=⟨by kernel_rfl,by kernel_rfl,by kernel_rfl,fun h=>by cases h⟩
def tok:jL prog tab:=by
 intro t τ h;unfold tab at h;split at h
 ·cases h;exact ajK
 ·cases h;exact ajL
 ·cases h;exact ajM
 ·cases h;exact ajN
 ·cases h;exact ajO
 ·cases h;exact aix
 ·cases h;exact aiy
 ·cases h;exact aiz
 ·cases h;exact aiA
 ·cases h;exact aiB
 ·cases h;exact aiC
 ·cases h;exact aiD
 ·cases h;exact aiE
 ·cases h;exact aiF
 ·cases h;exact aiG
 ·cases h;exact aiH
 ·cases h;exact aiI
 ·cases h;exact aiJ
 ·cases h;exact aiK
 ·cases h;exact aiL
 ·cases h;exact aiM
 ·cases h;exact aiN
 ·cases h;exact aiO
 ·cases h;exact aiP
 ·cases h;exact aiQ
 ·cases h;exact aiR
 ·cases h;exact aiS
 ·cases h;exact aiT
 ·cases h;exact aiU
 ·cases h;exact aiV
 ·cases h;exact aiW
 ·cases h;exact aiX
 ·cases h;exact aiY
 ·cases h;exact aiZ
 ·cases h;exact ai0
 ·cases h;exact ai1
 ·cases h;exact ai2
 ·cases h;exact agK
 ·cases h;exact agL
 ·cases h;exact agM
 ·cases h;exact agN
 ·cases h;exact agO
 ·cases h;exact agP
 ·cases h;exact agQ
 ·cases h;exact agR
 ·cases h;exact agS
 ·cases h;exact agT
 ·cases h;exact agU
 ·cases h;exact agV
 ·cases h;exact agW
 ·cases h;exact agX
 ·cases h;exact agY
 ·cases h;exact agZ
 ·cases h;exact ag0
 ·cases h;exact ag1
 ·cases h;exact ag2
 ·cases h
def mixed:Tryz.prog.follows .mixedOrders=true:=by kernel_rfl
def vv{α:Type}(x:Option α)(K:α->Prop):Prop :=
 match x with
 | some a=>K a
 | none=>False
def br(b:Bool)(A B:Prop):Prop:=(b=true->A)∧(b=false->B)
def U4(d:D)(t:Nat->D)(g:Nat)(A B:(Nat->D)->Prop):Prop :=
 match d with
 | .bool b=>br b (A (ca t g (.bool b))) (B (ca t g (.bool b)))
 | _=>False
def wpS(d:D)(t:Nat->D)(g:Nat)(A B S:(Nat->D)->Prop):Prop :=
 match d with
 | .skp=>S t
 | d=>U4 d t g A B
def Cv{t:Nat->D}{g:Nat}{b:Bool}{A B S:(Nat->D)->Prop}:wpS (.bool b) t g A B S=br b (A (ca t g (.bool b))) (B (ca t g (.bool b))):=rfl
def wpG(ops:List Oper)(t:Nat->D)(gd:Option (Nat×Bool))(A B:(Nat->D)->Prop):Prop :=
 match gd with
 | none=>A t
 | some (j,a)=>vv ((ops[j]?).bind (·.dst)) fun g=>wpS (t g) t g (if a then A else B) (if a then B else A) B
def S0(T:Nat->Option Ty)(Γ:Env)(e:Nat)(o:Oper)(t:Nat->D)(h:Nat->Option Row)(K:(Nat->D)->cv->Prop):Prop :=
 match o.op with
 | .pick (.tmp c) a b=>U4 (t c) t c (fun t=>K t ⟨ev t a,[]⟩) (fun t=>K t ⟨ev t b,[]⟩)
 | _=>vv (se T Γ e o (ev t) h) (K t)
def Il(T:Nat->Option Ty)(Γ:Env)(N e:Nat)(ops:List Oper):List Oper->(Nat->D)->(Nat->Option Row)->((Nat->D)->(Nat->Option Row)->Prop)->Prop
 | [],t,h,K=>K t h
 | o::l,t,h,K=>fits N o.dst=true∧wpG ops t o.guard (fun t=>S0 T Γ e o t h fun t E=>Il T Γ N e ops l (fT t o.dst E.val) (aW h E.hw) K) (fun t=>Il T Γ N e ops l (fT t o.dst .skp) h K)
def runK(T:Nat->Option Ty)(Γ:Env)(N e:Nat)(ops:List Oper):List Oper->(Nat->D)->(Nat->Option Row)->List mP->((Nat->D)->(Nat->Option Row)->List mP->Prop)->Prop
 | [],t,h,fs,K=>K t h fs
 | o::l,t,h,fs,K=>fits N o.dst=true∧wpG ops t o.guard (fun t=>S0 T Γ e o t h fun t E=>runK T Γ N e ops l (fT t o.dst E.val) (aW h E.hw) (fs++[⟨cR o (ev t),E.hw.isEmpty⟩]) K) (fun t=>runK T Γ N e ops l (fT t o.dst .skp) h (fs++[⟨[],true⟩]) K)
abbrev Kt:=Ex->(Nat->D)->(Nat->Option Row)->Nat->Prop
def aid(x:Ex)(A:Prop)(B:Prop):Prop :=
 match x with
 | .normal=>A
 | _=>B
def aan(id:Nat)(x:Ex)(t:Nat->D)(h:Nat->Option Row)(e:Nat)(K:Kt):Prop :=
 match x with
 | .exit n=>if n=id then K .normal t h e else K (.exit n) t h e
 | x=>K x t h e
def wpR(T:Nat->Option Ty)(Γ:Env)(N:Nat)(ops:Array Oper)(a:Bool)(t:Nat->D)(h:Nat->Option Row)(e:Nat)(K:(Nat->D)->(Nat->Option Row)->Prop):Prop :=
 match a with
 | true=>runK T Γ N e ops.toList ops.toList t h [] fun t h fs=>Gk ops fs=true∧K t h
 | false=>Il T Γ N e ops.toList ops.toList t h K
def Oi(T:Nat->Option Ty)(Γ:Env)(N F:Nat):Code->(Nat->D)->(Nat->Option Row)->Nat->Kt->Prop
 | .skip,t,h,e,K=>K .normal t h e
 | .region _ ops draw,t,h,e,K=>wpR T Γ N ops draw t h e fun t h=>K .normal t h (e+1)
 | .seq a b,t,h,e,K=>Oi T Γ N F a t h e fun x t h e=>aid x (Oi T Γ N F b t h e K) (K x t h e)
 | .cond c x y,t,h,e,K =>
  match c with
  | .tmp g=>U4 (t g) t g (fun t=>Oi T Γ N F x t h e K) (fun t=>Oi T Γ N F y t h e K)
  | .const (.bool true)=>Oi T Γ N F x t h e K
  | .const (.bool false)=>Oi T Γ N F y t h e K
  | _=>False
 | .block id b,t,h,e,K=>Oi T Γ N F b t h e fun x t h e=>aan id x t h e K
 | .loop b,t,h,e,K=>∃x s,iter (ik T Γ N F b) F ⟨t,h,e⟩=some (x,s)∧K x s.t s.h s.e
 | .exit id,t,h,e,K=>K (.exit id) t h e
 | .ret,t,h,e,K=>K .ret t h e
 | _,_,_,_,_=>False
def af7(a:Mode)(T:Nat->Option Ty)(bY:Option (D×Row))(rs:List ResultVar)(x:Ex)(t:Nat->D)(h:Nat->Option Row)(e:Nat)(r:RK×Option Row):Prop :=
 match x with
 | .exit _=>False
 | _=>gE a T bY rs ⟨t,EH h,e⟩=some r
def wpf(b:Mode)(T:Nat->Option Ty)(Γ:Env)(F:Nat)(d:Func)(bY:Option (D×Row))(a:List D)(r:RK×Option Row):Prop :=
 vv d.body fun c=>Oi T Γ d.ntmps F c (cF bY a).t (cF bY a).h (cF bY a).e fun x t h e=>af7 b T bY d.results.toList x t h e r
def HD{α:Type}(a:α)(K:α->Prop):vv (some a) K=K a:=rfl
def HB{α:Type}{x:Option α}{K:α->Prop}(h:vv x K):∃a,x=some a∧K a:=by
 cases x with
 | none=>exact h.elim
 | some a=>exact⟨a,rfl,h⟩
def UZ{t:Nat->D}{g:Nat}{d:D}(h:t g=d):ca t g d=t:=by
 funext j;unfold ca;simp_all
def adJ(A B:Prop):br true A B=A:=by simp[br]
def aao(A B:Prop):br false A B=B:=by simp[br]
def adI{b:Bool}{A B:Prop}(h:br b A B):if b then A else B:=by
 cases b with
 | true=>exact h.1 rfl
 | false=>exact h.2 rfl
def adl{t:Nat->D}{g:Nat}{b:Bool}{A B:(Nat->D)->Prop}:U4 (.bool b) t g A B=br b (A (ca t g (.bool b))) (B (ca t g (.bool b))):=rfl
def Ct{t:Nat->D}{g:Nat}{A B:(Nat->D)->Prop}(h:t g=.bool true):U4 (.bool true) t g A B=A t:=by simp[U4,UZ h,adJ]
def zH{t:Nat->D}{g:Nat}{A B:(Nat->D)->Prop}(h:t g=.bool false):U4 (.bool false) t g A B=B t:=by simp[U4,UZ h,aao]
def Cw{t:Nat->D}{g:Nat}{A B S:(Nat->D)->Prop}(h:t g=.bool true):wpS (.bool true) t g A B S=A t:=Ct h
def zI{t:Nat->D}{g:Nat}{A B S:(Nat->D)->Prop}(h:t g=.bool false):wpS (.bool false) t g A B S=B t:=zH h
def U5{t:Nat->D}{g:Nat}{A B:(Nat->D)->Prop}(h:U4 (t g) t g A B):∃b,t g=.bool b∧(if b then A t else B t):=by
 unfold U4 at h;split at h
 ·rename_i b a;rw[UZ a]at h;exact⟨b,a,adI h⟩
 ·exact h.elim
section
variable {T:Nat->Option Ty} {Γ:Env} {N F e:Nat}
def ado{ops:Array Oper}{t:Nat->D}{o:Oper}{A B:(Nat->D)->Prop}(h:wpG ops.toList t o.guard A B):∃b,yr ops t o=some b∧(if b then A t else B t):=by
 unfold wpG at h;unfold yr;split at h
 ·simp_all
 ·rename_i j c e;try rw[e]
  obtain⟨g,d,a⟩:=HB h;rw[alk]at d;unfold wpS at a;split at a
  ·simp_all
  ·obtain⟨b,f,i⟩:=U5 a;simp only[d,f];grind
def adm{o:Oper}{t:Nat->D}{h:Nat->Option Row}{K:(Nat->D)->cv->Prop}(d:S0 T Γ e o t h K):∃E,se T Γ e o (ev t) h=some E∧K t E:=by
 unfold S0 at d;split at d
 ·rename_i c a b g;obtain⟨v,f,j⟩:=U5 d;have i:qV Γ e h o.dst none=none:=by cases o.dst<;>rfl
  cases v with
  | true=>exact⟨⟨ev t a,[]⟩,by unfold se jg tR;rw[g];simp only[ev,f,or2,mM,jF,i],by simp_all⟩
  | false=>exact⟨⟨ev t b,[]⟩,by unfold se jg tR;rw[g];simp only[ev,f,or2,mM,jF,i],by simp_all⟩
 ·obtain⟨E,f,j⟩:=HB d;simp_all
def Ci{ops:Array Oper}{K:(Nat->D)->(Nat->Option Row)->Prop}:∀(l:List Oper)(t:Nat->D)(h:Nat->Option Row),Il T Γ N e ops.toList l t h K->∃a c fs,Dw T Γ N e ops l t h=some (a,c,fs)∧K a c
 | [],t,h,hk=>⟨t,h,[],rfl,hk⟩
 | o::l,t,h,hk=>by
  unfold Il at hk;obtain⟨f,g⟩:=hk;obtain⟨b,i,d⟩:=ado g;unfold Dw step1;rw[if_pos f,i];cases b with
  | true =>
   obtain⟨E,n,j⟩:=adm (by simpa using d);obtain⟨a,c,fs,k,m⟩:=Ci l _ _ j;grind
  | false =>
   obtain⟨a,c,fs,k,m⟩:=Ci l _ _ (by simpa using d);grind
def NP{ops:Array Oper}{K:(Nat->D)->(Nat->Option Row)->List mP->Prop}:∀(l:List Oper)(t:Nat->D)(h:Nat->Option Row)(f0:List mP),runK T Γ N e ops.toList l t h f0 K->∃a c fs,Dw T Γ N e ops l t h=some (a,c,fs)∧K a c (f0++fs)
 | [],t,h,f0,hk=>⟨t,h,[],rfl,by unfold runK at hk;simpa using hk⟩
 | o::l,t,h,f0,hk=>by
  unfold runK at hk;obtain⟨f,g⟩:=hk;obtain⟨b,i,d⟩:=ado g;unfold Dw step1;rw[if_pos f,i];cases b with
  | true =>
   obtain⟨E,n,j⟩:=adm (by simpa using d);obtain⟨a,c,fs,k,m⟩:=NP l _ _ _ j;grind
  | false =>
   obtain⟨a,c,fs,k,m⟩:=NP l _ _ _ (by simpa using d);grind
def ag6{ops:Array Oper}{a:Bool}{t:Nat->D}{h:Nat->Option Row}{K:(Nat->D)->(Nat->Option Row)->Prop}(d:wpR T Γ N ops a t h e K):∃b c,zG T Γ N ops a ⟨t,h,e⟩=some (.normal,⟨b,c,e+1⟩)∧K b c:=by
 unfold zG;cases a with
 | false =>
  obtain⟨b,c,fs,f,g⟩:=Ci _ _ _ d;grind
 | true =>
  obtain⟨b,c,fs,f,g,i⟩:=NP _ _ _ _ d;grind
def DH:∀(c:Code)(t:Nat->D)(h:Nat->Option Row)(e:Nat)(K:Kt),Oi T Γ N F c t h e K->∃x s,ik T Γ N F c ⟨t,h,e⟩=some (x,s)∧K x s.t s.h s.e:=by
 intro c
 induction c with
 | skip=>intro t h e K d;exact⟨_,_,rfl,d⟩
 | region i ops draw =>
  intro t h e K d;obtain⟨w,z,j,f⟩:=ag6 d;exact⟨_,_,j,f⟩
 | seq a b k l =>
  intro t h e K d;obtain⟨x,s,j,f⟩:=k _ _ _ _ d;simp only[ik,j];cases x with
  | normal =>
   obtain⟨q,r,u,v⟩:=l _ _ _ _ f;exact⟨q,r,u,v⟩
  | exit n=>exact⟨_,_,rfl,f⟩
  | ret=>exact⟨_,_,rfl,f⟩
 | cond c x y m o =>
  intro t h e K d;unfold Oi at d;split at d
  ·rename_i g;obtain⟨b,j,f⟩:=U5 d;simp only[ik,ev,j,SV];grind
  ·simpa only[ik,ev,qL,SV,if_true] using m _ _ _ _ d
  ·simpa only[ik,ev,qL,SV,akN,if_false] using o _ _ _ _ d
  ·exact d.elim
 | block id b p =>
  intro t h e K d;obtain⟨x,s,j,f⟩:=p _ _ _ _ d;simp only[ik,j];cases x with
  | normal=>exact⟨_,_,rfl,f⟩
  | ret=>exact⟨_,_,rfl,f⟩
  | exit n =>
   simp only[U3];unfold aan at f;grind
 | loop b p=>intro t h e K d;exact d
 | exit id=>intro t h e K d;exact⟨_,_,rfl,d⟩
 | ret=>intro t h e K d;exact⟨_,_,rfl,d⟩
 | _=>intro t h e K d;exact d.elim
def U6{b:Mode}{d:Func}{bY:Option (D×Row)}{a:List D}{r:RK×Option Row}(h:wpf b T Γ F d bY a r)(e:d.ntmps<=PK):kN b T Γ F d bY a=some r:=by
 obtain⟨c,f,g⟩:=HB h;obtain⟨x,s,i,j⟩:=DH _ _ _ _ _ g;unfold kN;simp only[f];rw[if_pos e];have k:cF bY a=⟨(cF bY a).t,(cF bY a).h,(cF bY a).e⟩:=rfl;rw[k,i];unfold af7 at j;grind
def XC{α:Type}(f:Nat->α)(i:Nat)(v:α)(j:Nat):ca f i v j=if j=i then v else f j:=amP
def Bp(a:List D)(i:Nat):D:=a.getD i .und
def JN(d:D)(l:List D):Bp (d::l) 0=d:=amP
def JM(d:D)(l:List D)(i:Nat):Bp (d::l) (i+1)=Bp l i:=amP
def Lu(_:Nat):Option Row:=none
end
inductive W where
 | code (c:Code)
 | blk (id:Nat)
section
variable (T:Nat->Option Ty) (Γ:Env) (N F:Nat)
def dr:List W->Kt->Kt
 | [],Q=>Q
 | .code c::ws,Q=>fun x t h e=>aid x (Oi T Γ N F c t h e (dr ws Q)) (dr ws Q x t h e)
 | .blk id::ws,Q=>fun x t h e=>aan id x t h e (dr ws Q)
def mV(ops l:List Oper)(ws:List W)(Q:Kt)(t:Nat->D)(h:Nat->Option Row)(e:Nat):Prop :=
 Il T Γ N e ops l t h fun t h=>dr T Γ N F ws Q .normal t h (e+1)
def oa(ops l:List Oper)(ws:List W)(Q:Kt)(t:Nat->D)(h:Nat->Option Row)(e:Nat)(fs:List mP):Prop :=
 runK T Γ N e ops l t h fs fun t h fs=>Gk ops.toArray fs=true∧dr T Γ N F ws Q .normal t h (e+1)
def tQ(o:Oper)(ops l:List Oper)(ws:List W)(Q:Kt)(t:Nat->D)(h:Nat->Option Row)(e:Nat):Prop :=
 S0 T Γ e o t h fun t E=>mV T Γ N F ops l ws Q (fT t o.dst E.val) (aW h E.hw) e
def wm(o:Oper)(ops l:List Oper)(ws:List W)(Q:Kt)(t:Nat->D)(h:Nat->Option Row)(e:Nat)(fs:List mP):Prop :=
 S0 T Γ e o t h fun t E=>oa T Γ N F ops l ws Q (fT t o.dst E.val) (aW h E.hw) e (fs++[⟨cR o (ev t),E.hw.isEmpty⟩])
def zQ(d:D)(g:Nat)(a:Bool)(o:Oper)(ops l:List Oper)(ws:List W)(Q:Kt)(t:Nat->D)(h:Nat->Option Row)(e:Nat):Prop :=
 wpS d t g (fun t=>if a then tQ T Γ N F o ops l ws Q t h e else mV T Γ N F ops l ws Q (fT t o.dst .skp) h e) (fun t=>if a then mV T Γ N F ops l ws Q (fT t o.dst .skp) h e else tQ T Γ N F o ops l ws Q t h e) (fun t=>mV T Γ N F ops l ws Q (fT t o.dst .skp) h e)
def zR(d:D)(g:Nat)(a:Bool)(o:Oper)(ops l:List Oper)(ws:List W)(Q:Kt)(t:Nat->D)(h:Nat->Option Row)(e:Nat)(fs:List mP):Prop :=
 wpS d t g (fun t=>if a then wm T Γ N F o ops l ws Q t h e fs else oa T Γ N F ops l ws Q (fT t o.dst .skp) h e (fs++[⟨[],true⟩])) (fun t=>if a then oa T Γ N F ops l ws Q (fT t o.dst .skp) h e (fs++[⟨[],true⟩]) else wm T Γ N F o ops l ws Q t h e fs) (fun t=>oa T Γ N F ops l ws Q (fT t o.dst .skp) h e (fs++[⟨[],true⟩]))
def Iv(x y:Option cv)(dst:Option Nat)(ops l:List Oper)(ws:List W)(Q:Kt)(t:Nat->D)(h:Nat->Option Row)(e:Nat):Prop :=
 vv (or2 h x y) fun E=>mV T Γ N F ops l ws Q (fT t dst E.val) (aW h E.hw) e
def Iw(x y:Option cv)(dst:Option Nat)(a:List Nat)(ops l:List Oper)(ws:List W)(Q:Kt)(t:Nat->D)(h:Nat->Option Row)(e:Nat)(fs:List mP):Prop :=
 vv (or2 h x y) fun E=>oa T Γ N F ops l ws Q (fT t dst E.val) (aW h E.hw) e (fs++[⟨a,E.hw.isEmpty⟩])
def DA(x:Option cv)(dst:Option Nat)(ops l:List Oper)(ws:List W)(Q:Kt)(t:Nat->D)(h:Nat->Option Row)(e:Nat):Prop:=Iv T Γ N F x none dst ops l ws Q t h e
def Md(x:Option cv)(dst:Option Nat)(a:List Nat)(ops l:List Oper)(ws:List W)(Q:Kt)(t:Nat->D)(h:Nat->Option Row)(e:Nat)(fs:List mP):Prop:=Iw T Γ N F x none dst a ops l ws Q t h e fs
def Zl(y:Option cv)(dst:Option Nat)(ops l:List Oper)(ws:List W)(Q:Kt)(t:Nat->D)(h:Nat->Option Row)(e:Nat):Prop :=
 vv y fun E=>mV T Γ N F ops l ws Q (fT t dst E.val) (aW h E.hw) e
def aeT(y:Option cv)(dst:Option Nat)(a:List Nat)(ops l:List Oper)(ws:List W)(Q:Kt)(t:Nat->D)(h:Nat->Option Row)(e:Nat)(fs:List mP):Prop :=
 vv y fun E=>oa T Γ N F ops l ws Q (fT t dst E.val) (aW h E.hw) e (fs++[⟨a,E.hw.isEmpty⟩])
def Ob(d:D)(g:Nat)(x y:Code)(ws:List W)(Q:Kt)(t:Nat->D)(h:Nat->Option Row)(e:Nat):Prop :=
 U4 d t g (fun t=>dr T Γ N F (.code x::ws) Q .normal t h e) (fun t=>dr T Γ N F (.code y::ws) Q .normal t h e)
def aco(d:D)(g:Nat)(a b:Operand)(dst:Option Nat)(ops l:List Oper)(ws:List W)(Q:Kt)(t:Nat->D)(h:Nat->Option Row)(e:Nat):Prop :=
 U4 d t g (fun t=>mV T Γ N F ops l ws Q (fT t dst (ev t a)) h e) (fun t=>mV T Γ N F ops l ws Q (fT t dst (ev t b)) h e)
def acp(d:D)(g:Nat)(a b:Operand)(dst:Option Nat)(ops l:List Oper)(ws:List W)(Q:Kt)(t:Nat->D)(h:Nat->Option Row)(e:Nat)(fs:List mP):Prop :=
 U4 d t g (fun t=>oa T Γ N F ops l ws Q (fT t dst (ev t a)) h e (fs++[⟨[],true⟩])) (fun t=>oa T Γ N F ops l ws Q (fT t dst (ev t b)) h e (fs++[⟨[],true⟩]))
def WX(b:Code)(ws:List W)(Q:Kt)(t:Nat->D)(h:Nat->Option Row)(e:Nat):Prop:=Oi T Γ N F (.loop b) t h e (dr T Γ N F ws Q)
end
def K7{n:Nat}(h:n<=1000000):n<=maxLen:=akk h (by decide)
def LO{z:List D}:qv 0 z=[]:=amP
def LN{n:Nat}{z:List D}:qv (n+1) z=z++qv n z:=by simp[qv,List.replicate_succ]
def KP{N:Nat}:fits N none=true:=amP
def KQ{N i:Nat}:fits N (some i)=decide (i<N):=amP
def xU:List Oper->Nat->Nat
 | [],_=>0
 | o::_,0=>o.dst.getD 0
 | _::l,j+1=>xU l j
def BX:List Oper->Nat->Bool
 | [],_=>false
 | o::_,0=>o.dst.isSome
 | _::l,j+1=>BX l j
def Gg:∀(l:List Oper)(j:Nat),BX l j=true->(l[j]?).bind (·.dst)=some (xU l j)
 | [],j,h=>by simp[BX]at h
 | o::l,0,h=>by
  simp only[BX]at h;simp only[List.getElem?_cons_zero,Option.bind_some,xU];cases a:o.dst with
  | none=>simp_all
  | some d=>rfl
 | o::l,j+1,h=>by simpa [xU] using Gg l j h
def Gi{d:Nat}{op:Op}{ty:Nat}{pos:String}{af:Array Edge}{gd:Option (Nat×Bool)}{l:List Oper}:xU (⟨some d,op,ty,pos,af,gd⟩::l) 0=d:=amP
def Gh{o:Oper}{l:List Oper}{j:Nat}:xU (o::l) (j+1)=xU l j:=amP
def G7{d:Nat}{op:Op}{ty:Nat}{pos:String}{af:Array Edge}{gd:Option (Nat×Bool)}{l:List Oper}:BX (⟨some d,op,ty,pos,af,gd⟩::l) 0=true:=amP
def G6{o:Oper}{l:List Oper}{j:Nat}:BX (o::l) (j+1)=BX l j:=amP
section
variable {dst:Option Nat} {ty:Nat} {pos:String} {af:Array Edge} {gd:Option (Nat×Bool)} {vs:Operand->D}
def Jk(vs:Operand->D):List Operand->List Nat
 | []=>[]
 | x::l=>nm (vs x)++Jk vs l
def lP(vs:Operand->D):∀l:List Operand,(l.flatMap fun x=>nm (vs x))=Jk vs l
 | []=>Eq.trans rfl rfl
 | x::l=>by rw[List.flatMap_cons,lP vs l];exact Eq.trans rfl rfl
def WH:Jk vs []=[]:=amP
def Ri{x:Operand}{l:List Operand}:Jk vs (x::l)=nm (vs x)++Jk vs l:=amP
def EI{o:BinOp}{a z:Nat}{x y:Operand}:cR ⟨dst,.binOp o a x y z,ty,pos,af,gd⟩ vs=(Jk vs [x,y]++dst.toList).map rt:=by rw[<- lP];rfl
def IC{o:UnOp}{a:Nat}{x:Operand}:cR ⟨dst,.unOp o a x,ty,pos,af,gd⟩ vs=(Jk vs [x]++dst.toList).map rt:=by rw[<- lP];rfl
def Cq{x:Operand}:cR ⟨dst,.assign x,ty,pos,af,gd⟩ vs=(Jk vs [x]++dst.toList).map rt:=by rw[<- lP];rfl
def IB{a:Nat}{x:Operand}:cR ⟨dst,.load a x,ty,pos,af,gd⟩ vs=(Jk vs [x]++dst.toList).map rt:=by rw[<- lP];rfl
def EK{a:Nat}{x y:Operand}:cR ⟨dst,.store a x y,ty,pos,af,gd⟩ vs=(Jk vs [x,y]++dst.toList).map rt:=by rw[<- lP];rfl
def yR{x:Operand}:cR ⟨dst,.nilCheck x,ty,pos,af,gd⟩ vs=(Jk vs [x]++dst.toList).map rt:=by rw[<- lP];rfl
def xh{a i:Nat}{x:Operand}:cR ⟨dst,.fieldAddr a x i,ty,pos,af,gd⟩ vs=(Jk vs [x]++dst.toList).map rt:=by rw[<- lP];rfl
def xi{a:Nat}{x i:Operand}:cR ⟨dst,.indexAddr a x i,ty,pos,af,gd⟩ vs=(Jk vs [x,i]++dst.toList).map rt:=by rw[<- lP];rfl
def xj{a:Nat}{x y:Operand}:cR ⟨dst,.makeSlice a x y,ty,pos,af,gd⟩ vs=(Jk vs [x,y]++dst.toList).map rt:=by rw[<- lP];rfl
def EG{a:Nat}:cR ⟨dst,.alloc a,ty,pos,af,gd⟩ vs=(Jk vs []++dst.toList).map rt:=by rw[<- lP];rfl
def Aj{a b:Nat}{x:Operand}:cR ⟨dst,.convert a b x,ty,pos,af,gd⟩ vs=(Jk vs [x]++dst.toList).map rt:=by rw[<- lP];rfl
def Ak{x:Operand}{i:Nat}:cR ⟨dst,.extract x i,ty,pos,af,gd⟩ vs=(Jk vs [x]++dst.toList).map rt:=by rw[<- lP];rfl
def EJ{b:Nat}{a:List (Nat×Operand)}:cR ⟨dst,.build b a.toArray,ty,pos,af,gd⟩ vs=(Jk vs (a.map (·.2))++dst.toList).map rt:=by rw[<- lP];rfl
def vD{b len:Nat}{a:List (Nat×Operand)}:cR ⟨dst,.buildSlice b len a.toArray,ty,pos,af,gd⟩ vs=(Jk vs (a.map (·.2))++dst.toList).map rt:=by rw[<- lP];rfl
def IA{x:Operand}{l:List Operand}{a:Array Nat}:cR ⟨dst,.call ⟨.value x,l.toArray,a⟩,ty,pos,af,gd⟩ vs=(Jk vs (x::l)++dst.toList).map rt:=by
 rw[<- lP];simp[cR,iY,Op.operands,Call.operands]
def Ai{x:Builtin}{l:List Operand}{a:Array Nat}:cR ⟨dst,.call ⟨.builtin x,l.toArray,a⟩,ty,pos,af,gd⟩ vs=(Jk vs l++dst.toList).map rt:=by
 rw[<- lP];simp[cR,iY,Op.operands,Call.operands]
end
section
variable {T:Nat->Option Ty} {ty e:Nat} {dst:Option Nat} {h:Nat->Option Row}
def Vx{k:IntKind}{n:Int}:dH T ty e dst h (.int k n)=some ⟨.int k n,[]⟩:=amP
def OG{b:Bool}:dH T ty e dst h (.bool b)=some ⟨.bool b,[]⟩:=amP
def aam{a:Bool}{n:Nat}{xs:List D}:dH T ty e dst h (.sl false a n xs)=some ⟨.sl false a n xs,[]⟩:=amP
def aal{x v:Nat}:dH T ty e dst h (.mp x v)=some ⟨.mp x v,[]⟩:=amP
def Fi{f a:Nat}{xs:List D}:dH T ty e dst h (.clo f a xs)=some ⟨.clo f a xs,[]⟩:=amP
def afY(b:Bool)(T:Nat->Option Ty)(ty e d:Nat)(h:Nat->Option Row)(x:D):Option cv:=if b then dH T ty e (some d) h x else oV h x
def JS{d:Nat}{x:D}:afY true T ty e d h x=dH T ty e (some d) h x:=amP
def FN{d:Nat}{x:D}:afY false T ty e d h x=oV h x:=amP
def aff{q:Nat->Bool}{d:Nat}{x:D}:uM T q ty e (some d) h x=afY (q d) T ty e d h x:=amP
def Z7{a b:Bool}{n:Nat}{xs:List D}:oV h (.sl a b n xs)=some ⟨.sl false false n xs,[]⟩:=amP
def adG(e d y s o n:Nat)(r:Row):Bool->Option cv
 | true=>some ⟨.buf y r.v s o n,[]⟩
 | false=>some ⟨.buf d e s o n,[(y,none),(d,some { r with v:=e })]⟩
def FM{d y s o n:Nat}{r:Row}:adG e d y s o n r false=some ⟨.buf d e s o n,[(y,none),(d,some { r with v:=e })]⟩:=amP
def afX(y v s o n:Nat):Option Row->Option cv
 | some _=>some ⟨.buf y v s o n,[]⟩
 | none=>some ⟨.und,[]⟩
def JO{y v s o n:Nat}{r:Row}:afX y v s o n (some r)=some ⟨.buf y v s o n,[]⟩:=amP
def aak(e:Nat)(dst:Option Nat)(y s o n:Nat)(w:Option cv):Option Row->Option cv
 | some r=>match dst with|some d=>adG e d y s o n r r.fz|none=>w
 | none=>w
def JQ{d y s o n:Nat}{r:Row}{w:Option cv}:aak e (some d) y s o n w (some r)=adG e d y s o n r r.fz:=amP
def JP{d y s o n:Nat}{w:Option cv}:aak e (some d) y s o n w none=w:=amP
def Vw{d y v s o n:Nat}:dH T ty e (some d) h (.buf y v s o n)=aak e (some d) y s o n (afX y v s o n (qY h y v)) (live h y v):=by
 simp only[dH];cases a:live h y v with
 | none=>simp only[aak];cases qY h y v<;>simp[afX]
 | some r =>
  obtain⟨_,b⟩:=cQ a;simp only[aak];cases c:r.fz<;>simp[adG,b,c]
def adH(e:Nat)(dst:Option Nat)(T:Nat->Option Ty):Option Ty->Option cv
 | some τ =>
  match dst with
  | some d=>match τ.ds with
   | .slice el=>match T el with|some φ=>some ⟨.buf d e φ.size 0 0,[(d,some ⟨e,el,[],false,true,false⟩)]⟩|none=>none
   | _=>none
  | none=>none
 | none=>none
def JR{d el b c:Nat}{z:List Value}{q:Bool}{φ:Ty}(a:T el=some φ):adH e (some d) T (some ⟨.slice el,b,c,z,q⟩)=some ⟨.buf d e φ.size 0 0,[(d,some ⟨e,el,[],false,true,false⟩)]⟩:=by simp only[adH,a]
def Vy:dH T ty e dst h (.sl true true 0 [])=adH e dst T (T ty):=by
 unfold dH adH;grind
end
def okD(x:Option D):Option cv:=match x with|some d=>some ⟨d,[]⟩|none=>none
def Rx(d:D):okD (some d)=some ⟨d,[]⟩:=amP
def HZ(x:Option Ty)(f:Ty->Option cv):Option cv:=match x with|some τ=>f τ|none=>none
def RI(τ:Ty)(f:Ty->Option cv):HZ (some τ) f=f τ:=amP
def ahw(x:Option (List D×List Nat))(h:Nat->Option Row)(ty d e:Nat):Option cv :=
 match x with
 | some (cs,fr)=>if fr.contains d=false then some ⟨.ptr d e 0,kE h fr++[(d,some ⟨e,ty,cs,false,false,false⟩)]⟩ else none
 | none=>none
def JV(cs:List D)(fr:List Nat)(h:Nat->Option Row)(ty d e:Nat):ahw (some (cs,fr)) h ty d e=if fr.contains d=false then some ⟨.ptr d e 0,kE h fr++[(d,some ⟨e,ty,cs,false,false,false⟩)]⟩ else none:=amP
def agx(d e:Nat):Option Nat->D
 | some y =>.pm d e y
 | none =>.ptr d e 0
def LI{d e:Nat}:agx d e none=.ptr d e 0:=amP
def FJ(x:Option Ty)(ty d e:Nat)(y:Option Nat):Option cv :=
 match x with
 | some τ=>if (τ.zero.map qL).all bu then some ⟨agx d e y,[(d,some ⟨e,ty,τ.zero.map qL,false,false,false⟩)]⟩ else none
 | none=>none
def DO(τ:Ty)(ty d e:Nat)(y:Option Nat):FJ (some τ) ty d e y=if (τ.zero.map qL).all bu then some ⟨agx d e y,[(d,some ⟨e,ty,τ.zero.map qL,false,false,false⟩)]⟩ else none:=amP
def aca(T:Nat->Option Ty)(x:Option Ty)(ty e d:Nat):Option cv:=match x with|some τ=>p7 T ty τ e d|none=>none
def acb{T:Nat->Option Ty}{τ φ:Ty}{b:Bool}{ty e d:Nat}(a:Hn T τ=some (b,φ))(c:ty<900000):aca T (some τ) ty e d=some ⟨.mp d e,[(d,some ⟨e,ty,[.mpc [] []],false,true,true⟩)]⟩:=by simp only[aca,p7,a];simp_all
def aaD(x y:Option Ty)(d:D):Option cv :=
 match x,y,d with
 | some τ,some _,.int _ n=>(match τ.ds with | .int k=>some ⟨.int k (k.wrap n),[]⟩|_=>none)
 | _,_,_=>none
def Ke(k:IntKind)(b c:Nat)(z:List Value)(q:Bool)(σ:Ty)(a:IntKind)(n:Int):aaD (some ⟨.int k,b,c,z,q⟩) (some σ) (.int a n)=some ⟨.int k (k.wrap n),[]⟩:=amP
def adZ(d:D)(i:Nat):Option cv:=match d with | .tup xs=>(match xs[i]? with|some d=>some ⟨d,[]⟩|none=>none)|_=>none
def PX(xs:List D)(i:Nat):adZ (.tup xs) i=okD xs[i]?:=by simp only[adZ,okD]
section
variable {T:Nat->Option Ty} {Γ:Env} {N F e:Nat} {ws:List W} {Q:Kt} {t:Nat->D} {h:Nat->Option Row}
def cD{x:Ex}:dr T Γ N F [] Q x t h e=Q x t h e:=amP
def LZ:dr T Γ N F (.code .skip::ws) Q .normal t h e=dr T Γ N F ws Q .normal t h e:=amP
def Sb{a b:Code}:dr T Γ N F (.code (.seq a b)::ws) Q .normal t h e=dr T Γ N F (.code a :: .code b::ws) Q .normal t h e:=amP
def Sa:dr T Γ N F (.code .ret::ws) Q .normal t h e=dr T Γ N F ws Q .ret t h e:=amP
def LX{id:Nat}:dr T Γ N F (.code (.exit id)::ws) Q .normal t h e=dr T Γ N F ws Q (.exit id) t h e:=amP
def Im{id:Nat}{b:Code}:dr T Γ N F (.code (.block id b)::ws) Q .normal t h e=dr T Γ N F (.code b :: .blk id::ws) Q .normal t h e:=amP
def LY{b:Code}:dr T Γ N F (.code (.loop b)::ws) Q .normal t h e=WX T Γ N F b ws Q t h e:=amP
def a8{c:Code}:dr T Γ N F (.code c::ws) Q .ret t h e=dr T Γ N F ws Q .ret t h e:=amP
def yI{c:Code}{n:Nat}:dr T Γ N F (.code c::ws) Q (.exit n) t h e=dr T Γ N F ws Q (.exit n) t h e:=amP
def xf{id:Nat}:dr T Γ N F (.blk id::ws) Q .normal t h e=dr T Γ N F ws Q .normal t h e:=amP
def bj{id:Nat}:dr T Γ N F (.blk id::ws) Q .ret t h e=dr T Γ N F ws Q .ret t h e:=amP
def Ag{id n:Nat}:dr T Γ N F (.blk id::ws) Q (.exit n) t h e=if n=id then dr T Γ N F ws Q .normal t h e else dr T Γ N F ws Q (.exit n) t h e:=amP
def EC{i:Nat}{ops:List Oper}:dr T Γ N F (.code (.region i ops.toArray false)::ws) Q .normal t h e=mV T Γ N F ops ops ws Q t h e:=amP
def Ip{i:Nat}{ops:List Oper}:dr T Γ N F (.code (.region i ops.toArray true)::ws) Q .normal t h e=oa T Γ N F ops ops ws Q t h e []:=amP
def LW{g:Nat}{x y:Code}:dr T Γ N F (.code (.cond (.tmp g) x y)::ws) Q .normal t h e=Ob T Γ N F (t g) g x y ws Q t h e:=amP
def Io{x y:Code}:dr T Γ N F (.code (.cond (.const (.bool false)) x y)::ws) Q .normal t h e=dr T Γ N F (.code y::ws) Q .normal t h e:=amP
def Ml{g:Nat}{x y:Code}(a:t g=.bool true):Ob T Γ N F (.bool true) g x y ws Q t h e=dr T Γ N F (.code x::ws) Q .normal t h e:=Ct a
def IE{g:Nat}{x y:Code}(a:t g=.bool false):Ob T Γ N F (.bool false) g x y ws Q t h e=dr T Γ N F (.code y::ws) Q .normal t h e:=zH a
def Zv{b:Bool}{g:Nat}{x y:Code}:Ob T Γ N F (.bool b) g x y ws Q t h e=br b (dr T Γ N F (.code x::ws) Q .normal (ca t g (.bool true)) h e) (dr T Γ N F (.code y::ws) Q .normal (ca t g (.bool false)) h e):=by
 unfold Ob;rw[adl];cases b<;>simp[br]
variable {ops l:List Oper} {dst:Option Nat} {op:Op} {ty:Nat} {pos:String} {af:Array Edge} {gd:Option (Nat×Bool)} {fs:List mP}
def R8:mV T Γ N F ops [] ws Q t h e=dr T Γ N F ws Q .normal t h (e+1):=amP
def LU(a:fits N dst=true):mV T Γ N F ops (⟨dst,op,ty,pos,af,none⟩::l) ws Q t h e=tQ T Γ N F ⟨dst,op,ty,pos,af,none⟩ ops l ws Q t h e:=by
 simp only[mV,Il,wpG,a,true_and,tQ]
def Ij{j:Nat}{a:Bool}(b:fits N dst=true)(c:BX ops j=true):mV T Γ N F ops (⟨dst,op,ty,pos,af,some (j,a)⟩::l) ws Q t h e=zQ T Γ N F (t (xU ops j)) (xU ops j) a ⟨dst,op,ty,pos,af,none⟩ ops l ws Q t h e:=by
 simp only[mV,Il,wpG,b,true_and,Gg ops j c,HD,zQ]<;>cases a<;>rfl
def SN{g:Nat}{a:Bool}{o:Oper}:zQ T Γ N F .skp g a o ops l ws Q t h e=mV T Γ N F ops l ws Q (fT t o.dst .skp) h e:=amP
def Mm{g:Nat}{o:Oper}(a:t g=.bool true):zQ T Γ N F (.bool true) g true o ops l ws Q t h e=tQ T Γ N F o ops l ws Q t h e:=(Cw a).trans (if_pos rfl)
def IF{g:Nat}{o:Oper}(a:t g=.bool false):zQ T Γ N F (.bool false) g true o ops l ws Q t h e=mV T Γ N F ops l ws Q (fT t o.dst .skp) h e:=(zI a).trans (if_pos rfl)
def IG{g:Nat}{o:Oper}(a:t g=.bool true):zQ T Γ N F (.bool true) g false o ops l ws Q t h e=mV T Γ N F ops l ws Q (fT t o.dst .skp) h e:=(Cw a).trans (if_neg (by decide))
def EL{g:Nat}{o:Oper}(a:t g=.bool false):zQ T Γ N F (.bool false) g false o ops l ws Q t h e=tQ T Γ N F o ops l ws Q t h e:=(zI a).trans (if_neg (by decide))
def Zw{b:Bool}{g:Nat}{o:Oper}:zQ T Γ N F (.bool b) g true o ops l ws Q t h e=br b (tQ T Γ N F o ops l ws Q (ca t g (.bool true)) h e) (mV T Γ N F ops l ws Q (fT (ca t g (.bool false)) o.dst .skp) h e):=by
 unfold zQ;rw[Cv];cases b<;>simp[br]
def UT{b:Bool}{g:Nat}{o:Oper}:zQ T Γ N F (.bool b) g false o ops l ws Q t h e=br b (mV T Γ N F ops l ws Q (fT (ca t g (.bool true)) o.dst .skp) h e) (tQ T Γ N F o ops l ws Q (ca t g (.bool false)) h e):=by
 unfold zQ;rw[Cv];cases b<;>simp[br]
def R9:oa T Γ N F ops [] ws Q t h e fs=(Gk ops.toArray fs=true∧dr T Γ N F ws Q .normal t h (e+1)):=amP
def LV(a:fits N dst=true):oa T Γ N F ops (⟨dst,op,ty,pos,af,none⟩::l) ws Q t h e fs=wm T Γ N F ⟨dst,op,ty,pos,af,none⟩ ops l ws Q t h e fs:=by
 simp only[oa,runK,wpG,a,true_and,wm]
def Ik{j:Nat}{a:Bool}(b:fits N dst=true)(c:BX ops j=true):oa T Γ N F ops (⟨dst,op,ty,pos,af,some (j,a)⟩::l) ws Q t h e fs=zR T Γ N F (t (xU ops j)) (xU ops j) a ⟨dst,op,ty,pos,af,none⟩ ops l ws Q t h e fs:=by
 simp only[oa,runK,wpG,b,true_and,Gg ops j c,HD,zR]<;>cases a<;>rfl
def SO{g:Nat}{a:Bool}{o:Oper}:zR T Γ N F .skp g a o ops l ws Q t h e fs=oa T Γ N F ops l ws Q (fT t o.dst .skp) h e (fs++[⟨[],true⟩]):=amP
def Mn{g:Nat}{o:Oper}(a:t g=.bool true):zR T Γ N F (.bool true) g true o ops l ws Q t h e fs=wm T Γ N F o ops l ws Q t h e fs:=(Cw a).trans (if_pos rfl)
def II{g:Nat}{o:Oper}(a:t g=.bool false):zR T Γ N F (.bool false) g true o ops l ws Q t h e fs=oa T Γ N F ops l ws Q (fT t o.dst .skp) h e (fs++[⟨[],true⟩]):=(zI a).trans (if_pos rfl)
def IJ{g:Nat}{o:Oper}(a:t g=.bool true):zR T Γ N F (.bool true) g false o ops l ws Q t h e fs=oa T Γ N F ops l ws Q (fT t o.dst .skp) h e (fs++[⟨[],true⟩]):=(Cw a).trans (if_neg (by decide))
def EM{g:Nat}{o:Oper}(a:t g=.bool false):zR T Γ N F (.bool false) g false o ops l ws Q t h e fs=wm T Γ N F o ops l ws Q t h e fs:=(zI a).trans (if_neg (by decide))
def Zx{b:Bool}{g:Nat}{o:Oper}:zR T Γ N F (.bool b) g true o ops l ws Q t h e fs=br b (wm T Γ N F o ops l ws Q (ca t g (.bool true)) h e fs) (oa T Γ N F ops l ws Q (fT (ca t g (.bool false)) o.dst .skp) h e (fs++[⟨[],true⟩])):=by
 unfold zR;rw[Cv];cases b<;>simp[br]
def UU{b:Bool}{g:Nat}{o:Oper}:zR T Γ N F (.bool b) g false o ops l ws Q t h e fs=br b (oa T Γ N F ops l ws Q (fT (ca t g (.bool true)) o.dst .skp) h e (fs++[⟨[],true⟩])) (wm T Γ N F o ops l ws Q (ca t g (.bool false)) h e fs):=by
 unfold zR;rw[Cv];cases b<;>simp[br]
def Sy{d:D}{a:List (Nat×Option Row)}:DA T Γ N F (some ⟨d,a⟩) dst ops l ws Q t h e=mV T Γ N F ops l ws Q (fT t dst d) (aW h (mM h a)) e:=amP
def SC{d:D}{a:List (Nat×Option Row)}{b:List Nat}:Md T Γ N F (some ⟨d,a⟩) dst b ops l ws Q t h e fs=oa T Γ N F ops l ws Q (fT t dst d) (aW h (mM h a)) e (fs++[⟨b,(mM h a).isEmpty⟩]):=amP
def W9{c:Prop}[Decidable c]{E:cv}:DA T Γ N F (if c then some E else none) dst ops l ws Q t h e=(c∧DA T Γ N F (some E) dst ops l ws Q t h e):=by
 by_cases a:c<;>simp[a,DA,Iv,or2,vv]
def Xc{c:Prop}[Decidable c]{E:cv}{a:List Nat}:Md T Γ N F (if c then some E else none) dst a ops l ws Q t h e fs=(c∧Md T Γ N F (some E) dst a ops l ws Q t h e fs):=by
 by_cases b:c<;>simp[b,Md,Iw,or2,vv]
def L7{E:cv}{y:Option cv}:Iv T Γ N F (some E) y dst ops l ws Q t h e=DA T Γ N F (some E) dst ops l ws Q t h e:=amP
def Mf{E:cv}{y:Option cv}{a:List Nat}:Iw T Γ N F (some E) y dst a ops l ws Q t h e fs=Md T Γ N F (some E) dst a ops l ws Q t h e fs:=amP
def L6{y:Option cv}:Iv T Γ N F none y dst ops l ws Q t h e=Zl T Γ N F y dst ops l ws Q t h e:=amP
def Me{y:Option cv}{a:List Nat}:Iw T Γ N F none y dst a ops l ws Q t h e fs=aeT T Γ N F y dst a ops l ws Q t h e fs:=amP
def W8{x:Option cv}:Iv T Γ N F x none dst ops l ws Q t h e=DA T Γ N F x dst ops l ws Q t h e:=amP
def Xb{x:Option cv}{a:List Nat}:Iw T Γ N F x none dst a ops l ws Q t h e fs=Md T Γ N F x dst a ops l ws Q t h e fs:=amP
def L8{d:D}{a:List (Nat×Option Row)}:Zl T Γ N F (some ⟨d,a⟩) dst ops l ws Q t h e=mV T Γ N F ops l ws Q (fT t dst d) (aW h a) e:=amP
def Mg{d:D}{a:List (Nat×Option Row)}{b:List Nat}:aeT T Γ N F (some ⟨d,a⟩) dst b ops l ws Q t h e fs=oa T Γ N F ops l ws Q (fT t dst d) (aW h a) e (fs++[⟨b,a.isEmpty⟩]):=amP
def H5{g:Nat}{a b:Operand}(c:t g=.bool true):aco T Γ N F (.bool true) g a b dst ops l ws Q t h e=mV T Γ N F ops l ws Q (fT t dst (ev t a)) h e:=Ct c
def Ez{g:Nat}{a b:Operand}(c:t g=.bool false):aco T Γ N F (.bool false) g a b dst ops l ws Q t h e=mV T Γ N F ops l ws Q (fT t dst (ev t b)) h e:=zH c
def H6{g:Nat}{a b:Operand}(c:t g=.bool true):acp T Γ N F (.bool true) g a b dst ops l ws Q t h e fs=oa T Γ N F ops l ws Q (fT t dst (ev t a)) h e (fs++[⟨[],true⟩]):=Ct c
def EA{g:Nat}{a b:Operand}(c:t g=.bool false):acp T Γ N F (.bool false) g a b dst ops l ws Q t h e fs=oa T Γ N F ops l ws Q (fT t dst (ev t b)) h e (fs++[⟨[],true⟩]):=zH c
def Pu{c:Nat}{a b:Operand}:tQ T Γ N F ⟨dst,.pick (.tmp c) a b,ty,pos,af,gd⟩ ops l ws Q t h e=aco T Γ N F (t c) c a b dst ops l ws Q t h e:=amP
def PA{c:Nat}{a b:Operand}:wm T Γ N F ⟨dst,.pick (.tmp c) a b,ty,pos,af,gd⟩ ops l ws Q t h e fs=acp T Γ N F (t c) c a b dst ops l ws Q t h e fs:=amP
def By{x y:Option cv}(i:∀c a b,op ≠ .pick c a b)(j:jg T Γ e ⟨dst,op,ty,pos,af,gd⟩ (ev t)=none)(d:qV Γ e h dst (jF (ev t) op)=none)(f:tR T Γ e ⟨dst,op,ty,pos,af,gd⟩ (ev t) (EH h)=x)(g:yc T Γ e ⟨dst,op,ty,pos,af,gd⟩ (ev t) h=y):tQ T Γ N F ⟨dst,op,ty,pos,af,gd⟩ ops l ws Q t h e=Iv T Γ N F x y dst ops l ws Q t h e:=by
 subst f;subst g;unfold tQ Iv S0 se;simp_all
def BB{x y:Option cv}(i:∀c a b,op ≠ .pick c a b)(j:jg T Γ e ⟨dst,op,ty,pos,af,gd⟩ (ev t)=none)(d:qV Γ e h dst (jF (ev t) op)=none)(f:tR T Γ e ⟨dst,op,ty,pos,af,gd⟩ (ev t) (EH h)=x)(g:yc T Γ e ⟨dst,op,ty,pos,af,gd⟩ (ev t) h=y):wm T Γ N F ⟨dst,op,ty,pos,af,gd⟩ ops l ws Q t h e fs=Iw T Γ N F x y dst (cR ⟨dst,op,ty,pos,af,gd⟩ (ev t)) ops l ws Q t h e fs:=by
 subst f;subst g;unfold wm Iw S0 se;simp_all
def gM{x:Option cv}(f:∀c a b,op ≠ .pick c a b)(g:tR T Γ e ⟨dst,op,ty,pos,af,gd⟩ (ev t) (EH h)=x)(i:jg T Γ e ⟨dst,op,ty,pos,af,gd⟩ (ev t)=none:=by rfl)(j:yc T Γ e ⟨dst,op,ty,pos,af,gd⟩ (ev t) h=none:=by rfl)(d:qV Γ e h dst (jF (ev t) op)=none:=by first|rfl|(cases dst<;>rfl)):tQ T Γ N F ⟨dst,op,ty,pos,af,gd⟩ ops l ws Q t h e=DA T Γ N F x dst ops l ws Q t h e:=By f i d g j
def lk{x:Option cv}(f:∀c a b,op ≠ .pick c a b)(g:tR T Γ e ⟨dst,op,ty,pos,af,gd⟩ (ev t) (EH h)=x)(i:jg T Γ e ⟨dst,op,ty,pos,af,gd⟩ (ev t)=none:=by rfl)(j:yc T Γ e ⟨dst,op,ty,pos,af,gd⟩ (ev t) h=none:=by rfl)(d:qV Γ e h dst (jF (ev t) op)=none:=by first|rfl|(cases dst<;>rfl)):wm T Γ N F ⟨dst,op,ty,pos,af,gd⟩ ops l ws Q t h e fs=Md T Γ N F x dst (cR ⟨dst,op,ty,pos,af,gd⟩ (ev t)) ops l ws Q t h e fs:=BB f i d g j
def Pt{x:Operand}:tQ T Γ N F ⟨dst,.move x,ty,pos,af,gd⟩ ops l ws Q t h e=mV T Γ N F ops l ws Q (fT t dst (ev t x)) h e:=(gM (fun _ _ _ a=>by cases a) rfl).trans rfl
def Pz{x:Operand}:wm T Γ N F ⟨dst,.move x,ty,pos,af,gd⟩ ops l ws Q t h e fs=oa T Γ N F ops l ws Q (fT t dst (ev t x)) h e (fs++[⟨[],true⟩]):=(lk (fun _ _ _ a=>by cases a) rfl).trans rfl
def Kj{o:BinOp}{a z:Nat}{x y:Operand}:tQ T Γ N F ⟨dst,.binOp o a x y z,ty,pos,af,gd⟩ ops l ws Q t h e=DA T Γ N F (okD (FP T a o (ev t x) (ev t y))) dst ops l ws Q t h e:=gM (fun _ _ _ b=>by cases b) (by simp only[tR];first|rfl|(cases FP T a o (ev t x) (ev t y)<;>rfl))
def Kq{o:BinOp}{a z:Nat}{x y:Operand}:wm T Γ N F ⟨dst,.binOp o a x y z,ty,pos,af,gd⟩ ops l ws Q t h e fs=Md T Γ N F (okD (FP T a o (ev t x) (ev t y))) dst (cR ⟨dst,.binOp o a x y z,ty,pos,af,gd⟩ (ev t)) ops l ws Q t h e fs:=lk (fun _ _ _ b=>by cases b) (by simp only[tR];first|rfl|(cases FP T a o (ev t x) (ev t y)<;>rfl))
def Pv{o:UnOp}{a:Nat}{x:Operand}:tQ T Γ N F ⟨dst,.unOp o a x,ty,pos,af,gd⟩ ops l ws Q t h e=DA T Γ N F (okD (Zz o (ev t x))) dst ops l ws Q t h e:=gM (fun _ _ _ b=>by cases b) (by simp only[tR];first|rfl|(cases Zz o (ev t x)<;>rfl))
def PB{o:UnOp}{a:Nat}{x:Operand}:wm T Γ N F ⟨dst,.unOp o a x,ty,pos,af,gd⟩ ops l ws Q t h e fs=Md T Γ N F (okD (Zz o (ev t x))) dst (cR ⟨dst,.unOp o a x,ty,pos,af,gd⟩ (ev t)) ops l ws Q t h e fs:=lk (fun _ _ _ b=>by cases b) (by simp only[tR];first|rfl|(cases Zz o (ev t x)<;>rfl))
def F9{x:Operand}:tQ T Γ N F ⟨dst,.assign x,ty,pos,af,gd⟩ ops l ws Q t h e=DA T Γ N F (uM T Γ.own ty e dst (EH h) (ev t x)) dst ops l ws Q t h e:=gM (fun _ _ _ a=>by cases a) rfl
def Gb{x:Operand}:wm T Γ N F ⟨dst,.assign x,ty,pos,af,gd⟩ ops l ws Q t h e fs=Md T Γ N F (uM T Γ.own ty e dst (EH h) (ev t x)) dst (cR ⟨dst,.assign x,ty,pos,af,gd⟩ (ev t)) ops l ws Q t h e fs:=lk (fun _ _ _ a=>by cases a) rfl
def Bz{f:Nat}{first caps:List Operand}:tQ T Γ N F ⟨dst,.makeFunc (.func f) first.toArray caps.toArray,ty,pos,af,gd⟩ ops l ws Q t h e=DA T Γ N F (if (first.map (ev t)++caps.map (ev t)).all uv then some ⟨.clo f first.length (first.map (ev t)++caps.map (ev t)),[]⟩ else none) dst ops l ws Q t h e:=gM (fun _ _ _ a=>by cases a) rfl
def Pr{a:Nat}{x:Operand}:tQ T Γ N F ⟨dst,.load a x,ty,pos,af,gd⟩ ops l ws Q t h e=Iv T Γ N F (HZ (T a) fun τ=>s7 τ (EH h) (ev t x)) (HZ (T a) fun τ=>yb τ h (ev t x)) dst ops l ws Q t h e:=By (fun _ _ _ b=>by cases b) rfl (by cases dst<;>rfl) (by simp only[tR];first|rfl|(cases T a<;>rfl)) (by simp only[yc];first|rfl|(cases T a<;>rfl))
def Px{a:Nat}{x:Operand}:wm T Γ N F ⟨dst,.load a x,ty,pos,af,gd⟩ ops l ws Q t h e fs=Iw T Γ N F (HZ (T a) fun τ=>s7 τ (EH h) (ev t x)) (HZ (T a) fun τ=>yb τ h (ev t x)) dst (cR ⟨dst,.load a x,ty,pos,af,gd⟩ (ev t)) ops l ws Q t h e fs:=BB (fun _ _ _ b=>by cases b) rfl (by cases dst<;>rfl) (by simp only[tR];first|rfl|(cases T a<;>rfl)) (by simp only[yc];first|rfl|(cases T a<;>rfl))
def Ko{a:Nat}{x y:Operand}:tQ T Γ N F ⟨dst,.store a x y,ty,pos,af,gd⟩ ops l ws Q t h e=Iv T Γ N F (HZ (T a) fun τ=>im τ (EH h) (ev t x) (ev t y)) (HZ (T a) fun τ=>yd τ e h (ev t x) (ev t y)) dst ops l ws Q t h e:=By (fun _ _ _ b=>by cases b) rfl (by cases dst<;>rfl) (by simp only[tR];first|rfl|(cases T a<;>rfl)) (by simp only[yc];first|rfl|(cases T a<;>rfl))
def Ku{a:Nat}{x y:Operand}:wm T Γ N F ⟨dst,.store a x y,ty,pos,af,gd⟩ ops l ws Q t h e fs=Iw T Γ N F (HZ (T a) fun τ=>im τ (EH h) (ev t x) (ev t y)) (HZ (T a) fun τ=>yd τ e h (ev t x) (ev t y)) dst (cR ⟨dst,.store a x y,ty,pos,af,gd⟩ (ev t)) ops l ws Q t h e fs:=BB (fun _ _ _ b=>by cases b) rfl (by cases dst<;>rfl) (by simp only[tR];first|rfl|(cases T a<;>rfl)) (by simp only[yc];first|rfl|(cases T a<;>rfl))
def BA{x:Operand}:tQ T Γ N F ⟨dst,.nilCheck x,ty,pos,af,gd⟩ ops l ws Q t h e=DA T Γ N F (p8 (EH h) (ev t x)) dst ops l ws Q t h e:=gM (fun _ _ _ a=>by cases a) rfl
def BC{x:Operand}:wm T Γ N F ⟨dst,.nilCheck x,ty,pos,af,gd⟩ ops l ws Q t h e fs=Md T Γ N F (p8 (EH h) (ev t x)) dst (cR ⟨dst,.nilCheck x,ty,pos,af,gd⟩ (ev t)) ops l ws Q t h e fs:=lk (fun _ _ _ a=>by cases a) rfl
def zU{a i:Nat}{x:Operand}:tQ T Γ N F ⟨dst,.fieldAddr a x i,ty,pos,af,gd⟩ ops l ws Q t h e=DA T Γ N F (HZ (T a) fun τ=>gR T τ (EH h) i (ev t x)) dst ops l ws Q t h e:=gM (fun _ _ _ b=>by cases b) (by simp only[tR];first|rfl|(cases T a<;>rfl))
def zY{a i:Nat}{x:Operand}:wm T Γ N F ⟨dst,.fieldAddr a x i,ty,pos,af,gd⟩ ops l ws Q t h e fs=Md T Γ N F (HZ (T a) fun τ=>gR T τ (EH h) i (ev t x)) dst (cR ⟨dst,.fieldAddr a x i,ty,pos,af,gd⟩ (ev t)) ops l ws Q t h e fs:=lk (fun _ _ _ b=>by cases b) (by simp only[tR];first|rfl|(cases T a<;>rfl))
def zV{a:Nat}{x i:Operand}:tQ T Γ N F ⟨dst,.indexAddr a x i,ty,pos,af,gd⟩ ops l ws Q t h e=DA T Γ N F (HZ (T a) fun τ=>cX T τ (EH h) (ev t x) (ev t i)) dst ops l ws Q t h e:=gM (fun _ _ _ b=>by cases b) (by simp only[tR];first|rfl|(cases T a<;>rfl))
def zZ{a:Nat}{x i:Operand}:wm T Γ N F ⟨dst,.indexAddr a x i,ty,pos,af,gd⟩ ops l ws Q t h e fs=Md T Γ N F (HZ (T a) fun τ=>cX T τ (EH h) (ev t x) (ev t i)) dst (cR ⟨dst,.indexAddr a x i,ty,pos,af,gd⟩ (ev t)) ops l ws Q t h e fs:=lk (fun _ _ _ b=>by cases b) (by simp only[tR];first|rfl|(cases T a<;>rfl))
def Kl{a:Nat}{x i:Operand}:tQ T Γ N F ⟨dst,.index a x i,ty,pos,af,gd⟩ ops l ws Q t h e=DA T Γ N F (HZ (T a) fun τ=>nh T τ (ev t x) (ev t i)) dst ops l ws Q t h e:=gM (fun _ _ _ b=>by cases b) (by simp only[tR];first|rfl|(cases T a<;>rfl))
def Km{a:Nat}{x:Operand}{b c d:Option Operand}:tQ T Γ N F ⟨dst,.slice a x b c d,ty,pos,af,gd⟩ ops l ws Q t h e=DA T Γ N F (HZ (T a) fun τ=>iP T τ (EH h) (ev t x) (b.map (ev t)) (c.map (ev t)) (d.map (ev t))) dst ops l ws Q t h e:=gM (fun _ _ _ f=>by cases f) (by simp only[tR];first|rfl|(cases T a<;>rfl))
def Kk{a:Nat}{b:List (Nat×Operand)}:tQ T Γ N F ⟨dst,.build a b.toArray,ty,pos,af,gd⟩ ops l ws Q t h e=DA T Γ N F (HZ (T a) fun τ=>s5 Γ.own T τ (EH h) dst (b.map fun p=>(p.1,ev t p.2))) dst ops l ws Q t h e:=gM (fun _ _ _ c=>by cases c) (by simp only[tR];first|rfl|(cases T a<;>rfl))
def Kr{a:Nat}{b:List (Nat×Operand)}:wm T Γ N F ⟨dst,.build a b.toArray,ty,pos,af,gd⟩ ops l ws Q t h e fs=Md T Γ N F (HZ (T a) fun τ=>s5 Γ.own T τ (EH h) dst (b.map fun p=>(p.1,ev t p.2))) dst (cR ⟨dst,.build a b.toArray,ty,pos,af,gd⟩ (ev t)) ops l ws Q t h e fs:=lk (fun _ _ _ c=>by cases c) (by simp only[tR];first|rfl|(cases T a<;>rfl))
def xR{a len d:Nat}{b:List (Nat×Operand)}:tQ T Γ N F ⟨some d,.buildSlice a len b.toArray,ty,pos,af,gd⟩ ops l ws Q t h e=DA T Γ N F (HZ (T a) fun τ=>fi T τ (EH h) e d len (b.map fun p=>(p.1,ev t p.2))) (some d) ops l ws Q t h e:=gM (fun _ _ _ c=>by cases c) (by simp only[tR];first|rfl|(cases T a<;>rfl))
def xS{a len d:Nat}{b:List (Nat×Operand)}:wm T Γ N F ⟨some d,.buildSlice a len b.toArray,ty,pos,af,gd⟩ ops l ws Q t h e fs=Md T Γ N F (HZ (T a) fun τ=>fi T τ (EH h) e d len (b.map fun p=>(p.1,ev t p.2))) (some d) (cR ⟨some d,.buildSlice a len b.toArray,ty,pos,af,gd⟩ (ev t)) ops l ws Q t h e fs:=lk (fun _ _ _ c=>by cases c) (by simp only[tR];first|rfl|(cases T a<;>rfl))
def Hs(T:Nat->Option Ty)(e d a:Nat)(x y:D):Option (Nat×Nat×Nat)->Option cv
 | some p=>(match T a with|some τ=>pK T τ e d p.1 p.2.1 p.2.2 x y|none=>none)
 | none=>none
def Lh{d a:Nat}{x y:D}:Hs T e d a x y none=none:=amP
def Li{d a:Nat}{x y:D}{p:Nat×Nat×Nat}{τ:Ty}(b:T a=some τ):Hs T e d a x y (some p)=pK T τ e d p.1 p.2.1 p.2.2 x y:=by simp only[Hs,b]
def stM(y x:Option cv)(dst:Option Nat)(ops l:List Oper)(ws:List W)(Q:Kt)(t:Nat->D)(h:Nat->Option Row)(e:Nat):Prop :=
 match y with
 | some E=>Zl T Γ N F (some E) dst ops l ws Q t h e
 | none=>DA T Γ N F x dst ops l ws Q t h e
def agH(y x:Option cv)(dst:Option Nat)(a:List Nat)(ops l:List Oper)(ws:List W)(Q:Kt)(t:Nat->D)(h:Nat->Option Row)(e:Nat)(fs:List mP):Prop :=
 match y with
 | some E=>aeT T Γ N F (some E) dst a ops l ws Q t h e fs
 | none=>Md T Γ N F x dst a ops l ws Q t h e fs
def zW{a d:Nat}{x y:Operand}:tQ T Γ N F ⟨some d,.makeSlice a x y,ty,pos,af,gd⟩ ops l ws Q t h e=stM (T:=T) (Γ:=Γ) (N:=N) (F:=F) (Hs T e d a (ev t x) (ev t y) (Γ.nst d)) (HZ (T a) fun τ=>ui T τ e d (ev t x) (ev t y)) (some d) ops l ws Q t h e:=by
 have b:jg T Γ e ⟨some d,.makeSlice a x y,ty,pos,af,gd⟩ (ev t)=Hs T e d a (ev t x) (ev t y) (Γ.nst d):=by
  unfold jg Hs;grind
 cases c:Hs T e d a (ev t x) (ev t y) (Γ.nst d) with
 | none=>exact gM (fun _ _ _ f=>by cases f) (by simp only[tR];first|rfl|(cases T a<;>rfl)) (b.trans c)
 | some E=>unfold tQ S0 se;rw[b,c];rfl
def z6{a d:Nat}{x y:Operand}:wm T Γ N F ⟨some d,.makeSlice a x y,ty,pos,af,gd⟩ ops l ws Q t h e fs=agH (T:=T) (Γ:=Γ) (N:=N) (F:=F) (Hs T e d a (ev t x) (ev t y) (Γ.nst d)) (HZ (T a) fun τ=>ui T τ e d (ev t x) (ev t y)) (some d) (cR ⟨some d,.makeSlice a x y,ty,pos,af,gd⟩ (ev t)) ops l ws Q t h e fs:=by
 have b:jg T Γ e ⟨some d,.makeSlice a x y,ty,pos,af,gd⟩ (ev t)=Hs T e d a (ev t x) (ev t y) (Γ.nst d):=by
  unfold jg Hs;grind
 cases c:Hs T e d a (ev t x) (ev t y) (Γ.nst d) with
 | none=>exact lk (fun _ _ _ f=>by cases f) (by simp only[tR];first|rfl|(cases T a<;>rfl)) (b.trans c)
 | some E=>unfold wm S0 se;rw[b,c];rfl
def Sz{x:Option cv}:stM (T:=T) (Γ:=Γ) (N:=N) (F:=F) none x dst ops l ws Q t h e=DA T Γ N F x dst ops l ws Q t h e:=amP
def L9{x:Option cv}{a:List Nat}:agH (T:=T) (Γ:=Γ) (N:=N) (F:=F) none x dst a ops l ws Q t h e fs=Md T Γ N F x dst a ops l ws Q t h e fs:=amP
def SA{x:Option cv}{E:cv}:stM (T:=T) (Γ:=Γ) (N:=N) (F:=F) (some E) x dst ops l ws Q t h e=Zl T Γ N F (some E) dst ops l ws Q t h e:=amP
def alN(T:Nat->Option Ty)(e d a:Nat):Option (Nat×Nat×Nat)->Option cv
 | some p=>(match T a with|some τ=>mkA τ a e d p.1 p.2.1 p.2.2|none=>none)
 | none=>none
def OC{d a:Nat}:alN T e d a none=none:=amP
def OD{d a:Nat}{p:Nat×Nat×Nat}{τ:Ty}(b:T a=some τ):alN T e d a (some p)=mkA τ a e d p.1 p.2.1 p.2.2:=by simp only[alN,b]
def Ki{a d:Nat}:tQ T Γ N F ⟨some d,.alloc a,ty,pos,af,gd⟩ ops l ws Q t h e=stM (T:=T) (Γ:=Γ) (N:=N) (F:=F) (alN T e d a (Γ.nst d)) (FJ (T a) a d e (Γ.hint d)) (some d) ops l ws Q t h e:=by
 have b:jg T Γ e ⟨some d,.alloc a,ty,pos,af,gd⟩ (ev t)=alN T e d a (Γ.nst d):=by
  unfold jg alN;grind
 cases c:alN T e d a (Γ.nst d) with
 | none=>exact gM (fun _ _ _ f=>by cases f) (by simp only[tR];cases T a with|none=>rfl|some τ=>(dsimp only[FJ];cases Γ.hint d<;>rfl)) (b.trans c)
 | some E=>unfold tQ S0 se;rw[b,c];rfl
def Kp{a d:Nat}:wm T Γ N F ⟨some d,.alloc a,ty,pos,af,gd⟩ ops l ws Q t h e fs=agH (T:=T) (Γ:=Γ) (N:=N) (F:=F) (alN T e d a (Γ.nst d)) (FJ (T a) a d e (Γ.hint d)) (some d) (cR ⟨some d,.alloc a,ty,pos,af,gd⟩ (ev t)) ops l ws Q t h e fs:=by
 have b:jg T Γ e ⟨some d,.alloc a,ty,pos,af,gd⟩ (ev t)=alN T e d a (Γ.nst d):=by
  unfold jg alN;grind
 cases c:alN T e d a (Γ.nst d) with
 | none=>exact lk (fun _ _ _ f=>by cases f) (by simp only[tR];cases T a with|none=>rfl|some τ=>(dsimp only[FJ];cases Γ.hint d<;>rfl)) (b.trans c)
 | some E=>unfold wm S0 se;rw[b,c];rfl
def D2{a d:Nat}:tQ T Γ N F ⟨some d,.makeMap a none,ty,pos,af,gd⟩ ops l ws Q t h e=DA T Γ N F (aca T (T a) a e d) (some d) ops l ws Q t h e:=gM (fun _ _ _ b=>by cases b) (by simp only[tR];first|rfl|(cases T a<;>rfl))
def Ga{a:Nat}{m i:Operand}{b:Bool}:tQ T Γ N F ⟨dst,.lookup a m i b,ty,pos,af,gd⟩ ops l ws Q t h e=DA T Γ N F (HZ (T a) fun τ=>jm T τ (EH h) (ev t m) (ev t i) b) dst ops l ws Q t h e:=gM (fun _ _ _ c=>by cases c) (by simp only[tR];first|rfl|(cases T a<;>rfl))
def zX{a:Nat}{m i x:Operand}:tQ T Γ N F ⟨dst,.mapUpdate a m i x,ty,pos,af,gd⟩ ops l ws Q t h e=DA T Γ N F (HZ (T a) fun τ=>eQ T τ (EH h) (ev t m) (ev t i) (ev t x)) dst ops l ws Q t h e:=gM (fun _ _ _ b=>by cases b) (by simp only[tR];first|rfl|(cases T a<;>rfl))
def VS{a d:Nat}{x:Operand}:tQ T Γ N F ⟨some d,.box a x,ty,pos,af,gd⟩ ops l ws Q t h e=DA T Γ N F (ahw (gD (EH h) (ev t x)) (EH h) a d e) (some d) ops l ws Q t h e:=gM (fun _ _ _ b=>by cases b) (by simp only[tR];first|rfl|(cases gD (EH h) (ev t x)<;>rfl))
def D0{a b:Nat}{x:Operand}:tQ T Γ N F ⟨dst,.convert a b x,ty,pos,af,gd⟩ ops l ws Q t h e=DA T Γ N F (aaD (T b) (T a) (ev t x)) dst ops l ws Q t h e:=gM (fun _ _ _ c=>by cases c) rfl
def D4{a b:Nat}{x:Operand}:wm T Γ N F ⟨dst,.convert a b x,ty,pos,af,gd⟩ ops l ws Q t h e fs=Md T Γ N F (aaD (T b) (T a) (ev t x)) dst (cR ⟨dst,.convert a b x,ty,pos,af,gd⟩ (ev t)) ops l ws Q t h e fs:=lk (fun _ _ _ c=>by cases c) rfl
def D1{x:Nat}{i:Nat}:tQ T Γ N F ⟨dst,.extract (.tmp x) i,ty,pos,af,gd⟩ ops l ws Q t h e=DA T Γ N F (adZ (t x) i) dst ops l ws Q t h e:=gM (fun _ _ _ a=>by cases a) rfl
def D5{x:Nat}{i:Nat}:wm T Γ N F ⟨dst,.extract (.tmp x) i,ty,pos,af,gd⟩ ops l ws Q t h e fs=Md T Γ N F (adZ (t x) i) dst (cR ⟨dst,.extract (.tmp x) i,ty,pos,af,gd⟩ (ev t)) ops l ws Q t h e fs:=lk (fun _ _ _ a=>by cases a) rfl
def cnL(Γ:Env)(e:Nat)(h:Nat->Option Row)(g:Nat)(a:List D):Option (Nat×(Nat->Nat->Nat->Nat->List D->List D->Option (D×List D)))->Option cv
 | some _=>va Γ e h g a
 | none=>none
def Pg{g:Nat}{a:List D}:cnL Γ e h g a none=none:=amP
def Ph{g:Nat}{a:List D}{p:Nat×(Nat->Nat->Nat->Nat->List D->List D->Option (D×List D))}:cnL Γ e h g a (some p)=va Γ e h g a:=amP
def aa7{g:Nat}{a:List D}:Ee Γ e h (some (.fn g,a))=cnL Γ e h g a (Γ.nx.lnd g):=by
 cases c:Γ.nx.lnd g with
 | some p=>rfl
 | none =>
  show va Γ e h g a=none;cases b:va Γ e h g a with
  | none=>rfl
  | some E =>
   obtain⟨_,_,_,_,_,_,_,_,_,_,_,_,_,_,_,_,d,_⟩:=wh b;simp_all
def VW{f k:Nat}{xs a:List D}:Ee Γ e h (some (.clo f k xs,a))=none:=amP
def aa6{d g:Nat}{a:List D}:qV Γ e h (some d) (some (.fn g,a))=Gt e d h a (Γ.nx.res g):=amP
def VV{dst:Option Nat}{f k:Nat}{xs a:List D}:qV Γ e h dst (some (.clo f k xs,a))=none:=by cases dst<;>rfl
def PF{d:Nat}{a:List D}:Gt e d h a none=none:=amP
def PG{d:Nat}{a:List D}{p:List D->Option (Nat×Nat×Nat×Nat×Nat×List D)}:Gt e d h a (some p)=J3 p e d (bZ (EH h) a):=amP
def OT{d:Nat}{akd:List D}{p:List D->Option (Nat×Nat×Nat×Nat×Nat×List D)}:J3 p e d (some (akd,[]))=MH e d (p akd):=amP
def J4{d ty a s S n:Nat}{cs:List D}(b:d<1000000):MH e d (some (ty,a,s,S,n,cs))=some ⟨.buf d e S 0 n,[(d,some ⟨e,ty,[.nr a s (4*e+2) cs],false,true,true⟩)]⟩:=if_pos (by rw[eD];exact b)
def stC(a x y:Option cv)(dst:Option Nat)(ops l:List Oper)(ws:List W)(Q:Kt)(t:Nat->D)(h:Nat->Option Row)(e:Nat):Prop :=
 match a with
 | some E=>Zl T Γ N F (some E) dst ops l ws Q t h e
 | none=>Iv T Γ N F x y dst ops l ws Q t h e
def aiw(b x y:Option cv)(dst:Option Nat)(a:List Nat)(ops l:List Oper)(ws:List W)(Q:Kt)(t:Nat->D)(h:Nat->Option Row)(e:Nat)(fs:List mP):Prop :=
 match b with
 | some E=>aeT T Γ N F (some E) dst a ops l ws Q t h e fs
 | none=>Iw T Γ N F x y dst a ops l ws Q t h e fs
def Sw{x y:Option cv}:stC (T:=T) (Γ:=Γ) (N:=N) (F:=F) none x y dst ops l ws Q t h e=Iv T Γ N F x y dst ops l ws Q t h e:=amP
def L5{x y:Option cv}{a:List Nat}:aiw (T:=T) (Γ:=Γ) (N:=N) (F:=F) none x y dst a ops l ws Q t h e fs=Iw T Γ N F x y dst a ops l ws Q t h e fs:=amP
def Sx{x y:Option cv}{E:cv}:stC (T:=T) (Γ:=Γ) (N:=N) (F:=F) (some E) x y dst ops l ws Q t h e=Zl T Γ N F (some E) dst ops l ws Q t h e:=amP
def Pq{x:Operand}{akd:List Operand}{a:Array Nat}:tQ T Γ N F ⟨dst,.call ⟨.value x,akd.toArray,a⟩,ty,pos,af,gd⟩ ops l ws Q t h e=stC (T:=T) (Γ:=Γ) (N:=N) (F:=F) (qV Γ e h dst (some (ev t x,akd.map (ev t)))) (jP Γ (EH h) e dst (ev t x) (akd.map (ev t))) (Ee Γ e h (some (ev t x,akd.map (ev t)))) dst ops l ws Q t h e:=by
 have b:jF (ev t) (.call ⟨.value x,akd.toArray,a⟩)=some (ev t x,akd.map (ev t)):=rfl;cases c:qV Γ e h dst (some (ev t x,akd.map (ev t))) with
 | none=>exact By (fun _ _ _ d=>by cases d) rfl (by rw[b];exact c) rfl rfl
 | some E=>unfold tQ S0 se;simp only[jg,b,c];rfl
def Pw{x:Operand}{akd:List Operand}{a:Array Nat}:wm T Γ N F ⟨dst,.call ⟨.value x,akd.toArray,a⟩,ty,pos,af,gd⟩ ops l ws Q t h e fs=aiw (T:=T) (Γ:=Γ) (N:=N) (F:=F) (qV Γ e h dst (some (ev t x,akd.map (ev t)))) (jP Γ (EH h) e dst (ev t x) (akd.map (ev t))) (Ee Γ e h (some (ev t x,akd.map (ev t)))) dst (cR ⟨dst,.call ⟨.value x,akd.toArray,a⟩,ty,pos,af,gd⟩ (ev t)) ops l ws Q t h e fs:=by
 have b:jF (ev t) (.call ⟨.value x,akd.toArray,a⟩)=some (ev t x,akd.map (ev t)):=rfl;cases c:qV Γ e h dst (some (ev t x,akd.map (ev t))) with
 | none=>exact BB (fun _ _ _ d=>by cases d) rfl (by rw[b];exact c) rfl rfl
 | some E=>unfold wm S0 se;simp only[jg,b,c];rfl
def DZ{x:Builtin}{akd:List Operand}{a:List Nat}:tQ T Γ N F ⟨dst,.call ⟨.builtin x,akd.toArray,a.toArray⟩,ty,pos,af,gd⟩ ops l ws Q t h e=DA T Γ N F (fw T (EH h) e dst x a (akd.map (ev t))) dst ops l ws Q t h e:=gM (fun _ _ _ b=>by cases b) rfl
def D3{x:Builtin}{akd:List Operand}{a:List Nat}:wm T Γ N F ⟨dst,.call ⟨.builtin x,akd.toArray,a.toArray⟩,ty,pos,af,gd⟩ ops l ws Q t h e fs=Md T Γ N F (fw T (EH h) e dst x a (akd.map (ev t))) dst (cR ⟨dst,.call ⟨.builtin x,akd.toArray,a.toArray⟩,ty,pos,af,gd⟩ (ev t)) ops l ws Q t h e fs:=lk (fun _ _ _ b=>by cases b) rfl
def bP{o:Array Oper}{A:Prop}(a:Gk o fs=true)(b:A):Gk o fs=true∧A:=⟨a,b⟩
def aw{b:Bool}{g:Nat}{x y:Code}(a:b=true->dr T Γ N F (.code x::ws) Q .normal (ca t g (.bool true)) h e)(c:b=false->dr T Γ N F (.code y::ws) Q .normal (ca t g (.bool false)) h e):Ob T Γ N F (.bool b) g x y ws Q t h e:=by rw[Zv];exact⟨a,c⟩
def fP{b:Bool}{g:Nat}{o:Oper}(a:b=true->tQ T Γ N F o ops l ws Q (ca t g (.bool true)) h e)(c:b=false->mV T Γ N F ops l ws Q (fT (ca t g (.bool false)) o.dst .skp) h e):zQ T Γ N F (.bool b) g true o ops l ws Q t h e:=by rw[Zw];exact⟨a,c⟩
def bL{b:Bool}{g:Nat}{o:Oper}(a:b=true->mV T Γ N F ops l ws Q (fT (ca t g (.bool true)) o.dst .skp) h e)(c:b=false->tQ T Γ N F o ops l ws Q (ca t g (.bool false)) h e):zQ T Γ N F (.bool b) g false o ops l ws Q t h e:=by rw[UT];exact⟨a,c⟩
def zC{b:Bool}{g:Nat}{o:Oper}(a:b=true->wm T Γ N F o ops l ws Q (ca t g (.bool true)) h e fs)(c:b=false->oa T Γ N F ops l ws Q (fT (ca t g (.bool false)) o.dst .skp) h e (fs++[⟨[],true⟩])):zR T Γ N F (.bool b) g true o ops l ws Q t h e fs:=by rw[Zx];exact⟨a,c⟩
def IH{b:Bool}{g:Nat}{o:Oper}(a:b=true->oa T Γ N F ops l ws Q (fT (ca t g (.bool true)) o.dst .skp) h e (fs++[⟨[],true⟩]))(c:b=false->wm T Γ N F o ops l ws Q (ca t g (.bool false)) h e fs):zR T Γ N F (.bool b) g false o ops l ws Q t h e fs:=by rw[UU];exact⟨a,c⟩
def abe(a:Mode)(T:Nat->Option Ty)(bY:Option (D×Row))(rs:List ResultVar)(r:RK×Option Row):Kt:=fun x t h e=>af7 a T bY rs x t h e r
def Eg{a:Mode}{bY:Option (D×Row)}{rs:List ResultVar}{r:RK×Option Row}:abe a T bY rs r .normal t h e=(gE a T bY rs ⟨t,EH h,e⟩=some r):=amP
def cZ{a:Mode}{bY:Option (D×Row)}{rs:List ResultVar}{r:RK×Option Row}:abe a T bY rs r .ret t h e=(gE a T bY rs ⟨t,EH h,e⟩=some r):=amP
def V2(T:Nat->Option Ty)(ty a s:Nat)(rs:List ResultVar)(r:D×List D):Kt:=fun x t h e =>
 match x with
 | .exit _=>False
 | _=>Yj T ty a s rs ⟨t,h,e⟩=some r
def BO{ty a s:Nat}{rs:List ResultVar}{r:D×List D}:V2 T ty a s rs r .normal t h e=(Yj T ty a s rs ⟨t,h,e⟩=some r):=amP
def KD{ty a s:Nat}{rs:List ResultVar}{r:D×List D}:V2 T ty a s rs r .ret t h e=(Yj T ty a s rs ⟨t,h,e⟩=some r):=amP
def abc(rs:List ResultVar)(r:Nat×Nat×Nat×Nat×Nat×List D):Kt:=fun x t h e =>
 match x with
 | .exit _=>False
 | _=>aba rs ⟨t,h,e⟩=some r
def KC{rs:List ResultVar}{r:Nat×Nat×Nat×Nat×Nat×List D}:abc rs r .ret t h e=(aba rs ⟨t,h,e⟩=some r):=amP
def V4{ty a s:Nat}{rs:List ResultVar}:Yj T ty a s rs ⟨t,h,e⟩=PS ty a s (yG T ⟨t,EH h,e⟩ rs) (h 0):=amP
def PT{ty a s nv:Nat}{lst:Bool}{b cs:List D}:PS ty a s (some (b,[])) (some ⟨0,ty,[.nr a s nv cs],false,lst,true⟩)=some (n9 b,cs):=by
 simp[PS,abd]
def V1{i:Nat}:aba [.tmp i] ⟨t,h,e⟩=V0 h (t i):=amP
def KB{x v S n:Nat}:V0 h (.buf x v S 0 n)=PQ x v S n (h x):=amP
def PR{x v S n ty a s nv:Nat}{lst:Bool}{cs:List D}(b:x<1000000):PQ x v S n (some ⟨v,ty,[.nr a s nv cs],false,lst,true⟩)=some (ty,a,s,S,n,cs):=by
 have:x<PK:=by rw[eD];exact b
 simp[PQ,abb,this]
def zD{d:Func}{c:Code}{n ty b s o:Nat}{cs a:List D}{rs:List ResultVar}{r:D×List D}(g:d.body=some c)(h:d.ntmps=n)(i:d.results=rs.toArray)(j:dr T Γ n F [.code c] (V2 T ty b s rs r) .normal (Bp (.ptr 0 0 o::a)) (oJ (jA ty b s 0 cs)) 1)(e:n<=1000000:=by exact alK rfl):wW T Γ F d ty b s o cs a=some r:=by
 obtain⟨x,p,k,f⟩:=DH _ _ _ _ _ (show Oi T Γ n F c (Bp (.ptr 0 0 o::a)) (oJ (jA ty b s 0 cs)) 1 (V2 T ty b s rs r) from j);unfold wW;simp only[g,h];rw[if_pos (by rw[eD];exact e)];have l:wS ty b s o cs a=⟨Bp (.ptr 0 0 o::a),oJ (jA ty b s 0 cs),1⟩:=rfl;rw[l,k,i];cases x with
 | normal=>exact f
 | ret=>exact f
 | exit m=>exact f.elim
def ZG{b:Func}{c:Code}{n:Nat}{a:List D}{rs:List ResultVar}{r:Nat×Nat×Nat×Nat×Nat×List D}(f:b.body=some c)(g:b.ntmps=n)(h:b.results=rs.toArray)(i:dr T Γ n F [.code c] (abc rs r) .normal (Bp a) Lu 0)(d:n<=1000000:=by exact alK rfl):Be T Γ F b a=some r:=by
 obtain⟨x,l,j,e⟩:=DH _ _ _ _ _ (show Oi T Γ n F c (Bp a) Lu 0 (abc rs r) from i);unfold Be;simp only[f,g];rw[if_pos (by rw[eD];exact d)];have k:cF none a=⟨Bp a,Lu,0⟩:=rfl;rw[k,j,h];cases x with
 | normal=>exact e
 | ret=>exact e
 | exit m=>exact e.elim
def aL{a:Mode}{d:Func}{c:Code}{n:Nat}{rs:List ResultVar}{b:List D}{r:RK×Option Row}(g:d.body=some c)(f:d.ntmps=n)(h:d.results=rs.toArray)(i:dr T Γ n F [.code c] (abe a T none rs r) .normal (Bp b) Lu 0)(e:n<=1000000:=by exact alK rfl):kN a T Γ F d none b=some r:=by
 refine U6 ?_ (by rw[f];exact e);unfold wpf;rw[g,f,h];exact i
def R7(r:Row)(i:Nat):oJ r i=if i=0 then some r else none:=amP
def IQ{a:Mode}{d:Func}{c:Code}{n:Nat}{rs:List ResultVar}{d0:D}{ty:Nat}{cells:List D}{fz lst:Bool}{b:List D}{r:RK×Option Row}(g:d.body=some c)(f:d.ntmps=n)(h:d.results=rs.toArray)
  (i:dr T Γ n F [.code c] (abe a T (some (d0,⟨0,ty,cells,fz,lst,false⟩)) rs r) .normal (Bp (d0::b)) (oJ ⟨0,ty,cells,fz,lst,false⟩) 1) (e:n<=1000000:=by exact alK rfl):kN a T Γ F d (some (d0,⟨0,ty,cells,fz,lst,false⟩)) b=some r:=by
 refine U6 ?_ (by rw[f];exact e);unfold wpf;rw[g,f,h];exact i
end
section
variable {h:Nat->Option Row} {k x o v ty fz' nv s n e:Nat} {cs xs:List D} {fz lst:Bool}
def ZQ(a:k<2000000):EH h k=(h k).map (Fc k):=sJ (by rw[eD];exact a)
def ae2(a:x<1000000):EH h (NK x o)=(h x).bind fun r=>tx r o:=sH (by rw[eD];exact a)
def L2:Fc k ⟨v,ty,cs,fz,lst,false⟩=⟨v,ty,cs,fz,lst,false⟩:=amP
def W4{a:List ec}:Fc k ⟨v,ty,[.mpc a xs],fz,lst,true⟩=⟨v,ty,[.mpc a xs],fz,lst,true⟩:=amP
def acE{t:Nat}:Fc k ⟨v,ty,[.nr t s nv cs],fz,lst,true⟩=⟨v,ty,cs.mapIdx (vB k s),fz,lst,true⟩:=amP
def Rg{t:Nat}:tx ⟨v,ty,[.nr t s nv cs],fz,lst,true⟩ o=Et t nv fz (cs.drop o).head?:=amP
def Rf:Et ty nv fz (some (.nx n xs))=some ⟨nv,ty,xs,fz,true,false⟩:=amP
def afK(a:x<1000000):rt (NK x o)=x:=xe (by rw[eD];exact a)
def KX:mM h []=[]:=amP
def KW{r:Option Row}{l:List (Nat×Option Row)}(a:k<2000000):mM h ((k,r)::l)=(k,Jl r)::mM (ca h k (Jl r)) l:=by
 have b:rt k=k:=iV (by rw[eD];exact a);have c:Cf h k r=Jl r:=if_pos (by rw[eD];exact a);simp only[mM,b,c]
def P3{r:Option Row}{l:List (Nat×Option Row)}(b:x<1000000):mM h ((NK x o,r)::l)=(x,(h x).map (H8 o r))::mM (ca h x ((h x).map (H8 o r))) l:=by
 have a:x<PK:=by rw[eD];exact b
 have c:rt (NK x o)=x:=xe a;have d:Cf h (NK x o) r=(h x).map (H8 o r):=by
  unfold Cf;rw[if_neg (by have:=iz x o;omega),xA o a,FA o a]
 simp only[mM,c,d]
def Lt:Jl none=none:=amP
def Hv:Jl (some ⟨v,ty,cs,fz,lst,false⟩)=some ⟨v,ty,cs,fz,lst,false⟩:=amP
def Rj{a:List ec}:Jl (some ⟨v,ty,[.mpc a xs],fz,lst,true⟩)=some ⟨v,ty,[.mpc a xs],fz,lst,true⟩:=amP
def WU{t:Nat}{r:Option Row}:H8 o r ⟨v,ty,[.nr t s nv cs],fz,lst,true⟩=⟨v,ty,Ir t s nv fz cs o r (cs.drop o).head?,fz,lst,true⟩:=amP
def W0{t b:Nat}{a:List D}:Ir t s nv fz cs o (some ⟨b,t,a,fz,true,false⟩) (some (.nx n xs))=if b=nv then [.nr t s nv (putCells cs o [.nx n a])] else [.nr t s nv (putCells cs o [.und])]:=by
 by_cases c:b=nv<;>simp[Ir,RR,c]
def lvN(x v:Nat):Option Row->Option (Row×Nat×Nat×Nat×List D)
 | some r=>if r.v=v∧r.fz=false∧r.mp=true∧x<1000000 then nrO r r.cells else none
 | none=>none
def QN:iT h x v=lvN x v (h x):=by
 unfold iT lvN;rw[eD];cases h x<;>rfl
def abY{t:Nat}(a:x<1000000):lvN x v (some ⟨v,ty,[.nr t s nv cs],false,lst,true⟩)=some (⟨v,ty,[.nr t s nv cs],false,lst,true⟩,t,s,nv,cs):=by
 simp only[lvN,true_and,a,and_self,if_true,nrO]
def agi(τ:Ty)(x o:Nat):Option (Row×Nat×Nat×Nat×List D)->Option cv
 | some (r,ty,s,nv,cs)=>Nk τ x s nv o cs (cs.drop o).head?
 | none=>none
def Wt{τ:Ty}:s9 τ h (.ptr x v o)=agi τ x o (iT h x v):=by
 simp only[s9,agi];grind
def K6{τ:Ty}{r:Row}{t:Nat}:agi τ x o (some (r,t,s,nv,cs))=Nk τ x s nv o cs (cs.drop o).head?:=amP
def Wr{a:Ds}{b:Nat}{z:List Value}{q:Bool}:Nk ⟨a,1,b,z,q⟩ x s nv o cs (some (.nx n xs))=if a.vp=false then some ⟨.buf (NK x o) nv s 0 n,[]⟩ else none:=by
 simp only[Nk,true_and]
def aea(τ:Ty)(o:Nat)(cs:List D):Option cv :=
 if o+τ.size<=cs.length∧((cs.drop o).take τ.size).all eZ=true then okD (lL τ ((cs.drop o).take τ.size)) else none
def QF{τ:Ty}{a:IntKind}{i:Int}:Nk τ x s nv o cs (some (.int a i))=aea τ o cs:=amP
def Ws{τ:Ty}{a b:Bool}:Nk τ x s nv o cs (some (.sl a b n xs))=aea τ o cs:=amP
def aeS(τ:Ty)(e:Nat)(h:Nat->Option Row)(x o:Nat)(d:D):Option (Row×Nat×Nat×Nat×List D)->Option cv
 | some (r,ty,s,nv,cs)=>if o+τ.size<=cs.length∧0<τ.size then JA τ e h x r ty s nv cs o d else none
 | none=>none
def Xa{τ:Ty}{d:D}:p9 τ e h (.ptr x v o) d=aeS τ e h x o d (iT h x v):=by
 simp only[p9,aeS];grind
def Mb{a:Ds}{m b:Nat}{z:List Value}{q:Bool}{d:D}{r:Row}{t:Nat}(c:0<m)(f:o+m<=cs.length):aeS ⟨a,m,b,z,q⟩ e h x o d (some (r,t,s,nv,cs))=JA ⟨a,m,b,z,q⟩ e h x r t s nv cs o d:=by
 simp only[aeS,c,f,and_self,if_true]
def agI(x:Nat)(r:Row)(ty s:Nat)(cs:List D)(o y n:Nat)(b:Option Nat):Option Row->Option cv
 | some q=>if q.fz=false∧q.lst=true∧q.ty=ty∧q.cells.length=n*s then DB x r ty s cs o y n q b else none
 | none=>none
def Mc{c:Ds}{b y a:Nat}{z:List Value}{q:Bool}{r:Row}{t:Nat}(d:y<1000000):JA ⟨c,1,b,z,q⟩ e h x r t s nv cs o (.buf y a s 0 n)=agI x r t s cs o y n (bump nv e) (live h y a):=by
 have f:¬y=NK x o:=by have:=iz x o;rw[eD]at this;omega
 have g:y<PK:=by rw[eD];exact d
 simp only[JA,and_self,if_true,f,if_false,g]<;>cases live h y a<;>rfl
def Ma{r q:Row}{t a y:Nat}(b:q.fz=false∧q.lst=true∧q.ty=t∧q.cells.length=n*s):agI x r t s cs o y n (some a) (some q)=some ⟨.und,[(y,none),(x,some ⟨r.v,r.ty,[.nr t s a (putCells cs o [.nx n q.cells])],false,r.lst,true⟩)]⟩:=by
 simp only[agI,b,and_self,if_true,DB]
def SB{τ:Ty}{r:Row}{t:Nat}:JA τ e h x r t s nv cs o (.agg xs)=NW τ x r t s nv cs o (some xs):=amP
def Mh{τ:Ty}{r:Row}{t:Nat}{a:List D}:NW τ x r t s nv cs o (some a)=if a.length=τ.size∧a.all eZ=true then some ⟨.und,[(x,some ⟨r.v,r.ty,[.nr t s nv (putCells cs o (a.map canon))],false,r.lst,true⟩)]⟩ else none:=amP
def jO(a:nv<=4*e):bump nv e=some (4*e+1):=if_pos a
def aap(a:nv=4*e+2):bump nv e=some (4*e+3):=by unfold bump;simp_all
def RO{E:cv}{y:Option cv}:orE (some E) y=some E:=amP
def RN{y:Option cv}:orE none y=y:=amP
def abK(τ:Ty)(x o:Nat):Option (Row×Nat×Nat×Nat×List D)->Option cv
 | some (r,ty,s,nv,cs)=>if r.lst=false∧o=0∧cs.length=τ.size∧1<τ.size∧cs.all (AZ s)=true then T7 x r ty s nv (pG τ.size 0 cs) (lL τ (cs.map UX)) else none
 | none=>none
def Wq{τ:Ty}:yb τ h (.ptr x v o)=orE (abK τ x o (iT h x v)) (s9 τ h (.ptr x v o)):=by
 simp only[yb,s8]<;>cases iT h x v<;>rfl
def abL{τ:Ty}{a ty:Nat}{cells:List D}{fz mp:Bool}{t:Nat}:abK τ x o (some (⟨a,ty,cells,fz,true,mp⟩,t,s,nv,cs))=none:=by simp[abK]
def abM{τ:Ty}{a ty:Nat}{cells:List D}{fz mp:Bool}{t:Nat}:abK τ x o (some (⟨a,ty,cells,fz,false,mp⟩,t,s,nv,cs))=if o=0∧cs.length=τ.size∧1<τ.size∧cs.all (AZ s)=true then T7 x ⟨a,ty,cells,fz,false,mp⟩ t s nv (pG τ.size 0 cs) (lL τ (cs.map UX)) else none:=by
 simp only[abK,true_and]
def K5{r:Row}{t:Nat}{d:D}:T7 x r t s nv cs (some d)=some ⟨d,[(x,some ⟨r.v,r.ty,[.nr t s nv cs],false,r.lst,true⟩)]⟩:=amP
def acO(τ:Ty)(e x o:Nat)(d:D):Option (Row×Nat×Nat×Nat×List D)->Option cv
 | some (r,ty,s,nv,cs)=>if r.lst=false∧o=0∧cs.length=τ.size then UD τ.size e x r ty s nv cs d else none
 | none=>none
def W7{τ:Ty}{d:D}:yd τ e h (.ptr x v o) d=orE (acO τ e x o d (iT h x v)) (p9 τ e h (.ptr x v o) d):=by
 simp only[yd,tf]<;>cases iT h x v<;>rfl
def acP{τ:Ty}{d:D}{a ty:Nat}{cells:List D}{fz mp:Bool}{t:Nat}:acO τ e x o d (some (⟨a,ty,cells,fz,true,mp⟩,t,s,nv,cs))=none:=by simp[acO]
def acQ{τ:Ty}{d:D}{a ty:Nat}{cells:List D}{fz mp:Bool}{t:Nat}:acO τ e x o d (some (⟨a,ty,cells,fz,false,mp⟩,t,s,nv,cs))=if o=0∧cs.length=τ.size then UD τ.size e x ⟨a,ty,cells,fz,false,mp⟩ t s nv cs d else none:=by
 simp only[acO,true_and]
def SE{a t:Nat}{r:Row}:UD a e x r t s nv cs (.agg xs)=if xs.length=a then stZ x r t s (bump nv e) (vF cs xs) else none:=amP
def SD{r:Row}{t a:Nat}{b:List D}:stZ x r t s (some a) (some b)=some ⟨.und,[(x,some ⟨r.v,r.ty,[.nr t s a b],false,r.lst,true⟩)]⟩:=amP
def ajc:Option D->Option (List D)->Option (List D)
 | some y,some a=>some (y::a)
 | _,_=>none
def Mr{y:D}{a:List D}:ajc (some y) (some a)=some (y::a):=amP
def Ms:vF [] []=some []:=amP
def IU{c x:D}{cs xs:List D}:vF (c::cs) (x::xs)=ajc (S2 c x) (vF cs xs):=by
 simp only[vF];cases S2 c x<;>cases vF cs xs<;>rfl
def XI:S2 (.nx n xs) (.sl true true 0 [])=some (.nx 0 []):=amP
def XH{k a:IntKind}{i j:Int}:S2 (.int k i) (.int a j)=some (.int a j):=amP
def SZ{a b:D}:pG 2 0 [a,b]=[UX a,UX b]:=amP
def XA{k:IntKind}{i:Int}:UX (.int k i)=.int k i:=amP
def ada:UX (.nx n xs)=.sl false false n xs:=amP
def WK{k:IntKind}{i:Int}:AZ s (.int k i)=true:=amP
def aci:AZ s (.nx n xs)=(xs.length==n*s):=amP
end
section
variable {Γ:Env} {g d:Nat} {p:Nat×Nat×Nat}
def Wa{f:Nat}{l:Bool}{G:Option (D×Row)->List D->Option (RK×Option Row)}:(Am.ext Γ f l G).nst g=Γ.nst g:=amP
def Qz:(Am.keep d Γ).nst g=Γ.nst g:=amP
def Lp:bq.nst g=none:=amP
def Ru:(Am.xq d p Γ).nst g=if g=d then some p else Γ.nst g:=amP
def Hz:(Am.xq d p Γ).lends g=Γ.lends g:=amP
def Rw{l:Option (D×Row)}{akd:List D}:(Am.xq d p Γ).sem g l akd=Γ.sem g l akd:=amP
def Rv:(Am.xq d p Γ).own g=Γ.own g:=amP
def Lx:(Am.xq d p Γ).hint g=Γ.hint g:=amP
def Rt:(Am.xq d p Γ).ins g=Γ.ins g:=amP
def Rs:(Am.xq d p Γ).grw g=Γ.grw g:=amP
def abg{f:Nat}{l:Bool}{G:Option (D×Row)->List D->Option (RK×Option Row)}:(Am.ext Γ f l G).nx=Γ.nx:=amP
def Wm:(Am.keep d Γ).nx=Γ.nx:=amP
def Wj{f:Nat}:(Am.Hb f p Γ).nx=Γ.nx:=amP
def WI:(Am.xq d p Γ).nx=Γ.nx:=amP
def Lo:bq.nx.lnd g=none:=amP
def Lr:bq.nx.res g=none:=amP
end
section
variable {Γ:Env} {g d f:Nat} {p:Nat×(Nat->Nat->Nat->Nat->List D->List D->Option (D×List D))}
def QQ:(Am.si f p Γ).nx.lnd g=if g=f then some p else Γ.nx.lnd g:=amP
def QT:(Am.si f p Γ).nx.res g=Γ.nx.res g:=amP
def Hj:(Am.si f p Γ).lends g=Γ.lends g:=amP
def QU{l:Option (D×Row)}{akd:List D}:(Am.si f p Γ).sem g l akd=Γ.sem g l akd:=amP
def QS:(Am.si f p Γ).own g=Γ.own g:=amP
def Lc:(Am.si f p Γ).hint g=Γ.hint g:=amP
def QP:(Am.si f p Γ).ins g=Γ.ins g:=amP
def QO:(Am.si f p Γ).grw g=Γ.grw g:=amP
def QR:(Am.si f p Γ).nst g=Γ.nst g:=amP
end
section
variable {Γ:Env} {g d f:Nat} {p:List D->Option (Nat×Nat×Nat×Nat×Nat×List D)}
def Rq:(Am.B9 f p Γ).nx.res g=if g=f then some p else Γ.nx.res g:=amP
def Rn:(Am.B9 f p Γ).nx.lnd g=Γ.nx.lnd g:=amP
def Hy:(Am.B9 f p Γ).lends g=Γ.lends g:=amP
def Rr{l:Option (D×Row)}{akd:List D}:(Am.B9 f p Γ).sem g l akd=Γ.sem g l akd:=amP
def Rp:(Am.B9 f p Γ).own g=Γ.own g:=amP
def Lw:(Am.B9 f p Γ).hint g=Γ.hint g:=amP
def Rm:(Am.B9 f p Γ).ins g=Γ.ins g:=amP
def Rl:(Am.B9 f p Γ).grw g=Γ.grw g:=amP
def Ro:(Am.B9 f p Γ).nst g=Γ.nst g:=amP
end
section
variable {Γ:Env} {h:Nat->Option Row} {e x v o g:Nat} {rest:List D}
def Tp(Γ:Env)(e:Nat)(h:Nat->Option Row)(g x o:Nat)(rest:List D):Option (Row×Nat×Nat×Nat×List D)->Option cv
 | some (r,ty,s,nv,cs)=>FZ e x r ty s nv cs o (Γ.nx.lnd g) (bZ (EH h) rest)
 | none=>none
def J5:va Γ e h g (.ptr x v o::rest)=Tp Γ e h g x o rest (iT h x v):=by
 simp only[va,Tp];grind
def DV{r:Row}{ty s nv:Nat}{cs:List D}:Tp Γ e h g x o rest (some (r,ty,s,nv,cs))=FZ e x r ty s nv cs o (Γ.nx.lnd g) (bZ (EH h) rest):=amP
def DT{r:Row}{ty s nv:Nat}{cs akd:List D}{p:Nat×(Nat->Nat->Nat->Nat->List D->List D->Option (D×List D))}:FZ e x r ty s nv cs o (some p) (some (akd,[]))=MI x r ty s o p.1 (bump nv e) (p.2 r.ty ty s o cs akd):=amP
def DU{r:Row}{ty s b k:Nat}{d:D}{a:List D}:MI x r ty s o k (some b) (some (d,a))=if ((a.drop o).take k).all (AZ s)=true then some ⟨d,[(x,some ⟨r.v,r.ty,[.nr ty s b (pG k o a)],false,r.lst,true⟩)]⟩ else none:=amP
end
end Go.Proofs.YtobnihfgnbnncaaGreat.Am
namespace Go.Proofs.YtobnihfgnbnncaaGreat.P
open Go.RowKit
def FU:Nat:=1000000000000000000000000
def rM{σ ρ:Type}(a:σ->Option (σ⊕ρ)):Nat->σ->Option ρ
 | 0,_=>none
 | n+1,s =>
  match a s with
  | some (.inl s')=>rM a n s'
  | some (.inr r)=>some r
  | none=>none
def aT{σ ρ:Type}(a:σ->Option (σ⊕ρ))(s:σ):Option ρ:=rM a FU s
def abG{σ ρ:Type}{a:σ->Option (σ⊕ρ)}(I:σ->Prop)(μ:σ->Nat)(Q:ρ->Prop)
  (b:∀s,I s->(∃c,a s=some (.inl c)∧I c∧μ c<μ s)∨(∃r,a s=some (.inr r)∧Q r)):∀(n:Nat)(s:σ),I s->μ s<n->∃r,rM a n s=some r∧Q r:=by
 intro n
 induction n with
 | zero=>intro s _ h;omega
 | succ n f =>
  intro s g k;rcases b s g with⟨c,d,e,l⟩|⟨r,d,e⟩
  ·obtain⟨r,i,j⟩:=f c e (by omega);exact⟨r,by simp only[rM,d];exact i,j⟩
  ·exact⟨r,by simp only[rM,d],e⟩
def B0{σ ρ:Type}{body:σ->Option (σ⊕ρ)}(I:σ->Prop)(μ:σ->Nat)(Q:ρ->Prop){s:σ}(c:I s)(d:μ s<FU)
  (a:∀s,I s->(∃b,body s=some (.inl b)∧I b∧μ b<μ s)∨(∃r,body s=some (.inr r)∧Q r)):∃r,aT body s=some r∧Q r:=abG I μ Q a FU s c d
def idx{α:Type}(l:List α)(i:Int):Option α:=if 0<=i∧i<l.length then l[i.toNat]? else none
def Fs{α:Type}(l:List α)(a b:Int):Option (List α):=if 0<=a∧a<=b∧b<=l.length then some ((l.drop a.toNat).take (b.toNat-a.toNat)) else none
def Hr{α:Type}(bytes:Nat)(n c:Int)(z:α):Option (List α):=if 0<=n∧n<=c∧c<=maxLen∧c.toNat*bytes<=140737488355328 then some (List.replicate n.toNat z) else none
abbrev Bd(σ ρ:Type):Type:=σ->Option (σ⊕ρ)
def oQ{α:Type}(bytes:Nat)(l m:List α):Option (List α):=if l.length+m.length<=maxLen∧(l.length+m.length)*bytes<=140737488355328 then some (l++m) else none
def abE{α:Type}(bytes:Nat)(l:List α)(i:Int)(xs:List α):Option (List α):=if 0<=i∧i<=l.length∧0<xs.length∧(l.length+xs.length)*bytes<=140737488355328 then some (l.take i.toNat++(xs++l.drop i.toNat)) else none
def aaI{α:Type}(l:List α)(i j:Int):Option (List α):=if 0<=i∧i<=j∧j<=l.length∧l.length<=maxLen then some (l.take i.toNat++l.drop j.toNat) else none
def RL{α:Type}(x:Bool×α):Option α:=if x.1=true then none else some x.2
def Ss{α:Type}(x:Bool×α):Option α:=if x.1=true then some x.2 else none
def KR{α:Type}(l:List α):List (Bool×α):=l.map fun x=>(false,x)
def X8(k:IntKind)(x y:Int):Option Int:=if y=0 then none else some (k.wrap (x.tdiv y))
def Q9(_:IntKind)(x y:Int):Option Int:=if y=0 then none else some (x.tmod y)
def Jy(k:IntKind)(x y:Int):Option Int:=if y<0 then none else some (k.wrap (x*2 ^ (min y.toNat k.bits)))
def Ba(k:IntKind)(x y:Int):Option Int:=if y<0 then none else some (x.fdiv (2 ^ (min y.toNat k.bits)))
def nd(op:BinOp)(k:IntKind)(x y:Int):Int :=
 let a:=BitVec.ofInt k.bits x
 let b:=BitVec.ofInt k.bits y
 match op with
 | .and=>k.wrap (a &&& b).toNat
 | .or=>k.wrap (a ||| b).toNat
 | .xor=>k.wrap (a ^^^ b).toNat
 | _=>k.wrap (a &&& ~~~b).toNat
def gI{κ α:Type}[DecidableEq κ](z:α):List (κ×α)->κ->α
 | [],_=>z
 | (k,v)::m,n=>if k=n then v else gI z m n
def pJ{κ α:Type}[DecidableEq κ]:List (κ×α)->κ->Bool
 | [],_=>false
 | (k,_)::m,n=>k==n||pJ m n
def tH{κ α:Type}[DecidableEq κ]:List (κ×α)->κ->α->List (κ×α)
 | [],n,v=>[(n,v)]
 | (k,x)::m,n,v=>if k=n then (k,v)::m else (k,x)::tH m n v
def rO(l:List Int):List Int:=l.mergeSort fun x y=>decide (x<=y)
def sD(l:List Int):(rO l).length=l.length:=List.length_mergeSort l
def L4:rO []=[]:=by simp[rO]
def ae{α β:Type}{o:Option α}{f:α->Option β}{r:β}(h:o.bind f=some r):∃a,o=some a∧f a=some r:=by
 cases o with
 | none=>cases h
 | some a=>exact⟨a,rfl,h⟩
def ahI{α:Type}{b:Bool}{x y r:α}(a:b=true)(h:(if b=true then x else y)=r):x=r:=by rw[if_pos a]at h;exact h
def ahH{α:Type}{b:Bool}{x y r:α}(a:b=false)(h:(if b=true then x else y)=r):y=r:=by rw[a]at h;simpa using h
def ai{a b:Prop}(x:a)(y:b):a∧b:=⟨x,y⟩
def sp{α:Type}{b:Bool}{P1 P2 Q:Prop}{x y r:α}(k:(b=true->P1)->(b=false->P2)->Q)(h:(if b=true then x else y)=r)(h1:b=true->x=r->P1)(h2:b=false->y=r->P2):Q:=k (fun a=>h1 a (ahI a h)) fun a=>h2 a (ahH a h)
end Go.Proofs.YtobnihfgnbnncaaGreat.P
namespace Go.Proofs.YtobnihfgnbnncaaGreat.Am
open Go.RowKit Go.Proofs.YtobnihfgnbnncaaGreat.P
structure iK(α:Type) where
 cells:α->List D
 size:Nat
 len:∀x,(cells x).length=size
 pos:0<size
 inj:∀x y,cells x=cells y->x=y
def al{α:Type}(e:iK α):List α->List D
 | []=>[]
 | x::l=>e.cells x++al e l
section
variable {α β:Type} (e:iK α)
def BN:al e []=[]:=rfl
def b9(x:α)(l:List α):al e (x::l)=e.cells x++al e l:=rfl
def iC:∀l m:List α,al e (l++m)=al e l++al e m
 | [],m=>rfl
 | x::l,m=>by rw[alY,b9,b9,iC l m,alZ]
def bF:∀l:List α,(al e l).length=l.length*e.size
 | []=>by simp[al]
 | x::l=>by rw[b9,alh,bF l,e.len,akY,alP];omega
def qe:∀(l:List α)(i:Nat),(al e l).drop (i*e.size)=al e (l.drop i)
 | l,0=>by simp
 | [],i+1=>by simp[al]
 | x::l,i+1=>by
  rw[b9,al0,<- qe l i,alL,e.len,alM (by rw[e.len,alP];omega),alO];grind
def jn:∀(l:List α)(i:Nat),(al e l).take (i*e.size)=al e (l.take i)
 | l,0=>by simp[al]
 | [],i+1=>by simp[al]
 | x::l,i+1=>by
  rw[b9,al1,b9,List.take_append,e.len,alV (by rw[e.len,alP];omega),<- jn l i];grind
def ye:∀l m:List α,al e l=al e m->l=m
 | [],[],_=>rfl
 | [],y::m,h=>by
  have:=congrArg List.length h;have a:=e.pos;rw[b9,alh,e.len]at this;simp[al]at this;omega
 | x::l,[],h=>by
  have:=congrArg List.length h;have a:=e.pos;rw[b9,alh,e.len]at this;simp[al]at this;omega
 | x::l,y::m,h=>by
  rw[b9,b9]at h;obtain⟨b,c⟩:=al2 h (by rw[e.len,e.len]);rw[e.inj _ _ b,ye l m c]
def PO:∀(n:Nat)(x:α),qv n (e.cells x)=al e (List.replicate n x)
 | 0,x=>by simp[qv,al]
 | n+1,x=>by rw[ak4,b9,<- PO n x];simp[qv,List.replicate_succ]
end
def eI(k:IntKind):iK Int:=⟨fun n=>[.int k n],1,fun _=>rfl,by decide,fun x y h=>by simpa using h⟩
def jv:iK Bool:=⟨fun n=>[.bool n],1,fun _=>rfl,by decide,fun x y h=>by simpa using h⟩
def af4:iK ByteArray:=⟨fun n=>[.str n],1,fun _=>rfl,by decide,fun x y h=>by simpa using h⟩
def dW{α:Type}(e:iK α):iK (List α):=⟨fun l=>[.sl false false l.length (al e l)],1,fun _=>rfl,by decide,fun x y h=>by
 simp only[akD,D.sl.injEq,true_and,and_true]at h;exact ye e _ _ h.2⟩
def oo{α β:Type}(e:iK α)(f:iK β):iK (α×β):=⟨fun x=>e.cells x.1++f.cells x.2,e.size+f.size,fun x=>by rw[alh,e.len,f.len],akl e.pos (Nat.le_add_right _ _),fun x y h=>by
 obtain⟨a,b⟩:=al2 h (by rw[e.len,e.len]);exact Prod.ext (e.inj _ _ a) (f.inj _ _ b)⟩
def BL{α β:Type}(e:iK β)(f:α->β)(hf:∀x y,f x=f y->x=y):iK α:=⟨fun x=>e.cells (f x),e.size,fun x=>e.len _,e.pos,fun x y h=>hf _ _ (e.inj _ _ h)⟩
structure Arg(α:Type) where
 d:α->D
 inj:∀x y,d x=d y->x=y
def aI(k:IntKind):Arg Int:=⟨fun n =>.int k n,fun x y h=>by simpa using h⟩
def afb:Arg Bool:=⟨fun n =>.bool n,fun x y h=>by simpa using h⟩
def kb{α:Type}(e:iK α):Arg (List α):=⟨fun l =>.sl false false l.length (al e l),fun x y h=>by
 simp only[D.sl.injEq,true_and]at h;exact ye e _ _ h.2⟩
def bT{α:Type}(e:iK α):Arg α:=⟨fun x =>.agg (e.cells x),fun x y h=>e.inj _ _ (by simpa using h)⟩
def ahp(k:IntKind)(n:Int):(aI k).d n=.int k n:=amP
def Vr(n:Bool):afb.d n=.bool n:=amP
def afd{α:Type}(e:iK α)(l:List α):(kb e).d l=.sl false false l.length (al e l):=amP
def Z5{α:Type}(e:iK α)(x:α):(bT e).d x=.agg (e.cells x):=amP
def BE(k:IntKind)(n:Int):(eI k).cells n=[.int k n]:=amP
def D7(n:Bool):jv.cells n=[.bool n]:=amP
def CE{α:Type}(e:iK α)(l:List α):(dW e).cells l=[.sl false false l.length (al e l)]:=amP
structure ki(α:Type) where
 ds:α->List D
 inj:∀x y,ds x=ds y->x=y
def as0:ki Unit:=⟨fun _=>[],fun _ _ _=>rfl⟩
def dO{α:Type}(a:Arg α):ki α:=⟨fun x=>[a.d x],fun x y h=>a.inj _ _ (by simpa using h)⟩
def fV{α β:Type}(a:Arg α)(b:ki β):ki (α×β):=⟨fun x=>a.d x.1::b.ds x.2,fun x y h=>by
 simp only[akD]at h;exact Prod.ext (a.inj _ _ h.1) (b.inj _ _ h.2)⟩
def ew{α β:Type}(A:ki α)(F:α->Option β)(R:β->RK):Option (D×Row)->List D->Option (RK×Option Row):=fun bY b =>
 match bY with
 | none=>open Classical in if h:∃a,A.ds a=b then (F (Classical.choose h)).map fun r=>(R r,none) else none
 | some _=>none
def cJ{α β:Type}(A:ki α)(F:α->Option β)(R:β->RK)(a:α):ew A F R none (A.ds a)=(F a).map fun r=>(R r,none):=by
 have h:∃b,A.ds b=A.ds a:=⟨a,rfl⟩;simp only[ew];rw[dif_pos h,A.inj _ _ (Classical.choose_spec h)]
def vt{α β:Type}{A:ki α}{F:α->Option β}{R:β->RK}{bY:Option (D×Row)}{c:List D}{d:RK}{b:Option Row}(h:ew A F R bY c=some (d,b)):bY=none∧b=none∧∃a r,c=A.ds a∧F a=some r∧d=R r:=by
 unfold ew at h;split at h
 ·split at h
  ·rename_i e;rw[akg]at h;grind
  ·cases h
 ·cases h
structure cn(P:Program)(f:FuncId)(G:Option (D×Row)->List D->Option (RK×Option Row)):Prop where
 calls:∀bY akd rk out,G bY akd=some (rk,out)->uJ P f bY akd rk out
 callable:fe P f
def cn.of{P:Program}{T:Nat->Option Ty}{Γ:Env}(i:jL P T)(j:bU P Γ)(k:P.follows .mixedOrders=true){α β:Type}{A:ki α}{F:α->Option β}{R:β->RK}{d:Mode}{f:FuncId}{b:Func}(g:P.funcs[f]? = some b)(e:(match b.body with|some c=>codeOk c|none=>true)=true)
  (l:(b.name == "runtime.NumGoroutine")=false∧b.body.isNone=false) (m:∀a,(A.ds a).length<=b.ntmps) (h:∀a r,F a=some r->kN d T Γ FU b none (A.ds a)=some (R r,none)):cn P f (ew A F R) where
 calls bY akd rk out n:=by
  obtain⟨rfl,rfl,a,r,rfl,o,rfl⟩:=vt n;exact lY i j k g e (m a) rfl (h a r o)
 callable:=⟨b,g,l⟩
def bU.add{P:Program}{Γ:Env}(a:bU P Γ){f:Nat}{G:Option (D×Row)->List D->Option (RK×Option Row)}(h:cn P f G)(l:Bool):bU P (Am.ext Γ f l G):=a.ext h.calls h.callable
section
variable {T:Nat->Option Ty} {Γ:Env} {N e:Nat} {ws:List W} {Q:Kt} {t:Nat->D} {h:Nat->Option Row}
def LK{σ ρ:Type}(b:σ->(Nat->D)->(Nat->Option Row)->Nat->Prop)(a:ρ->Ex->(Nat->D)->(Nat->Option Row)->Nat->Prop)(c:σ⊕ρ):Kt:=fun x t h e =>
 match x with
 | .normal=>∃d,c=.inl d∧b d t h e
 | x=>∃o,c=.inr o∧a o x t h e
def ij{σ ρ:Type}{a:σ->(Nat->D)->(Nat->Option Row)->Nat->Prop}{b:ρ->Ex->(Nat->D)->(Nat->Option Row)->Nat->Prop}{c:σ}(k:a c t h e):LK a b (.inl c) .normal t h e:=⟨c,rfl,k⟩
def jN{σ ρ:Type}{b:σ->(Nat->D)->(Nat->Option Row)->Nat->Prop}{a:ρ->Ex->(Nat->D)->(Nat->Option Row)->Nat->Prop}{o:ρ}{n:Nat}(k:a o (.exit n) t h e):LK b a (.inr o) (.exit n) t h e:=⟨o,rfl,k⟩
def tU{σ ρ:Type}{b:σ->(Nat->D)->(Nat->Option Row)->Nat->Prop}{a:ρ->Ex->(Nat->D)->(Nat->Option Row)->Nat->Prop}{o:ρ}(k:a o .ret t h e):LK b a (.inr o) .ret t h e:=⟨o,rfl,k⟩
def aD{σ ρ:Type}{a:σ->Option (σ⊕ρ)}{b:Code}(d:σ->(Nat->D)->(Nat->Option Row)->Nat->Prop)(f:ρ->Ex->(Nat->D)->(Nat->Option Row)->Nat->Prop){l:σ}{g:ρ}(w:aT a l=some g)(y:d l t h e)
  (i:∀s t h e,d s t h e->∀c,a s=some c->dr T Γ N FU [.code b] (LK d f c) .normal t h e)
  (p:∀x t h e,f g x t h e->dr T Γ N FU ws Q x t h e):WX T Γ N FU b ws Q t h e:=by
 have key:∀(n:Nat)(s:σ)(t:Nat->D)(h:Nat->Option Row)(e:Nat),d s t h e->rM a n s=some g->∃x j,iter (ik T Γ N FU b) n ⟨t,h,e⟩=some (x,j)∧dr T Γ N FU ws Q x j.t j.h j.e:=by
  intro n
  induction n with
  | zero=>intro s t h e _ k;cases k
  | succ n z =>
   intro s t h e A k;simp only[rM]at k;cases v:a s with
   | none=>simp_all
   | some c =>
    rw[v]at k;obtain⟨x,q,B,r⟩:=DH _ _ _ _ _ (show Oi T Γ N FU b t h e (LK d f c) from i s t h e A c v);simp only[iter,B];cases x with
    | normal =>
     obtain⟨j,rfl,u⟩:=r;exact z j q.t q.h q.e u k
    | exit m =>
     obtain⟨o,rfl,u⟩:=r;grind
    | ret =>
     obtain⟨o,rfl,u⟩:=r;grind
 exact key FU l t h e y w
def Cs{d:D}{g:Nat}{A B A' B':(Nat->D)->Prop}(a:U4 d t g A B)(h1:∀t,A t->A' t)(h2:∀t,B t->B' t):U4 d t g A' B':=by
 cases d with
 | bool b=>exact⟨fun c=>h1 _ (a.1 c),fun c=>h2 _ (a.2 c)⟩
 | _=>exact a
def IS{d:D}{g:Nat}{A B S A' B' S':(Nat->D)->Prop}(a:wpS d t g A B S)(b:∀t,A t->A' t)(c:∀t,B t->B' t)(e:∀t,S t->S' t):wpS d t g A' B' S':=by
 unfold wpS at a ⊢;split at a
 ·exact e _ a
 ·exact Cs a b c
def HC{α:Type}{x:Option α}{K K':α->Prop}(b:vv x K)(c:∀a,K a->K' a):vv x K':=by
 cases x with
 | none=>exact b
 | some a=>exact c a b
def S1{ops:List Oper}{gd:Option (Nat×Bool)}{A B A' B':(Nat->D)->Prop}(a:wpG ops t gd A B)(c:∀t,A t->A' t)(d:∀t,B t->B' t):wpG ops t gd A' B':=by
 unfold wpG at a ⊢;split
 ·exact c _ a
 ·rename_i j b;refine HC a fun g e=>IS e ?_ ?_ d
  ·grind
  grind
def Cu{o:Oper}{K K':(Nat->D)->cv->Prop}(a:S0 T Γ e o t h K)(h1:∀t E,K t E->K' t E):S0 T Γ e o t h K':=by
 unfold S0 at a ⊢;split
 ·rename_i b;rw[b]at a;exact Cs a (fun _ h=>h1 _ _ h) (fun _ h=>h1 _ _ h)
 ·rename_i c;split at a
  ·simp_all
  ·exact HC a (fun _ h=>h1 _ _ h)
def zy{ops:List Oper}{K K':(Nat->D)->(Nat->Option Row)->Prop}(h1:∀t h,K t h->K' t h):∀(l:List Oper)(t:Nat->D)(h:Nat->Option Row),Il T Γ N e ops l t h K->Il T Γ N e ops l t h K'
 | [],t,h,hk=>h1 _ _ hk
 | o::l,t,h,hk=>by
  unfold Il at hk ⊢;exact⟨hk.1,S1 hk.2 (fun t a=>Cu a fun t E b=>zy h1 l _ _ b) (fun t a=>zy h1 l _ _ a)⟩
def zu{ops:List Oper}{K K':(Nat->D)->(Nat->Option Row)->List mP->Prop}(h1:∀t h fs,K t h fs->K' t h fs):∀(l:List Oper)(t:Nat->D)(h:Nat->Option Row)(fs:List mP),runK T Γ N e ops l t h fs K->runK T Γ N e ops l t h fs K'
 | [],t,h,fs,hk=>h1 _ _ _ hk
 | o::l,t,h,fs,hk=>by
  unfold runK at hk ⊢;exact⟨hk.1,S1 hk.2 (fun t a=>Cu a fun t E b=>zu h1 l _ _ _ b) (fun t a=>zu h1 l _ _ _ a)⟩
def adp{ops:Array Oper}{a:Bool}{K K':(Nat->D)->(Nat->Option Row)->Prop}(b:wpR T Γ N ops a t h e K)(c:∀t h,K t h->K' t h):wpR T Γ N ops a t h e K':=by
 unfold wpR at b ⊢;cases a with
 | true=>exact zu (fun t h fs d=>⟨d.1,c _ _ d.2⟩) _ _ _ _ b
 | false=>exact zy c _ _ _ b
def ZI{F:Nat}:∀(c:Code)(t:Nat->D)(h:Nat->Option Row)(e:Nat)(K K':Kt),Oi T Γ N F c t h e K->(∀x t h e,K x t h e->K' x t h e)->Oi T Γ N F c t h e K':=by
 intro c
 induction c with
 | skip=>intro t h e K K' d hm;exact hm _ _ _ _ d
 | region i ops draw=>intro t h e K K' d hm;exact adp d fun t h o=>hm _ _ _ _ o
 | seq a b j k =>
  intro t h e K K' d hm;refine j _ _ _ _ _ d fun x t h e f =>?_;cases x with
  | normal=>exact k _ _ _ _ _ f hm
  | exit n=>exact hm _ _ _ _ f
  | ret=>exact hm _ _ _ _ f
 | cond c x y ihx ihy =>
  intro t h e K K' d hm;unfold Oi at d ⊢;cases c with
  | tmp g=>exact Cs d (fun t l=>ihx _ _ _ _ _ l hm) (fun t l=>ihy _ _ _ _ _ l hm)
  | const v =>
   grind
  | _=>exact d
 | block id b m =>
  intro t h e K K' d hm;refine m _ _ _ _ _ d fun x t h e f =>?_;cases x with
  | normal=>exact hm _ _ _ _ f
  | ret=>exact hm _ _ _ _ f
  | exit n =>
   unfold aan at f ⊢;grind
 | loop b m =>
  intro t h e K K' d hm;obtain⟨x,s,p,q⟩:=d;exact⟨x,s,p,hm _ _ _ _ q⟩
 | exit id=>intro t h e K K' d hm;exact hm _ _ _ _ d
 | ret=>intro t h e K K' d hm;exact hm _ _ _ _ d
 | _=>intro t h e K K' d;exact d.elim
def CK{σ:Type}(J:σ->(Nat->D)->(Nat->Option Row)->Nat->Prop)(P:σ->Prop)(R:Kt):Kt:=fun x t h e =>
 match x with
 | .normal=>∃s,P s∧J s t h e
 | x=>R x t h e
def aG{σ:Type}{J:σ->(Nat->D)->(Nat->Option Row)->Nat->Prop}{P:σ->Prop}{R:Kt}:CK J P R .normal t h e = ∃s,P s∧J s t h e:=amP
end
section
variable {h:Nat->Option Row}
def J7{k:IntKind}{n:Int}:canon (.int k n)=.int k n:=amP
def F1{b:Bool}:canon (.bool b)=.bool b:=amP
def J8{b:ByteArray}:canon (.str b)=.str b:=amP
def OZ{a b:Bool}{n:Nat}{xs:List D}:canon (.sl a b n xs)=.sl false false n xs:=amP
def F0{xs:List D}:jT (.agg xs)=.agg (xs.map canon):=amP
def clB(x s o n:Nat):Option Row->Option (D×List Nat)
 | some r=>if o+n*s<=r.cells.length then some (.sl false false n ((r.cells.drop o).take (n*s)),[x]) else none
 | none=>none
def O8{x s o n:Nat}{r:Row}:clB x s o n (some r)=if o+n*s<=r.cells.length then some (.sl false false n ((r.cells.drop o).take (n*s)),[x]) else none:=amP
def clP(x o:Nat):Option Row->Option (D×List Nat)
 | some r=>if o<=r.cells.length then some (.ip (r.cells.drop o),[x]) else none
 | none=>none
def Pd{x o:Nat}{r:Row}:clP x o (some r)=if o<=r.cells.length then some (.ip (r.cells.drop o),[x]) else none:=amP
def O4{k:IntKind}{n:Int}:cU h (.int k n)=some (.int k n,[]):=amP
def Ka{b:Bool}:cU h (.bool b)=some (.bool b,[]):=amP
def VL{a b:Bool}{n:Nat}{xs:List D}:cU h (.sl a b n xs)=some (.sl false false n xs,[]):=amP
def O1{xs:List D}:cU h (.agg xs)=some (.agg (xs.map canon),[]):=amP
def VK{xs:List D}:cU h (.ip xs)=some (.ip xs,[]):=amP
def VJ{f:Nat}:cU h (.fn f)=some (.fn f,[]):=amP
def O2{x v s o n:Nat}:cU h (.buf x v s o n)=clB x s o n (live h x v):=by
 simp only[cU,bR,eP];cases live h x v with
 | none=>rfl
 | some r=>by_cases a:o+n*s<=r.cells.length<;>simp[clB,a,canon]
def O5{x v o:Nat}:cU h (.ptr x v o)=clP x o (live h x v):=by
 simp only[cU,bR];cases live h x v with
 | none=>rfl
 | some r=>simp only[clP]
def aaG{k:IntKind}{n:Int}:gD h (.int k n)=some ([.int k n],[]):=amP
def VO{b:Bool}:gD h (.bool b)=some ([.bool b],[]):=amP
def aaH{b:ByteArray}:gD h (.str b)=some ([.str b],[]):=amP
def afg{a b:Bool}{n:Nat}{xs:List D}:gD h (.sl a b n xs)=some ([.sl a b n xs],[]):=amP
def aaE{xs:List D}:gD h (.agg xs)=some (xs,[]):=amP
def cvB:Option (D×List Nat)->Option (List D×List Nat)
 | some (d,fr)=>some ([d],fr)
 | none=>none
def Pm{d:D}{fr:List Nat}:cvB (some (d,fr))=some ([d],fr):=amP
def aaF{x v s o n:Nat}:gD h (.buf x v s o n)=cvB (clB x s o n (live h x v)):=by
 simp only[gD,eP];cases live h x v with
 | none=>rfl
 | some r=>by_cases a:o+n*s<=r.cells.length<;>simp[clB,cvB,a]
def clF(h:Nat->Option Row):Option (D×List Nat)->Option cv
 | some (d,fr)=>some ⟨d,kE h fr⟩
 | none=>none
def Pb{d:D}{fr:List Nat}:clF h (some (d,fr))=some ⟨d,kE h fr⟩:=amP
def Vu{x v s o n:Nat}:oV h (.buf x v s o n)=clF h (clB x s o n (live h x v)):=by
 simp only[oV,sY,eP];cases live h x v with
 | none=>rfl
 | some r=>by_cases a:o+n*s<=r.cells.length<;>simp[clB,clF,a,canon,jT]
variable {Γ:Env} {f g e:Nat} {l:Bool} {G:Option (D×Row)->List D->Option (RK×Option Row)} {bY:Option (D×Row)} {akd:List D} {dst:Option Nat} {fr:List Nat}
def KN:(Am.ext Γ f l G).lends g=if g=f then l else Γ.lends g:=amP
def Wc:(Am.ext Γ f l G).sem g bY akd=if g=f then G bY akd else Γ.sem g bY akd:=amP
def Wb{d:Nat}:(Am.ext Γ f l G).own d=Γ.own d:=amP
def Lq{d:Nat}:bq.own d=true:=amP
def QA{d i:Nat}:(Am.keep d Γ).own i=(i != d&&Γ.own i):=amP
def Hd{d i:Nat}:(Am.keep d Γ).lends i=Γ.lends i:=amP
def QB{d i:Nat}:(Am.keep d Γ).sem i bY akd=Γ.sem i bY akd:=amP
def ES(b:Bool)(Γ:Env)(h:Nat->Option Row)(e:Nat)(dst:Option Nat)(g:Nat)(a:List D):Option cv :=
 if b then
  match a with
  | .buf x v s o n::rest=>sX Γ h e dst g x v (.buf 0 0 s o n) rest
  | .ptr x v o::rest=>sX Γ h e dst g x v (.ptr 0 0 o) rest
  | .mp x v::rest=>sX Γ h e dst g x v (.mp 0 0) rest
  | _=>none
 else xE Γ h e dst g a
def adN(p:Option (Nat×Nat×Nat))(Γ:Env)(h:Nat->Option Row)(e:Nat)(dst:Option Nat)(g:Nat)(a:List D):Option cv :=
 match p with
 | some p=>w9 h e dst p a
 | none =>
  match Γ.grw g with
  | some p=>zT h p a
  | none=>ES (Γ.lends g) Γ h e dst g a
def ahy(p:Option Grow)(Γ:Env)(h:Nat->Option Row)(e:Nat)(dst:Option Nat)(g:Nat)(a:List D):Option cv :=
 match p with
 | some p=>zT h p a
 | none=>ES (Γ.lends g) Γ h e dst g a
def J0{a:List D}:adN none Γ h e dst g a=ahy (Γ.grw g) Γ h e dst g a:=amP
def JZ{a:List D}:ahy none Γ h e dst g a=ES (Γ.lends g) Γ h e dst g a:=amP
def V8{f:Nat}{l:Bool}{G:Option (D×Row)->List D->Option (RK×Option Row)}:(Am.ext Γ f l G).grw g=Γ.grw g:=amP
def Qx{d:Nat}:(Am.keep d Γ).grw g=Γ.grw g:=amP
def Qs{f:Nat}{p:Nat×Nat×Nat}:(Am.Hb f p Γ).grw g=Γ.grw g:=amP
def Ll:bq.grw g=none:=amP
def J1{p:Nat×Nat×Nat}{a:List D}:adN (some p) Γ h e dst g a=w9 h e dst p a:=amP
def V9{f:Nat}{l:Bool}{G:Option (D×Row)->List D->Option (RK×Option Row)}:(Am.ext Γ f l G).ins g=Γ.ins g:=amP
def Qy{d:Nat}:(Am.keep d Γ).ins g=Γ.ins g:=amP
def Lm:bq.ins g=none:=amP
def Qt{f:Nat}{p:Nat×Nat×Nat}:(Am.Hb f p Γ).ins g=if g=f then some p else Γ.ins g:=amP
def Hc{f:Nat}{p:Nat×Nat×Nat}:(Am.Hb f p Γ).lends g=Γ.lends g:=amP
def Qv{f:Nat}{p:Nat×Nat×Nat}{l:Option (D×Row)}{akd:List D}:(Am.Hb f p Γ).sem g l akd=Γ.sem g l akd:=amP
def Qu{f:Nat}{p:Nat×Nat×Nat}{d:Nat}:(Am.Hb f p Γ).own d=Γ.own d:=amP
def aar(ty k b x y s c o f n m:Nat)(i:Int)(e:Nat)(d:Nat):Option Row->Option Row->Option cv
 | some r,some a =>
   if r.fz=false∧a.fz=false∧r.lst=true∧a.lst=true∧x≠y∧s=k∧c=k∧r.ty=ty∧a.ty=ty∧o=0∧f=0∧r.cells.length=n*k∧a.cells.length=m*k∧0<=i∧i<=n∧0<m∧(n+m)*b<=140737488355328 then
    some ⟨.buf d e k 0 (n+m),[(y,none),(x,none),(d,some ⟨e,ty,r.cells.take (i.toNat*k)++(a.cells++r.cells.drop (i.toNat*k)),false,true,false⟩)]⟩
   else none
 | _,_=>none
def VF{ty k a x v s o n y b c f m d:Nat}{i:Int}:w9 h e (some d) (ty,k,a) [.buf x v s o n,.int .i64 i,.buf y b c f m]=aar ty k a x y s c o f n m i e d (live h x v) (live h y b):=by
 simp only[w9,aar];grind
def FR{ty k b x y s c o f n m:Nat}{i:Int}{d:Nat}{r a:Row}:aar ty k b x y s c o f n m i e d (some r) (some a) = if r.fz = false ∧ a.fz = false ∧ r.lst = true ∧ a.lst = true ∧ x ≠ y ∧ s = k ∧ c = k ∧ r.ty = ty ∧ a.ty = ty ∧ o = 0 ∧ f = 0 ∧ r.cells.length = n * k ∧ a.cells.length = m * k ∧ 0 <= i ∧ i <= n ∧ 0 < m ∧ (n + m) * b <= 140737488355328 then
        some ⟨.buf d e k 0 (n + m), [(y, none), (x, none), (d, some ⟨e, ty, r.cells.take (i.toNat * k) ++ (a.cells ++ r.cells.drop (i.toNat * k)), false, true, false⟩)]⟩
      else none:=Eq.trans rfl rfl
def VH{a:List D}:jP Γ h e dst (.fn g) a=adN (Γ.ins g) Γ h e dst g a:=by
 simp only[jP,adN,ES];grind
def XY(h:Nat->Option Row)(e:Nat)(dst:Option Nat)(fr:List Nat):Option (RK×Option Row)->Option cv
 | some (.clean r,_)=>some ⟨r,if jW r then [] else kE h fr⟩
 | some (.fresh ty s n cells,_) =>
  match dst with
  | some d=>if fr.contains d=false then some ⟨.buf d e s 0 n,(if tj cells then [] else kE h fr)++[(d,some ⟨e,ty,cells,false,true,false⟩)]⟩ else none
  | none=>none
 | _=>none
def adM(Γ:Env)(h:Nat->Option Row)(e:Nat)(dst:Option Nat)(g:Nat):Option (List D×List Nat)->Option cv
 | some (akd,fr)=>XY h e dst fr (Γ.sem g none akd)
 | none=>none
def J2{a:List D}:ES false Γ h e dst g a=adM Γ h e dst g (bZ h a):=by
 simp only[ES,akN,if_false,xE,adM];cases bZ h a with
 | none=>rfl
 | some p =>
  obtain⟨akd,fr⟩:=p;simp only;cases c:Γ.sem g none akd with
  | none=>rfl
  | some q =>
   obtain⟨b,o⟩:=q;cases b<;>rfl
def JY:adM Γ h e dst g (some (akd,fr))=XY h e dst fr (Γ.sem g none akd):=amP
def abn(h:Nat->Option Row)(fr:List Nat):Bool->List (Nat×Option Row)
 | true=>[]
 | false=>kE h fr
def KY:abn h fr true=[]:=amP
def GK:abn h fr false=kE h fr:=amP
def P8{b:Bool}:abn h [] b=[]:=by cases b<;>rfl
def FW{r:D}{o:Option Row}:XY h e dst fr (some (.clean r,o))=some ⟨r,abn h fr (jW r)⟩:=by
 simp only[XY]<;>cases jW r<;>rfl
def We:kE h []=[]:=amP
def P9{x:Nat}:kE h (x::fr)=(x,(h x).map xk)::kE h fr:=amP
def Kb:bZ h []=some ([],[]):=amP
def caC(p:Option (D×List Nat))(q:Option (List D×List Nat)):Option (List D×List Nat) :=
 match p,q with
 | some (c,fr),some (a,b)=>some (c::a,fr++b)
 | _,_=>none
def OL{d:D}{fr a:List Nat}{b:List D}:caC (some (d,fr)) (some (b,a))=some (d::b,fr++a):=amP
def F2{d:D}{a:List D}:bZ h (d::a)=caC (cU h d) (bZ h a):=by
 simp only[bZ];cases cU h d with
 | none=>rfl
 | some p=>cases bZ h a<;>rfl
variable {T:Nat->Option Ty} {s:St} {rs:List ResultVar} {r:ResultVar}
def R6:yG T s []=some ([],[]):=amP
def LR:yG T s (r::rs)=caC (R4 T s r) (yG T s rs):=by
 simp only[yG];cases R4 T s r with
 | none=>rfl
 | some p=>cases yG T s rs<;>rfl
def R5{t:Nat->D}{i:Nat}:R4 T ⟨t,h,e⟩ (.tmp i)=cU h (t i):=amP
def agz(T:Nat->Option Ty)(h:Nat->Option Row)(d:D)(τ:Option Ty):Option (D×List Nat) :=
 match τ,d with
 | some τ,.ptr x v o=>match fO τ h (.ptr x v o) with|some E=>some (jT E.val,[])|none=>none
 | _,_=>none
def LP{t:Nat->D}{i ty:Nat}:R4 T ⟨t,h,e⟩ (.cell i ty)=agz T h (t i) (T ty):=amP
def agA:Option cv->Option (D×List Nat)
 | some E=>some (jT E.val,[])
 | none=>none
def LQ{d:D}{w:List (Nat×Option Row)}:agA (some ⟨d,w⟩)=some (jT d,[]):=amP
def R3{τ:Ty}{x v o:Nat}:agz T h (.ptr x v o) (some τ)=agA (fO τ h (.ptr x v o)):=by
 simp only[agz,agA]
def af6(p:Option (List D×List Nat)):Option (RK×Option Row) :=
 match p with
 | some (ds,_)=>some (.clean (n9 ds),none)
 | none=>none
def KA{a:List D}{fr:List Nat}:af6 (some (a,fr))=some (.clean (n9 a),none):=amP
def GA:gE .clean T none rs s=af6 (yG T s rs):=by
 simp only[gE,th,nN,ach,af6];grind
def FX{ty a n d:Nat}{cells:List D}{o:Option Row}:XY h e (some d) fr (some (.fresh ty a n cells,o))=if fr.contains d=false then some ⟨.buf d e a 0 n,abn h fr (tj cells)++[(d,some ⟨e,ty,cells,false,true,false⟩)]⟩ else none:=by
 simp only[XY]<;>cases tj cells<;>rfl
def CI{k:IntKind}:∀l:List Int,tj (al (eI k) l)=true
 | []=>rfl
 | x::l=>by
  have:=CI (k:=k) l;simp only[b9,BE,List.cons_append,List.nil_append,tj,jW,this,Bool.and_self]
def GB{ty a i:Nat}{t:Nat->D}:gE (.fresh ty a) T none [.tmp i] ⟨t,h,e⟩=sw ty a h (t i):=amP
def VY{ty a x v o n:Nat}:sw ty a h (.buf x v a o n)=zj ty a o n (live h x v):=by simp[sw]
def PJ{ty a o n:Nat}{r:Row}:zj ty a o n (some r)=if r.fz=false∧r.ty=ty∧o+n*a<=r.cells.length then some (.fresh ty a n ((r.cells.drop o).take (n*a)),none) else none:=amP
def Ic{d:D}:n9 [d]=d:=amP
def Ie{d a:D}{b:List D}:n9 (d::a::b)=.tup (d::a::b):=amP
end
def VX(k:IntKind):(eI k).size=1:=amP
def Gl:jv.size=1:=amP
def PI{α:Type}(e:iK α):(dW e).size=1:=amP
section
variable {α:Type} (E:iK α) {l m:List α} {x x' z:α} {i a b n c:Int} {B:Nat}
def oZ(h:P.idx l i=some x):0<=i∧i<l.length:=by
 unfold P.idx at h;simp_all
def Nf(h:P.idx l i=some x):l[i.toNat]? = some x:=by
 unfold P.idx at h;grind
def zl(h:P.idx l i=some x):(al E l).drop (i.toNat*E.size)=E.cells x++al E (l.drop (i.toNat+1)):=by
 have a:=Nf h;obtain⟨b,rfl⟩:=akI.1 a;rw[qe,al3 b];rfl
def lG(a:Nat)(h:P.idx l i=some x):(al E l).drop (i.toNat*E.size+a)=(E.cells x++al E (l.drop (i.toNat+1))).drop a:=by
 rw[<- alR,zl E h]
def kn(h:P.idx l i=some x):i.toNat*E.size+E.size<=l.length*E.size:=by
 have a:=oZ h;have:i.toNat+1<=l.length:=by omega
 have:=akW E.size this;grind
def bg(h:P.idx l i=some x):(0<=i∧i<l.length)∧(al E l).drop (i.toNat*E.size)=E.cells x++al E (l.drop (i.toNat+1))∧i.toNat*E.size+E.size<=l.length*E.size:=⟨oZ h,zl E h,kn E h⟩
def kF(a s:Nat)(b:a+s<=E.size)(h:P.idx l i=some x):i.toNat*E.size+a+s<=l.length*E.size:=by
 have:=kn E h;omega
def Uw:∀(l:List α)(i:Nat)(x:α),l[i]? = some x->∀x',al E (l.set i x')=(al E l).take (i*E.size)++E.cells x'++(al E l).drop (i*E.size+E.size)
 | [],i,x,h,x'=>by simp at h
 | y::l,0,x,h,x'=>by
  rw[List.set_cons_zero,b9,b9,alT,al4,alO,alf,alL,E.len,aln,alU,alM (by rw[E.len];exact aki _),alO]
 | y::l,i+1,x,h,x'=>by
  have a:=Uw l i x (by simpa using h) x';rw[List.set_cons_succ,b9,b9,a,alP];have b:=E.len y;have c:(E.cells y++al E l).take (i*E.size+E.size)=E.cells y++(al E l).take (i*E.size):=by grind
  have d:(E.cells y++al E l).drop (i*E.size+E.size+E.size)=(al E l).drop (i*E.size+E.size):=by
   rw[alL,b,alM (by omega),alO,alQ]
  simp_all
def eT(fo:Nat)(cs:List D)(h:P.idx l i=some x)(c:E.cells x'=putCells (E.cells x) fo cs)(d:fo+cs.length<=E.size):putCells (al E l) (i.toNat*E.size+fo) cs=al E (l.set i.toNat x'):=by
 have e:=Nf h;rw[Uw E l i.toNat x e x',c];have f:=zl E h;have g:=kn E h;have j:=bF E l;have k:=E.len x;have a:al E l=(al E l).take (i.toNat*E.size)++(E.cells x++(al E l).drop (i.toNat*E.size+E.size)):=by
  have m:=alS (i.toNat*E.size) (al E l);grind
 generalize (al E l).drop (i.toNat*E.size+E.size)=r at *;generalize n:(al E l).take (i.toNat*E.size)=p at *;have b:p.length=i.toNat*E.size:=by grind
 unfold putCells;rw[a];have o:(p++(E.cells x++r)).take (i.toNat*E.size+fo)=p++(E.cells x).take fo:=by
  rw[List.take_append,b,alV (by omega),al5,al6 (by omega)]
 have q:(p++(E.cells x++r)).drop (i.toNat*E.size+fo+cs.length)=(E.cells x).drop (fo+cs.length)++r:=by
  rw[akA,alL,b,alM (by omega),al5,alO,al7 (by omega)]
 simp_all
def RZ(h:P.idx l i=some x):putCells (al E l) (i.toNat*E.size) (E.cells x')=al E (l.set i.toNat x'):=by
 have:=eT E (x':=x') 0 (E.cells x') h (by unfold putCells;simp[E.len]) (by rw[E.len];omega);simpa using this
def ab9(h:Hr B n c z=some m):m=List.replicate n.toNat z∧0<=n∧n<=c∧c<=maxLen∧c.toNat*B<=140737488355328:=by
 unfold Hr at h;simp_all
def mk_one(h:Hr B n n z=some m):0<=n∧n.toNat=m.length∧m.length<=maxLen∧qv m.length (E.cells z)=al E m∧m.length*B<=140737488355328:=by
 obtain⟨rfl,a,_,c,b⟩:=ab9 h;refine⟨a,by simp,by simp;omega,by rw[PO];simp,by simpa using b⟩
def Dy(h:Fs l a b=some m):0<=a∧0<=b∧a.toNat<=b.toNat∧b.toNat<=l.length∧b.toNat-a.toNat=m.length∧(List.take (m.length*E.size) (List.drop (a.toNat*E.size) (al E l))=al E m):=by
 unfold Fs at h;split at h
 ·rename_i d;cases h;have c:((l.drop a.toNat).take (b.toNat-a.toNat)).length=b.toNat-a.toNat:=by simp;omega
  refine⟨d.1,by omega,by omega,by omega,c.symm,?_⟩;rw[c,qe,jn]
 ·cases h
def agG(h:Fs l a b=some m):0<=a∧0<=b∧(a.toNat<=b.toNat∧b.toNat<=l.length)∧b.toNat-a.toNat=m.length∧(List.take (m.length*E.size) (List.drop (a.toNat*E.size) (al E l))=al E m):=by
 obtain⟨c,d,e,f,g,i⟩:=Dy E h;simp_all
def acF(h:Fs l a (l.length:Int)=some m):0<=a∧0<=a∧a.toNat<=l.length∧l.length-a.toNat=m.length∧(List.take (m.length*E.size) (List.drop (a.toNat*E.size) (al E l))=al E m):=by
 obtain⟨b,c,d,e,f,g⟩:=Dy E h;simp_all
def Uz(h:Fs l 0 b=some m):0<=b∧0<=b∧m.length<=l.length∧b.toNat=m.length∧(List.take (m.length*E.size) (al E l)=al E m):=by
 obtain⟨a,c,d,e,f,g⟩:=Dy E h;grind
def JK{n:List α}(h:oQ B l m=some n):n=l++m∧n.length<=maxLen∧n.length*B<=140737488355328:=by
 unfold oQ at h;grind
def lj{n:List α}(h:oQ B l [x]=some n):l.length+1=n.length∧al E l++E.cells x=al E n∧n.length<=maxLen∧n.length*B<=140737488355328:=by
 obtain⟨rfl,a,b⟩:=JK h;exact⟨by simp,by rw[iC];simp[al],a,b⟩
def vX{n:List α}(h:oQ B [] l=some n):n=l∧l.length<=maxLen∧l.length*B<=140737488355328:=by
 obtain⟨rfl,a,b⟩:=JK h;simp_all
end
def VR{k:IntKind}{x y z:Int}(h:X8 k x y=some z):¬y=0∧k.wrap (x.tdiv y)=z:=by
 unfold X8 at h;simp_all
def Nr{k:IntKind}{x y z:Int}(h:Q9 k x y=some z):¬y=0∧x.tmod y=z:=by
 unfold Q9 at h;simp_all
def Fq{k:IntKind}{x y z:Int}(h:Jy k x y=some z):¬y<0∧k.wrap (x*2 ^ (min y.toNat k.bits))=z:=by
 unfold Jy at h;simp_all
def wR{k:IntKind}{x y z:Int}(h:Ba k x y=some z):¬y<0∧x.fdiv (2 ^ (min y.toNat k.bits))=z:=by
 unfold Ba at h;simp_all
def VB(op:BinOp)(k:IntKind)(x y:Int):FQ op k x y=nd op k x y:=amP
def uJ.emp{P:Program}{f:FuncId}{i:RK}{a:Option Row}(v:uJ P f none [.sl true true 0 []] i a)(x:uJ P f none [.sl true false 0 []] i a):uJ P f none [.sl false false 0 []] i a:=by
 intro w M vs k b;have l:=b.2 0 _ rfl;generalize m:vs.getD 0 undef=u at l;cases l with
 | sl A c nl tight n xs o p q y g z r s t =>
  cases A with
  | none =>
   refine v w M vs k ⟨b.1,fun j d e =>?_,b.tab⟩;cases j with
   | zero=>cases e;rw[m];exact .sl none c true true 0 [] o p q (fun _=>⟨fun _=>⟨rfl,(g rfl).2⟩,fun h=>by cases h⟩) g (fun _=>(g rfl).2) r s t
   | succ j=>simp at e
  | some A =>
   refine x w M vs k ⟨b.1,fun j d e =>?_,b.tab⟩;cases j with
   | zero=>cases e;rw[m];exact .sl (some A) c true false 0 [] o p q (fun _=>⟨(fun h=>by cases h),fun _ h=>by cases h⟩) g (fun h=>by cases h) r s t
   | succ j=>simp at e
def cn.afB{P:Program}{T:Nat->Option Ty}{Γ:Env}(e:jL P T)(g:bU P Γ)(h:P.follows .mixedOrders=true){α β:Type}{E:iK α}{F:List α->Option β}{R:β->RK}{mode:Mode}{f:FuncId}{a:Func}(d:P.funcs[f]? = some a)(b:(match a.body with|some c=>codeOk c|none=>true)=true)
  (k:(a.name == "runtime.NumGoroutine")=false∧a.body.isNone=false) (i:1<=a.ntmps)
  (m:∀r,F []=some r->kN mode T Γ FU a none [.sl true true 0 []]=some (R r,none))
  (n:∀r,F []=some r->kN mode T Γ FU a none [.sl true false 0 []]=some (R r,none))
  (o:∀l r,0<l.length->F l=some r->kN mode T Γ FU a none [.sl false false l.length (al E l)]=some (R r,none)):cn P f (ew (dO (kb E)) F R) where
 calls bY akd rk out p:=by
  obtain⟨rfl,rfl,l,r,rfl,j,rfl⟩:=vt p;cases l with
  | nil=>exact uJ.emp (lY e g h d b i rfl (m r j)) (lY e g h d b i rfl (n r j))
  | cons x l=>exact lY e g h d b i rfl (o (x::l) r (by simp) j)
 callable:=⟨a,d,k⟩
def ad7{α:Type}(E:iK α){B:Nat}{l n:List α}{i:Int}{x:α}(h:abE B l i [x]=some n):0<=i∧i<=(l.length:Int)∧l.length+1=n.length∧n.length*B<=140737488355328 ∧
  (al E l).take (i.toNat*E.size)++(E.cells x++(al E l).drop (i.toNat*E.size))=al E n:=by
 unfold abE at h;split at h
 ·rename_i a;cases h;obtain⟨b,c,-,e⟩:=a;have d:l.length+1=(l.take i.toNat++([x]++l.drop i.toNat)).length:=by simp;omega
  refine⟨b,c,d,by simp_all,?_⟩;rw[iC,iC,jn,qe];simp[al]
 ·cases h
def Tb{w:World}{M:Nat->Prop}{k:IntKind}{n:Int}{u:Value}(h:RP w M (.int k n) u):u=.int k n:=by cases h;rfl
def adg{vs:Array Value}(h:vs.size=1):vs = #[vs.getD 0 undef]:=by
 apply alp
 ·simp[h]
 simp_all
def iD(b:Nat){ty:Nat}{fr:Nat×Nat}:∀(vs:List Value)(o:Nat)(w:World)(a:Array Value),w.heap[b]? = some (.cells a ty fr)->o+vs.length<=a.size ->
  (w.setCells b o vs).os=w.os∧(w.setCells b o vs).tape=w.tape∧(w.setCells b o vs).output=w.output∧(w.setCells b o vs).heap.size=w.heap.size∧(∀k,k≠b->(w.setCells b o vs).heap[k]? = w.heap[k]?) ∧
  ∃c,(w.setCells b o vs).heap[b]? = some (.cells c ty fr)∧c.size=a.size∧∀j,c[j]? = if o<=j∧j<o+vs.length then vs[j-o]? else a[j]?
 | [],o,w,a,h,_=>⟨rfl,rfl,rfl,rfl,fun k _=>rfl,a,h,rfl,fun j=>by grind⟩
 | v::r,o,w,a,h,e=>by
  simp only[List.length_cons]at e;have f:(w.setCell ⟨b,o,none⟩ v).heap[b]? = some (.cells (a.setIfInBounds o v) ty fr):=by
   simp[World.setCell,akr,h]
  obtain⟨g,i,l,m,n,c,p,q,s⟩:=iD b r (o+1) (w.setCell ⟨b,o,none⟩ v) _ f (by simp;omega);refine⟨g,i,l,m.trans (by simp_all),fun k d=>(n k d).trans (by simp[World.setCell,akr,Ne.symm d]),c,p,by simpa using q,fun j =>?_⟩;grind
def vm1:=ai @LZ<|ai @Sb<|ai @Sa<|ai @LX<|ai @Im<|ai @LY<|ai @a8<|ai @yI<|ai @xf<|ai @bj<|ai @Ag<|ai @EC<|ai @Ip<|ai @LW<|ai @Ml<|ai @IE<|ai @R8<|ai @LU<|ai @Ij<|ai @Mm<|ai @IF<|ai @IG<|ai @EL<|ai @R9<|ai @LV<|ai @Ik<|ai @Mn<|ai @II<|ai @IJ<|ai @EM<|ai @Sy<|ai @SC<|ai @W9<|ai @Xc<|ai @H5<|ai @Ez<|ai @H6<|ai @EA<|ai @Pu<|ai @PA<|ai @Pt<|ai @Pz<|ai @F9<|ai @Gb<|ai @Kj<|ai @Kq<|ai @Pv<|ai @PB<|ai @Pr<|@Px
def vm2:=ai @Ko<|ai @Ku<|ai @BA<|ai @BC<|ai @zU<|ai @zY<|ai @zV<|ai @zZ<|ai @Kl<|ai @Km<|ai @Kk<|ai @Kr<|ai @xR<|ai @xS<|ai @zW<|ai @z6<|ai @Ki<|ai @Kp<|ai @VS<|ai @D0<|ai @D4<|ai @D1<|ai @D5<|ai @Pq<|ai @Pw<|ai @DZ<|ai @D3<|ai @Rx<|ai @RI<|ai @JV<|ai @DO<|ai @Ke<|ai @PX<|ai @Gi<|ai @Gh<|ai @G7<|ai @G6<|ai @cD<|ai @Eg<|ai @cZ<|ai @XC<|ai @JN<|ai @JM<|@KP
def vm3:=ai @KQ<|ai @EI<|ai @IC<|ai @IB<|ai @EK<|ai @yR<|ai @xh<|ai @xi<|ai @xj<|ai @EG<|ai @Aj<|ai @Ak<|ai @EJ<|ai @vD<|ai @IA<|ai @Ai<|ai @Cq<|ai @WH<|ai @Ri<|ai @LO<|ai @LN<|ai @K7<|ai @Vx<|ai @OG<|ai @aam<|ai @Fi<|ai @Vw<|ai @JQ<|ai @FM<|ai @Vy<|ai @JR<|ai @J7<|ai @F1<|ai @J8<|ai @OZ<|ai @F0<|@O8
def vm4:=ai @Pd<|ai @O4<|ai @Ka<|ai @VL<|ai @O1<|ai @VK<|ai @VJ<|ai @O2<|ai @O5<|ai @aaG<|ai @VO<|ai @aaH<|ai @afg<|ai @aaE<|ai @aaF<|ai @Pm<|ai @KN<|ai @Wc<|ai @VH<|ai @J2<|ai @JY<|ai @FW<|ai @KY<|ai @GK<|ai @P8<|ai @We<|ai @P9<|ai @Kb<|ai @F2<|ai @OL<|ai @R6<|ai @LR<|ai @R5<|ai @LP<|ai @R3<|ai @LQ<|ai @GA<|ai @KA<|ai @FX<|ai @CI<|ai @GB<|ai @VY<|ai @PJ<|ai @Ic<|ai @Ie<|ai @VB<|ai @BN<|@b9
def vmk:=ai @SN<|@SO
def vmc:=ai @true_and<|ai @and_true<|ai @akN<|ai @akn<|ai @akZ<|ai @al0<|ai @alU<|ai @al1<|ai @al4<|ai @akY<|ai @alj<|ai @List.contains_nil.{0}<|ai @alO<|ai @alY<|ai @alX<|ai @akF<|ai @ale<|ai @decide_true<|ai @beq_self_eq_true.{0}<|ai @List.isEmpty_nil.{0}<|ai @List.isEmpty_cons.{0}<|ai @Option.map_none.{0,0}<|ai @akp<|ai @List.all_cons.{0}<|ai @List.all_nil.{0}<|ai @al8<|ai @Bool.and_true<|ai @al9<|ai @Bool.false_and<|ai @Bool.and_self<|ai @and_self<|ai @alf<|ai @akO<|ai @alT<|ai @Nat.sub_zero<|ai @akj<|ai @aki<|ai @akq<|ai @ama<|ai @Bool.or_self<|@amb
def vm5:=ai @Io<|ai @aff<|ai @JS<|ai @FN<|ai @Z7<|ai @Vu<|ai @Pb<|ai @Wb<|ai @Lq<|ai @QA<|ai @Hd<|@QB
def vmu:=ai @AX.eq_1<|ai @AX.eq_2<|ai @ev.eq_1<|ai @ev.eq_2<|ai @ev.eq_4<|ai @qL.eq_1<|ai @qL.eq_2<|ai @qL.eq_3<|ai @qL.eq_4<|ai @fT.eq_1<|ai @fT.eq_2<|ai @FP.eq_1<|ai @FP.eq_3<|ai @nM.eq_1<|ai @nM.eq_2<|ai @nM.eq_3<|ai @jG.eq_1<|ai @jG.eq_2<|ai @jG.eq_3<|ai @jG.eq_4<|ai @jG.eq_5<|ai @jG.eq_6<|ai @jG.eq_7<|ai @jG.eq_10<|ai @jG.eq_11<|ai @jG.eq_12<|ai @jG.eq_13<|ai @jG.eq_14<|ai @jG.eq_15<|ai @Zz.eq_1<|ai @Zz.eq_4<|ai @aep.eq_1<|ai @aW.eq_1<|ai @aW.eq_2<|ai @gR.eq_1<|ai @gR.eq_3<|ai @fO.eq_1<|ai @fO.eq_2<|ai @live.eq_1<|ai @lL.eq_1<|ai @lL.eq_2<|ai @Ds.vp.eq_1<|ai @Ds.vp.eq_3<|ai @fw.eq_1<|ai @fw.eq_2<|ai @fw.eq_5<|ai @jW.eq_1<|ai @jW.eq_2<|ai @jW.eq_4<|ai @jW.eq_5<|ai @jW.eq_6<|ai @tj.eq_1<|ai @tj.eq_2<|ai @E1.eq_2<|ai @E1.eq_3<|ai @E1.eq_4<|ai @alive.eq_3<|ai @nm.eq_2<|ai @jQ.eq_1<|ai @jQ.eq_5<|ai @jQ.eq_6<|ai @ig.eq_1<|ai @uC.eq_1<|ai @p8.eq_1<|ai @cX.eq_1<|ai @cX.eq_2<|ai @nh.eq_1<|ai @iP.eq_3<|ai @iO.eq_1<|ai @kf.eq_1<|ai @kf.eq_2<|ai @fieldAt.eq_1<|ai @fi.eq_1<|ai @ui.eq_1<|ai @kR.eq_1<|ai @content.eq_1<|ai @content.eq_2<|ai @putCells.eq_1<|ai @eqD.eq_2<|ai @A9.eq_1<|ai @A9.eq_2<|ai @bu.eq_1<|ai @bu.eq_2<|ai @bu.eq_3<|ai @bu.eq_4<|ai @tw.eq_1<|ai @As.eq_2<|ai @As.eq_3<|@As.eq_4
def ai4:=ai @J0<|ai @JZ<|ai @V8<|ai @Qx<|ai @Qs<|ai @Ll<|ai @J1<|ai @V9<|ai @Qy<|ai @Lm<|ai @Qt<|ai @Hc<|ai @Qv<|ai @Qu<|ai @VF<|@FR
section
variable {T:Nat->Option Ty} {Γ:Env} {N F e:Nat} {Q Q':Kt} {t:Nat->D} {h:Nat->Option Row}
def j9(hm:∀x t h e,Q x t h e->Q' x t h e):∀(ws:List W)(x:Ex)(t:Nat->D)(h:Nat->Option Row)(e:Nat),dr T Γ N F ws Q x t h e->dr T Γ N F ws Q' x t h e
 | [],x,t,h,e,hk=>hm _ _ _ _ hk
 | .code c::ws,x,t,h,e,hk=>by
  unfold dr at hk ⊢;cases x with
  | normal=>exact ZI c t h e _ _ hk (fun x t h e b=>j9 hm ws x t h e b)
  | exit n=>exact j9 hm ws _ t h e hk
  | ret=>exact j9 hm ws _ t h e hk
 | .blk id::ws,x,t,h,e,hk=>by
  unfold dr aan at hk ⊢;cases x with
  | normal=>exact j9 hm ws _ t h e hk
  | exit n =>
   simp only at hk ⊢;split at hk
   ·rename_i a;rw[if_pos a];exact j9 hm ws _ t h e hk
   ·rename_i a;rw[if_neg a];exact j9 hm ws _ t h e hk
  | ret=>exact j9 hm ws _ t h e hk
def tM:∀(ws:List W)(k:Nat),dr T Γ N F ws Q=dr T Γ N F (ws.take k) (dr T Γ N F (ws.drop k) Q)
 | ws,0=>by simp[dr]
 | [],k+1=>by simp[dr]
 | .code c::ws,k+1=>by
  rw[al1,al0];funext x t h e;unfold dr;rw[tM ws k]
 | .blk id::ws,k+1=>by
  rw[al1,al0];funext x t h e;unfold dr;rw[tM ws k]
variable {σ:Type} {ops l:List Oper} {ws:List W} {dst:Option Nat} {fs:List mP} {d:D} {g:Nat}
def w7{J:σ->(Nat->D)->(Nat->Option Row)->Nat->Prop}{P:σ->Prop}{R:Kt}(a:∀s t h e,J s t h e->P s->R .normal t h e):∀x t h e,CK J P R x t h e->R x t h e:=by
 intro x t h e b;cases x with
 | normal=>obtain⟨s,c,d⟩:=b;exact a s t h e d c
 | exit n=>exact b
 | ret=>exact b
def zw(a:∀x t h e,Q x t h e->Q' x t h e)(b:mV T Γ N F ops l ws Q t h e):mV T Γ N F ops l ws Q' t h e:=zy (fun t h c=>j9 a ws _ _ _ _ c) _ _ _ b
def zx(b:∀x t h e,Q x t h e->Q' x t h e)(c:oa T Γ N F ops l ws Q t h e fs):oa T Γ N F ops l ws Q' t h e fs:=zu (fun t h fs a=>⟨a.1,j9 b ws _ _ _ _ a.2⟩) _ _ _ _ c
def wN(k:Nat):mV T Γ N F ops l ws Q t h e=mV T Γ N F ops l (ws.take k) (dr T Γ N F (ws.drop k) Q) t h e:=by unfold mV;rw[tM ws k]
def wO(k:Nat):oa T Γ N F ops l ws Q t h e fs=oa T Γ N F ops l (ws.take k) (dr T Γ N F (ws.drop k) Q) t h e fs:=by unfold oa;rw[tM ws k]
def Kn(k:Nat){o:Oper}:tQ T Γ N F o ops l ws Q t h e=tQ T Γ N F o ops l (ws.take k) (dr T Γ N F (ws.drop k) Q) t h e:=by
 unfold tQ;congr 1;funext t E;rw[wN k]
def Ks(k:Nat){o:Oper}:wm T Γ N F o ops l ws Q t h e fs=wm T Γ N F o ops l (ws.take k) (dr T Γ N F (ws.drop k) Q) t h e fs:=by
 unfold wm;congr 1;funext t E;rw[wO k]
def Ps{o:Oper}(a:∀x t h e,Q x t h e->Q' x t h e)(b:tQ T Γ N F o ops l ws Q t h e):tQ T Γ N F o ops l ws Q' t h e:=Cu b fun _ _ c=>zw a c
def Py{o:Oper}(a:∀x t h e,Q x t h e->Q' x t h e)(b:wm T Γ N F o ops l ws Q t h e fs):wm T Γ N F o ops l ws Q' t h e fs:=Cu b fun _ _ c=>zx a c
variable (k:Nat) (J:σ->(Nat->D)->(Nat->Option Row)->Nat->Prop) (P:σ->Prop)
def rp{x y:Code}(a:∀s t h e,J s t h e->P s->dr T Γ N F (ws.drop k) Q .normal t h e)(f:Ob T Γ N F d g x y (ws.take k) (CK J P (dr T Γ N F (ws.drop k) Q)) t h e):Ob T Γ N F d g x y ws Q t h e:=by
 unfold Ob at f ⊢;have i:∀c:Code,dr T Γ N F (.code c::ws) Q=dr T Γ N F (.code c::ws.take k) (dr T Γ N F (ws.drop k) Q):=fun c=>tM (.code c::ws) (k+1);rw[i,i];exact Cs f (fun _ b=>j9 (w7 a) _ _ _ _ _ b) (fun _ b=>j9 (w7 a) _ _ _ _ _ b)
def cK{b:Bool}{o:Oper}(a:∀s t h e,J s t h e->P s->dr T Γ N F (ws.drop k) Q .normal t h e)(f:zQ T Γ N F d g b o ops l (ws.take k) (CK J P (dr T Γ N F (ws.drop k) Q)) t h e):zQ T Γ N F d g b o ops l ws Q t h e:=by
 unfold zQ at f ⊢;refine IS f (fun t c =>?_) (fun t c =>?_) (fun t c =>?_)
 ·cases b
  ·simp only[akN,if_false]at c ⊢;rw[wN k];exact zw (w7 a) c
  ·simp only[if_true]at c ⊢;rw[Kn k];exact Ps (w7 a) c
 ·cases b
  ·simp only[akN,if_false]at c ⊢;rw[Kn k];exact Ps (w7 a) c
  ·simp only[if_true]at c ⊢;rw[wN k];exact zw (w7 a) c
 ·rw[wN k];exact zw (w7 a) c
def ac8{b:Bool}{o:Oper}(a:∀s t h e,J s t h e->P s->dr T Γ N F (ws.drop k) Q .normal t h e)(f:zR T Γ N F d g b o ops l (ws.take k) (CK J P (dr T Γ N F (ws.drop k) Q)) t h e fs):zR T Γ N F d g b o ops l ws Q t h e fs:=by
 unfold zR at f ⊢;refine IS f (fun t c =>?_) (fun t c =>?_) (fun t c =>?_)
 ·cases b
  ·simp only[akN,if_false]at c ⊢;rw[wO k];exact zx (w7 a) c
  ·simp only[if_true]at c ⊢;rw[Ks k];exact Py (w7 a) c
 ·cases b
  ·simp only[akN,if_false]at c ⊢;rw[Ks k];exact Py (w7 a) c
  ·simp only[if_true]at c ⊢;rw[wO k];exact zx (w7 a) c
 ·rw[wO k];exact zx (w7 a) c
end
def mkW{α β γ:Type}(ty:Nat)(E:iK γ)(A:ki α)(F:List γ->α->Option (List γ×β))(R:β->RK):Option (D×Row)->List D->Option (RK×Option Row):=fun bY a =>
 match bY with
 | some (.buf 0 0 s o n,⟨0,ty',cells,false,true,false⟩)=>open Classical in
  if h:ty'=ty∧s=E.size∧∃p:List D×List γ×List D×α,cells=p.1++(al E p.2.1++p.2.2.1)∧o=p.1.length∧n=p.2.1.length∧a=A.ds p.2.2.2 then
   (F (Classical.choose h.2.2).2.1 (Classical.choose h.2.2).2.2.2).map fun r=>(R r.2,some ⟨0,ty,(Classical.choose h.2.2).1++(al E r.1++(Classical.choose h.2.2).2.2.1),false,true,false⟩)
  else none
 | _=>none
def XE{γ:Type}{E:iK γ}{p a q c:List D}{l b:List γ}(h:p++(al E l++q)=a++(al E b++c))(d:p.length=a.length)(e:l.length=b.length):p=a∧l=b∧q=c:=by
 obtain⟨f,g⟩:=al2 h d;obtain⟨i,j⟩:=al2 g (by rw[bF,bF,e]);exact⟨f,ye E _ _ i,j⟩
def ab6{α β γ:Type}(ty:Nat)(E:iK γ)(A:ki α)(F:List γ->α->Option (List γ×β))(R:β->RK)(pre post:List D)(l:List γ)(a:α) :
  mkW ty E A F R (some (.buf 0 0 E.size pre.length l.length,⟨0,ty,pre++(al E l++post),false,true,false⟩)) (A.ds a)=(F l a).map fun r=>(R r.2,some ⟨0,ty,pre++(al E r.1++post),false,true,false⟩):=by
 have h:ty=ty∧E.size=E.size∧∃p:List D×List γ×List D×α,pre++(al E l++post)=p.1++(al E p.2.1++p.2.2.1)∧pre.length=p.1.length∧l.length=p.2.1.length∧A.ds a=A.ds p.2.2.2:=⟨rfl,rfl,(pre,l,post,a),rfl,rfl,rfl,rfl⟩;simp only[mkW];rw[dif_pos h];obtain⟨b,c,d,e⟩:=Classical.choose_spec h.2.2;obtain⟨f,g,i⟩:=XE b c d;rw[<- A.inj _ _ e,<- f,<- g,<- i]
def Q8{α β γ:Type}{ty:Nat}{E:iK γ}{A:ki α}{F:List γ->α->Option (List γ×β)}{R:β->RK}{bY:Option (D×Row)}{c:List D}{d:RK}{b:Option Row}(h:mkW ty E A F R bY c=some (d,b)) :
  ∃pre l post a e r,bY=some (.buf 0 0 E.size pre.length l.length,⟨0,ty,pre++(al E l++post),false,true,false⟩)∧c=A.ds a∧F l a=some (e,r)∧d=R r∧b=some ⟨0,ty,pre++(al E e++post),false,true,false⟩:=by
 unfold mkW at h;split at h
 ·split at h
  ·rename_i f;obtain⟨rfl,rfl,f⟩:=f;rw[akg]at h;grind
  ·cases h
 ·cases h
def cn.ahL{P:Program}{T:Nat->Option Ty}{Γ:Env}(i:jL P T)(j:bU P Γ)(k:P.follows .mixedOrders=true){α β γ:Type}{ty:Nat}{E:iK γ}{A:ki α}{F:List γ->α->Option (List γ×β)}{R:β->RK}{mode:Mode}{f:FuncId}{b:Func}(g:P.funcs[f]? = some b)(e:(match b.body with|some c=>codeOk c|none=>true)=true)
  (m:(b.name == "runtime.NumGoroutine")=false∧b.body.isNone=false) (n:∀a,(A.ds a).length+1<=b.ntmps)
  (h:∀pre post l a d r,F l a=some (d,r)->kN mode T Γ FU b (some (.buf 0 0 E.size pre.length l.length,⟨0,ty,pre++(al E l++post),false,true,false⟩)) (A.ds a)=some (R r,some ⟨0,ty,pre++(al E d++post),false,true,false⟩)):cn P f (mkW ty E A F R) where
 calls bY akd rk out o:=by
  obtain⟨pre,l,post,a,d,r,rfl,rfl,p,rfl,rfl⟩:=Q8 o;exact lY i j k g e (n a) rfl (h pre post l a d r p)
 callable:=⟨b,g,m⟩
def mkE{α γ:Type}(ty:Nat)(E:iK γ)(A:ki α)(F:List γ->α->Option (List γ)):Option (D×Row)->List D->Option (RK×Option Row):=fun bY a =>
 match bY with
 | some (.buf 0 0 s o n,⟨0,ty',cells,false,true,false⟩)=>open Classical in
  if h:ty'=ty∧s=E.size∧∃p:List D×List γ×List D×α,cells=p.1++(al E p.2.1++p.2.2.1)∧o=p.1.length∧n=p.2.1.length∧a=A.ds p.2.2.2 then
   (F (Classical.choose h.2.2).2.1 (Classical.choose h.2.2).2.2.2).map fun r=>(.fresh ty E.size r.length (al E r),none)
  else none
 | _=>none
def ab3{α γ:Type}(ty:Nat)(E:iK γ)(A:ki α)(F:List γ->α->Option (List γ))(pre post:List D)(l:List γ)(a:α) :
  mkE ty E A F (some (.buf 0 0 E.size pre.length l.length,⟨0,ty,pre++(al E l++post),false,true,false⟩)) (A.ds a)=(F l a).map fun r=>(.fresh ty E.size r.length (al E r),none):=by
 have h:ty=ty∧E.size=E.size∧∃p:List D×List γ×List D×α,pre++(al E l++post)=p.1++(al E p.2.1++p.2.2.1)∧pre.length=p.1.length∧l.length=p.2.1.length∧A.ds a=A.ds p.2.2.2:=⟨rfl,rfl,(pre,l,post,a),rfl,rfl,rfl,rfl⟩;simp only[mkE];rw[dif_pos h];obtain⟨b,c,d,e⟩:=Classical.choose_spec h.2.2;obtain⟨g,f,i⟩:=XE b c d;rw[<- A.inj _ _ e,<- f]
def Q7{α γ:Type}{ty:Nat}{E:iK γ}{A:ki α}{F:List γ->α->Option (List γ)}{bY:Option (D×Row)}{c:List D}{d:RK}{b:Option Row}(h:mkE ty E A F bY c=some (d,b)) :
  ∃pre l post a r,bY=some (.buf 0 0 E.size pre.length l.length,⟨0,ty,pre++(al E l++post),false,true,false⟩)∧c=A.ds a∧F l a=some r∧d=.fresh ty E.size r.length (al E r)∧b=none:=by
 unfold mkE at h;split at h
 ·split at h
  ·rename_i e;obtain⟨rfl,rfl,e⟩:=e;rw[akg]at h;grind
  ·cases h
 ·cases h
def cn.ahK{P:Program}{T:Nat->Option Ty}{Γ:Env}(g:jL P T)(i:bU P Γ)(j:P.follows .mixedOrders=true){α γ:Type}{ty:Nat}{E:iK γ}{A:ki α}{F:List γ->α->Option (List γ)}{f:FuncId}{b:Func}(e:P.funcs[f]? = some b)(d:(match b.body with|some c=>codeOk c|none=>true)=true)
  (k:(b.name == "runtime.NumGoroutine")=false∧b.body.isNone=false) (m:∀a,(A.ds a).length+1<=b.ntmps)
  (h:∀pre post l a r,F l a=some r->kN (.fresh ty E.size) T Γ FU b (some (.buf 0 0 E.size pre.length l.length,⟨0,ty,pre++(al E l++post),false,true,false⟩)) (A.ds a)=some (.fresh ty E.size r.length (al E r),none)):cn P f (mkE ty E A F) where
 calls bY akd rk out n:=by
  obtain⟨pre,l,post,a,r,rfl,rfl,o,rfl,rfl⟩:=Q7 n;exact lY g i j e d (m a) rfl (h pre post l a r o)
 callable:=⟨b,e,k⟩
def cn.zero{P:Program}{f:FuncId}{b:Func}(c:P.funcs[f]? = some b)(d:(b.name == "runtime.NumGoroutine")=false∧b.body.isNone=false){α β:Type}{A:ki α}{F:α->Option β}{R:β->RK}(g:∀a,F a=none):cn P f (ew A F R) where
 calls bY akd rk out e:=by
  obtain⟨rfl,rfl,a,r,rfl,h,rfl⟩:=vt e;simp_all
 callable:=⟨b,c,d⟩
section
variable {h:Nat->Option Row} {Γ:Env} {g e x v d:Nat} {dst:Option Nat} {fr:List Nat} {akd rest:List D} {d0:D} {T:Nat->Option Ty} {rs:List ResultVar}
def OO(h:Nat->Option Row)(e:Nat)(dst:Option Nat)(x v:Nat)(fr:List Nat):Option (RK×Option Row)->Option cv
 | some (.clean c,some a)=>some ⟨c,kE h fr++[(x,some { a with v:=v })]⟩
 | some (.same s o n,some a)=>some ⟨.buf x v s o n,kE h fr++[(x,some { a with v:=v })]⟩
 | some (.fresh ty s n cells,none) =>
  match dst with
  | some d=>if fr.contains d=false then some ⟨.buf d e s 0 n,kE h fr++[(x,none),(d,some ⟨e,ty,cells,false,true,false⟩)]⟩ else none
  | none=>none
 | _=>none
def aas(Γ:Env)(h:Nat->Option Row)(e:Nat)(dst:Option Nat)(g x v:Nat)(d0:D)(r:Row):Option (List D×List Nat)->Option cv
 | some (akd,fr)=>if fr.contains x=false then OO h e dst x v fr (Γ.sem g (some (d0,r)) akd) else none
 | none=>none
def ON(Γ:Env)(h:Nat->Option Row)(e:Nat)(dst:Option Nat)(g x v:Nat)(d0:D)(rest:List D):Option Row->Option cv
 | some r=>if r.fz=false then aas Γ h e dst g x v d0 { r with v:=0 } (bZ h rest) else none
 | none=>none
def OP{s o n:Nat}:ES true Γ h e dst g (.buf x v s o n::rest)=ON Γ h e dst g x v (.buf 0 0 s o n) rest (live h x v):=by
 simp only[ES,if_true,sX,BZ];cases live h x v with
 | none=>rfl
 | some r =>
  simp only[ON];cases bZ h rest with
  | none=>rfl
  | some p=>rfl
def lvR(v:Nat):Option Row->Option Row
 | some r=>if r.v=v∧r.mp=true∧xp r=true then some r else none
 | none=>none
def QY{v ty:Nat}{b:List ec}{vs:List D}{fz lst:Bool}(a:ty<900000):lvR v (some ⟨v,ty,[.mpc b vs],fz,lst,true⟩)=some ⟨v,ty,[.mpc b vs],fz,lst,true⟩:=by simp[lvR,xp,a]
def VG:ES true Γ h e dst g (.mp x v::rest)=ON Γ h e dst g x v (.mp 0 0) rest (lvR v (h x)):=by
 simp only[ES,if_true,sX,BZ];have:AV h x v=lvR v (h x):=by unfold AV lvR;cases h x<;>rfl
 rw[this];cases lvR v (h x) with
 | none=>rfl
 | some r =>
  simp only[ON];cases bZ h rest with
  | none=>rfl
  | some p=>rfl
def Br{c:D}{a ty:Nat}{cells:List D}{fz lst:Bool}:OO h e dst x v fr (some (.clean c,some ⟨a,ty,cells,fz,lst,true⟩))=some ⟨c,kE h fr++[(x,some ⟨v,ty,cells,fz,lst,true⟩)]⟩:=amP
def FT{r:Row}:ON Γ h e dst g x v d0 rest (some r)=if r.fz=false then aas Γ h e dst g x v d0 { r with v:=0 } (bZ h rest) else none:=amP
def FV{r:Row}:aas Γ h e dst g x v d0 r (some (akd,fr))=if fr.contains x=false then OO h e dst x v fr (Γ.sem g (some (d0,r)) akd) else none:=amP
def DP{c:D}{a ty:Nat}{cells:List D}{fz lst:Bool}:OO h e dst x v fr (some (.clean c,some ⟨a,ty,cells,fz,lst,false⟩))=some ⟨c,kE h fr++[(x,some ⟨v,ty,cells,fz,lst,false⟩)]⟩:=amP
def DQ{s n ty:Nat}{cells:List D}:OO h e (some d) x v fr (some (.fresh ty s n cells,none))=if fr.contains d=false then some ⟨.buf d e s 0 n,kE h fr++[(x,none),(d,some ⟨e,ty,cells,false,true,false⟩)]⟩ else none:=amP
def Ef{ty a i:Nat}{t:Nat->D}{l:D×Row}:gE (.fresh ty a) T (some l) [.tmp i] ⟨t,h,e⟩=sw ty a h (t i):=amP
def ahC(y v s o:Nat):Option Row->Option Ty->Option (Nat×Nat)->Option cv
 | some _,some φ,some (l,k)=>if φ.size=s∧0<s then some ⟨.buf y v s (o+l*s) (k-l),[]⟩ else none
 | _,_,_=>none
def KH{y v s o l k:Nat}{r:Row}{φ:Ty}:ahC y v s o (some r) (some φ) (some (l,k))=if φ.size=s∧0<s then some ⟨.buf y v s (o+l*s) (k-l),[]⟩ else none:=amP
def V7{el b c y v s o n:Nat}{z:List Value}{q:Bool}{a d:Option D}:iP T ⟨.slice el,b,c,z,q⟩ h (.buf y v s o n) a d none=ahC y v s o (live h y v) (T el) (As n a d):=by
 simp only[iP];cases live h y v with
 | none=>rfl
 | some r =>
  simp only;cases T el with
  | none=>rfl
  | some φ =>
   cases As n a d with
   | none=>rfl
   | some p=>rfl
def af8(ty:Nat):Option (List D×List Nat)->Option Row->Option (RK×Option Row)
 | some (a,fr),some r=>if r.v=0∧r.fz=false∧r.ty=ty∧r.mp=false∧fr.contains 0=false then some (.clean (n9 a),some r) else none
 | _,_=>none
def KE{ty:Nat}{a:List D}{r:Row}:af8 ty (some (a,fr)) (some r)=if r.v=0∧r.fz=false∧r.ty=ty∧r.mp=false∧fr.contains 0=false then some (.clean (n9 a),some r) else none:=amP
def KF{t:Nat->D}{ty v:Nat}{cells:List D}{fz lst:Bool}:gE .clean T (some (d0,⟨v,ty,cells,fz,lst,false⟩)) rs ⟨t,h,e⟩=af8 ty (yG T ⟨t,h,e⟩ rs) (h 0):=by
 simp only[gE,th,nN,ach,af8];cases yG T ⟨t,h,e⟩ rs with
 | none=>rfl
 | some p =>
  obtain⟨b,fr⟩:=p;cases h 0 with
  | none=>rfl
  | some r =>
   simp only
   by_cases a:r.v=0∧r.fz=false∧r.ty=ty∧r.mp=false
   ·rw[if_pos ⟨a.1,a.2.1,a.2.2.1,a.2.2.2,Hm a.2.2.2⟩];simp_all
   simp_all
def V3(ty:Nat):Option (List D×List Nat)->Option Row->Option (RK×Option Row)
 | some (a,fr),some r=>if r.v=0∧r.fz=false∧r.ty=ty∧(r.mp=true∧xp r=true)∧fr.contains 0=false then some (.clean (n9 a),some r) else none
 | _,_=>none
def Gz{ty:Nat}{b:List D}{c:List ec}{vs:List D}{lst:Bool}(a:ty<900000):V3 ty (some (b,fr)) (some ⟨0,ty,[.mpc c vs],false,lst,true⟩)=if fr.contains 0=false then some (.clean (n9 b),some ⟨0,ty,[.mpc c vs],false,lst,true⟩) else none:=by
 simp[V3,xp,a]
def GC{t:Nat->D}{ty v:Nat}{cells:List D}{fz lst:Bool}:gE .clean T (some (d0,⟨v,ty,cells,fz,lst,true⟩)) rs ⟨t,h,e⟩=V3 ty (yG T ⟨t,h,e⟩ rs) (h 0):=by
 simp only[gE,th,nN,ach,V3];grind
end
section
variable {α:Type} (E:iK α) {l m u x:List α} {y y':α} {i a b:Int} {pre post:List D}
def ae0(h:Fs l a b=some x):al E (l.take a.toNat)++(al E x++al E (l.drop b.toNat))=al E l:=by
 unfold Fs at h;split at h
 ·rename_i c;cases h;rw[<- iC,<- iC];congr 1;have e:l.drop b.toNat=(l.drop a.toNat).drop (b.toNat-a.toNat):=by rw[alR];congr 1;omega
  rw[e,alS,alS]
 ·cases h
def ae1(h:Fs l a b=some x):(al E (l.take a.toNat)).length=a.toNat*E.size:=by
 unfold Fs at h;split at h
 ·rw[bF,aky,amc (by omega)]
 ·cases h
def afP(h:Fs l a b=some x):x.length=b.toNat-a.toNat:=by
 unfold Fs at h;grind
def aeZ:al E (l.take i.toNat)++(al E u++al E (l.drop b.toNat))=al E (l.take i.toNat++(u++l.drop b.toNat)):=by rw[iC,iC]
def abB(h:P.idx l i=some y):(pre++(al E l++post)).drop (pre.length+i.toNat*E.size)=E.cells y++(al E (l.drop (i.toNat+1))++post):=by
 rw[<- alR,List.drop_left,al7 (by rw[bF];have:=kn E h;omega),zl E h,alZ]
def abC(h:P.idx l i=some y):pre.length+i.toNat*E.size+E.size<=(pre++(al E l++post)).length:=by
 have:=kn E h;rw[alh,alh,bF];omega
def Qq(h:P.idx l i=some y):(0<=i∧i<l.length)∧(pre++(al E l++post)).drop (pre.length+i.toNat*E.size)=E.cells y++(al E (l.drop (i.toNat+1))++post)∧pre.length+i.toNat*E.size+E.size<=(pre++(al E l++post)).length:=⟨oZ h,abB E h,abC E h⟩
def RY(h:P.idx l i=some y):putCells (pre++(al E l++post)) (pre.length+i.toNat*E.size) (E.cells y')=pre++(al E (l.set i.toNat y')++post):=by
 have a:=RZ E (x':=y') h;have b:=kn E h;have c:=bF E l;unfold putCells at a ⊢;rw[<- a,E.len];have d:(pre++(al E l++post)).take (pre.length+i.toNat*E.size)=pre++(al E l).take (i.toNat*E.size):=by
  grind
 have e:(pre++(al E l++post)).drop (pre.length+i.toNat*E.size+E.size)=(al E l).drop (i.toNat*E.size+E.size)++post:=by
  rw[akA,alL,alM (by omega),al5,alO,al7 (by omega)]
 simp_all
def adk(h:Fs l a b=some x)(c:u.length=x.length):(l.take a.toNat++(u++l.drop b.toNat)).length=l.length:=by
 have d:=afP h;unfold Fs at h;grind
def aeN(h:Fs l 0 b=some x):pre.length+x.length*E.size<=(pre++(al E l++post)).length∧((pre++(al E l++post)).drop pre.length).take (x.length*E.size)=al E x:=by
 obtain⟨d,e,a,f,c⟩:=Uz E h;have:=akW E.size a;refine⟨by rw[alh,alh,bF];omega,?_⟩;rw[List.drop_left,al6 (by rw[bF];exact this),c]
end
section
variable {h:Nat->Option Row} {Γ:Env} {e:Nat} {dst:Option Nat}
def caP:Option (D×List Nat)->Option (List D×List Nat)->Option (List D×List Nat)
 | some (d,fr),some (ds,a)=>some (d::ds,fr++a)
 | _,_=>none
def OM{d:D}{b:List D}{fr a:List Nat}:caP (some (d,fr)) (some (b,a))=some (d::b,fr++a):=amP
def O0:ee h []=some ([],[]):=amP
def J9{d:D}{a:List D}:ee h (d::a)=caP (bR h d) (ee h a):=by
 simp only[ee];cases bR h d with
 | none=>rfl
 | some x=>cases ee h a<;>rfl
def clC(f k:Nat):Option (List D×List Nat)->Option (D×List Nat)
 | some (a,fr)=>some (.clo f k a,fr)
 | none=>none
def O9{f k:Nat}{a:List D}{fr:List Nat}:clC f k (some (a,fr))=some (.clo f k a,fr):=amP
def O3{f k:Nat}{xs:List D}:cU h (.clo f k xs)=clC f k (ee h xs):=by
 simp only[cU]<;>cases ee h xs<;>rfl
def OX{g k:Nat}{a b:List D}:jP Γ h e dst (.clo g k a) b=if a.all uv then ES false Γ h e dst g (a.take k++(b++a.drop k)) else none:=by
 simp only[jP,ES,akN,if_false]
end
def Ib:n9 []=.tup []:=amP
def Oq(f:Nat):Arg Unit:=⟨fun _ =>.fn f,fun _ _ _=>rfl⟩
def afc{f:Nat}{x:Unit}:(Oq f).d x=.fn f:=amP
def MD{α:Type}(f k:Nat)(a:ki α):Arg α:=⟨fun x =>.clo f k (a.ds x),fun x y h=>a.inj _ _ (by simpa using h)⟩
def Z6{α:Type}{f k:Nat}{a:ki α}{x:α}:(MD f k a).d x=.clo f k (a.ds x):=amP
def vm7:=ai @OM<|ai @O0<|ai @J9<|ai @O9<|ai @O3<|ai @OX<|ai @Ib<|ai @Bz<|@Fi
def vm6:=ai @R7<|ai @ala<|ai @V7<|ai @KH<|ai @DQ<|ai @Ef<|ai @OP<|ai @VG<|ai @QY<|ai @Br<|ai @Gz<|ai @GC<|ai @FT<|ai @FV<|ai @DP<|ai @KE<|@KF
section
variable {T:Nat->Option Ty} {h:Nat->Option Row} {τ:Ty} {q:Nat->Bool}
def abN{x v o:Nat}:s7 τ h (.ptr x v o)=uN τ h x v o (live h x v):=amP
def afp{xs:List D}:s7 τ h (.ip xs)=fO τ h (.ip xs):=amP
def afn{x v o a ty:Nat}{c:List D}{fz:Bool}:uN τ h x v o (some ⟨a,ty,c,fz,true,false⟩)=fO τ h (.ptr x v o):=by
 simp only[uN,alG,Bool.and_false,akN,if_false]
def afo{x v o a ty:Nat}{c:List D}{lst:Bool}:uN τ h x v o (some ⟨a,ty,c,false,lst,false⟩)=fO τ h (.ptr x v o):=by
 simp only[uN,Bool.false_and,akN,if_false]
def Xf{p:D}{k:IntKind}{n:Int}:im τ h p (.int k n)=ig τ h p (.int k n):=amP
def SH{p:D}{b:Bool}:im τ h p (.bool b)=ig τ h p (.bool b):=amP
def Xe{p:D}{x v s o n:Nat}:im τ h p (.buf x v s o n)=ig τ h p (.buf x v s o n):=amP
def Xd{p:D}{xs:List D}:im τ h p (.agg xs)=ig τ h p (.agg xs):=amP
def ahv(b:Bool)(T:Nat->Option Ty)(τ:Ty)(h:Nat->Option Row)(a:List (Nat×D)):Option cv :=
 if b then iO T τ h a else
  match τ.ds,a with
  | .struct fs,[(0,.buf x v s o n)]=>if (alive h (.buf x v s o n))∧(fs.all fun f=>(T f.1).isSome)∧fieldAt T fs 0=some (0,1)∧τ.zero.length=1 then some ⟨.box1 x v s o n,[]⟩ else none
  | .struct fs,[(0,.box1 x v s o n)]=>if (alive h (.buf x v s o n))∧(fs.all fun f=>(T f.1).isSome)∧fieldAt T fs 0=some (0,1)∧τ.zero.length=1 then some ⟨.box1 x v s o n,[]⟩ else none
  | _,_=>cE (iO T τ h a)
def VC{d:Nat}{a:List (Nat×D)}:s5 q T τ h (some d) a=ahv (q d) T τ h a:=amP
def JU{a:List (Nat×D)}:ahv true T τ h a=iO T τ h a:=amP
def JJ{x v s o n:Nat}:alive h (.buf x v s o n)=(qY h x v).isSome:=amP
end
def vm8:=ai @abN<|ai @afp<|ai @afn<|ai @afo<|ai @Xf<|ai @SH<|ai @Xe<|ai @Xd<|ai @VC<|ai @JU<|@JJ
def ai5:=ai @ZQ<|ai @ae2<|ai @L2<|ai @W4<|ai @acE<|ai @Rg<|ai @Rf<|ai @afK<|ai @KX<|ai @KW<|ai @P3<|ai @Lt<|ai @Hv<|ai @Rj<|ai @WU<|ai @W0<|ai @QN<|ai @abY<|ai @Wt<|ai @K6<|ai @Wr<|ai @QF<|ai @Ws<|ai @Xa<|ai @Mb<|ai @Mc<|ai @Ma<|ai @SB<|ai @Mh<|ai @RO<|ai @RN<|ai @Wq<|ai @abL<|ai @abM<|ai @K5<|ai @W7<|ai @acP<|ai @acQ<|ai @SE<|ai @SD<|ai @Mr<|ai @Ms<|ai @IU<|ai @XI<|ai @XH<|ai @SZ<|ai @XA<|ai @ada<|ai @WK<|ai @aci<|@jO
def ai6:=ai @Wa<|ai @Qz<|ai @Lp<|ai @Ru<|ai @Hz<|ai @Rw<|ai @Rv<|ai @Lx<|ai @Rt<|ai @Rs<|ai @L7<|ai @Mf<|ai @L6<|ai @Me<|ai @W8<|ai @Xb<|ai @L8<|ai @Mg<|ai @Lh<|ai @Li<|ai @OC<|ai @OD<|ai @Sz<|ai @L9<|ai @SA<|ai @JP<|ai @JO<|@qY.eq_1
def ai7:=ai @abg<|ai @Wm<|ai @Wj<|ai @WI<|ai @Lo<|ai @Lr<|ai @QQ<|ai @QT<|ai @Hj<|ai @QU<|ai @QS<|ai @Lc<|ai @QP<|ai @QO<|ai @QR<|ai @Rq<|ai @Rn<|ai @Hy<|ai @Rr<|ai @Rp<|ai @Lw<|ai @Rm<|ai @Rl<|ai @Ro<|ai @J5<|ai @DV<|ai @DT<|ai @DU<|ai @Pg<|ai @Ph<|ai @aa7<|ai @VW<|ai @aa6<|ai @VV<|ai @PF<|ai @PG<|ai @OT<|ai @J4<|ai @Sw<|ai @L5<|ai @Sx<|ai @BO<|ai @KD<|ai @KC<|ai @V4<|ai @PT<|ai @V1<|ai @KB<|@PR
def v:=ai @vmc<|ai @vmk<|ai @vm1<|ai @vm2<|ai @vm3<|ai @vm4<|ai @vm5<|ai @vm6<|ai @vm7<|ai @vm8<|ai @ai4<|ai @ai5<|ai @ai6<|ai @ai7<|ai @vmu<|ai @Option.toList_some.{0}<|@Option.toList_none.{0}
class DL(κ:Type) where
 k:κ->ec
 inj:∀x y,k x=k y->x=y
instance:DL Int:=⟨fun n=>(n,none),fun x y h=>by simpa using h⟩
end Go.Proofs.YtobnihfgnbnncaaGreat.Am
