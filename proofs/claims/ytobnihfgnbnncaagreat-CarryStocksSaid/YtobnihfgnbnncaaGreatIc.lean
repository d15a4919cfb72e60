import Derived.Test.YtobnihfgnbnncaaGreatIb
set_option linter.unusedSimpArgs false
set_option linter.unusedVariables false
set_option linter.defProp false
noncomputable section
open Go.Proofs.Tryz
namespace Go.Proofs.YtobnihfgnbnncaaGreat.Am
open Go.RowKit
section
variable {T:Nat->Option Ty} {h h':Nat->Option Row} {e:Nat} {o:Oper} {Γ:Env}
def sa {x v:Nat} (a:h x=h' x):iu h x v=iu h' x v:=by simp[iu,a]
def pU {x v:Nat} {q:Row×Nat×Nat×Nat×List D} (a:iu h x v=some q):x<PK:=by
 obtain⟨r,ty,s,nv,cs⟩:=q;exact (j9 a).2.2.2.2.1
def Fo:∀(l:List (Nat×Option Row)) {h h':Nat->Option Row},(∀p∈l,h (rt p.1)=h' (rt p.1))->nw h l=nw h' l
 | [],_,_,_=>rfl
 | (k,r)::l,h,h',c=>by
  have d:h (rt k)=h' (rt k):=c (k,r) (by simp);have e:Da h k r=Da h' k r:=by
   unfold Da;split
   ·rfl
   ·rename_i a;have:rt k=k % PK:=by unfold rt;rw[if_neg a]
    rw[<- this,d]
  unfold nw;rw[e];congr 1;refine Fo l fun p f =>?_
  by_cases b:rt p.1=rt k
  ·rw[b,ay,ay]
  ·rw[aD _ _ b,aD _ _ b];grind
def Fp:∀(l:List (Nat×Option Row)) {h:Nat->Option Row},∀p∈nw h l,∃q∈l,p.1=rt q.1
 | [],_,p,a=>by simp[nw]at a
 | (k,r)::l,h,p,a=>by
  unfold nw at a;rcases alx.1 a with rfl|a
  ·simp_all
  ·obtain⟨q,b,c⟩:=Fp l p a;grind
def aaA {τ:Ty} {p d:D} {E:cH} (a:qN τ e h p d=some E):∀q∈E.hw,q.1<PK∧(q.1∈nm p∨q.1∈nm d):=by
 unfold qN at a;split at a<;>try (cases a;done)
 rename_i f k g;split at a<;>try (cases a;done)
 rename_i r ty s nv cs n;have i:=pU n;split at a<;>try (cases a;done)
 have one:∀ {l:Option Row} (q:Nat×Option Row),q∈[(f,l)]->q.1<PK∧(q.1∈nm (.ptr f k g)∨q.1∈nm d):=by
  intro l q c;simp only[alM]at c;subst c;exact⟨i,.inl (by simp[nm,kj])⟩
 have b:∀ {m:Option (List D)},Pd τ f r ty s nv cs g m=some E->∀q∈E.hw,q.1<PK∧(q.1∈nm (.ptr f k g)∨q.1∈nm d):=by
  intro m a;unfold Pd at a;grind
 unfold KB at a;split at a
 ·rename_i o t u v w;split at a<;>try (cases a;done)
  split at a
  ·split at a<;>try (cases a;done)
   unfold Pb at a;grind
  ·split at a<;>try (cases a;done)
   rename_i j;split at a<;>try (cases a;done)
   split at a<;>try (cases a;done)
   unfold EC at a;split at a<;>try (cases a;done)
   cases a;intro q c;rcases alx.1 c with rfl|c
   ·exact⟨j,.inr (by simp[nm,kj])⟩
   ·exact one q c
 ·exact b a
def ZV {τ:Ty} {p:D} {E:cH} (a:tZ τ h p=some E):∀q∈E.hw,q.1<PK∧q.1∈nm p:=by
 unfold tZ at a;split at a<;>try (cases a;done)
 rename_i e f g;split at a<;>try (cases a;done)
 rename_i r ty s nv cs d;have b:=pU d;split at a<;>try (cases a;done)
 unfold Vf at a;split at a<;>try (cases a;done)
 cases a;intro q c;simp only[alM]at c;subst c;exact⟨b,by simp[nm,kj]⟩
def aaC {τ:Ty} {p d:D} {E:cH} (a:ud τ e h p d=some E):∀q∈E.hw,q.1<PK∧(q.1∈nm p∨q.1∈nm d):=by
 unfold ud at a;split at a<;>try (cases a;done)
 rename_i g i j;split at a<;>try (cases a;done)
 rename_i r ty s nv cs f;have b:=pU f;split at a<;>try (cases a;done)
 unfold VM at a;split at a<;>try (cases a;done)
 split at a<;>try (cases a;done)
 unfold stZ at a;split at a<;>try (cases a;done)
 cases a;intro q c;simp only[alM]at c;subst c;exact⟨b,.inl (by simp[nm,kj])⟩
def ZU {τ:Ty} {d:D} (b:∀x∈nm d,x<2*PK->h x=h' x):tZ τ h d=tZ τ h' d:=by
 unfold tZ;split
 ·rename_i x v o
  by_cases c:x<2*PK
  ·rw[sa (b x (by simp[nm,kj]) c)]
  ·have a:∀h:Nat->Option Row,iu h x v=none:=by
    intro h;cases e:iu h x v with
    | none=>rfl
    | some q=>have:=pU e;omega
   rw[a,a]
 ·rfl
def aaB {τ:Ty} {p d:D} (c:∀x∈nm p,x<2*PK->h x=h' x):ud τ e h p d=ud τ e h' p d:=by
 unfold ud;split
 ·rename_i x v o
  by_cases a:x<2*PK
  ·rw[sa (c x (by simp[nm,kj]) a)]
  ·have b:∀h:Nat->Option Row,iu h x v=none:=by
    intro h;cases f:iu h x v with
    | none=>rfl
    | some q=>have:=pU f;omega
   rw[b,b]
 ·rfl
def ZW {τ:Ty} {d:D} (b:∀x∈nm d,x<2*PK->h x=h' x):ua τ h d=ua τ h' d:=by
 unfold ua;split
 ·rename_i x v o
  by_cases c:x<2*PK
  ·rw[sa (b x (by simp[nm,kj]) c)]
  ·have a:∀h:Nat->Option Row,iu h x v=none:=by
    intro h;cases e:iu h x v with
    | none=>rfl
    | some q=>have:=pU e;omega
   rw[a,a]
 ·rfl
def aaz {τ:Ty} {p d:D} (f:∀x∈nm p,x<2*PK->h x=h' x) (g:∀x∈nm d,x<2*PK->h x=h' x):qN τ e h p d=qN τ e h' p d:=by
 unfold qN;split
 ·rename_i x v o
  by_cases a:x<2*PK
  rotate_left
  ·have c:∀h:Nat->Option Row,iu h x v=none:=by
    intro h;cases i:iu h x v with
    | none=>rfl
    | some q=>have:=pU i;omega
   rw[c,c]
  rw[sa (f x (by simp[nm,kj]) a)];split
  ·split
   ·unfold KB;split
    ·rename_i y j k l n
     by_cases b:y<2*PK
     ·rw[dI (g y (by simp[nm,kj]) b)]
     grind
    ·rfl
   ·rfl
  ·rfl
 ·rfl
def gM {vs:Operand->D} {x:Nat} (a:x∈jm o vs):rt x∈di o vs:=alp.2 ⟨x,a,rfl⟩
def sr {vs:Operand->D} {y:Operand} (d:y∈o.op.operands.toList) (e:∀a b c,o.op ≠ .pick a b c) (f:∀a,o.op ≠ .move a) (g:∀a b c,o.op ≠ .makeFunc a b c) {x:Nat} (h:x∈nm (vs y)):x∈jm o vs:=by
 unfold jm;grind
def Lc {vs:Operand->D} {q:D} {a:List D} (j:jZ vs o.op=some (q,a)) (k:∀x∈di o vs,h x=h' x):∀d∈a,∀x∈nm d,h (rt x)=h' (rt x):=by
 obtain⟨c,f,e,g,_,b⟩:=rN j;subst b;intro d l x i;obtain⟨y,m,rfl⟩:=alp.1 l;exact k _ (gM (sr (y:=y) (by simp[e,Op.operands,Call.operands,g];simp_all) (by simp[e]) (by simp[e]) (by simp[e]) i))
def Qa {g:Nat} {a:List D} (i:∀d∈a,∀x∈nm d,h (rt x)=h' (rt x)):wm Γ e h g a=wm Γ e h' g a:=by
 unfold wm;split
 ·rename_i x v c rest;have b:b9 (EH h) rest=b9 (EH h') rest:=lf fun d k x f=>fp (i d (amI _ k) x f)
  by_cases l:x<2*PK
  ·have:=i _ amH x (by simp[nm,kj]);rw[jU l]at this;rw[sa this,b]
  ·have j:∀h:Nat->Option Row,iu h x v=none:=by
    intro h;cases m:iu h x v with
    | none=>rfl
    | some q=>have:=pU m;omega
   rw[j,j]
 ·rfl
def QV {vs:Operand->D} (f:∀x∈di o vs,h x=h' x):rQ Γ e h o.dst (jZ vs o.op)=rQ Γ e h' o.dst (jZ vs o.op):=by
 unfold rQ;split
 ·rename_i d g b c i;unfold Hw;split
  ·rw[lf fun d c x a=>fp (Lc i f d c x a)]
  ·rfl
 ·rfl
def UQ {vs:Operand->D} (i:∀x∈di o vs,h x=h' x):y6 T Γ e o vs h=y6 T Γ e o vs h':=by
 unfold y6;split
 ·rename_i ty p a;split
  ·have d:∀x∈nm (vs p),x<2*PK->h x=h' x:=fun x b f=>by
    have:=i _ (gM (sr (y:=p) (by simp[a,Op.operands]) (by simp[a]) (by simp[a]) (by simp[a]) b))
    rwa [jU f]at this
   unfold y5;rw[ZW d,ZU d]
  ·rfl
 ·rename_i ty p x a;split
  ·have d:∀x∈nm (vs p),x<2*PK->h x=h' x:=fun y b f=>by
    have:=i _ (gM (sr (y:=p) (by simp[a,Op.operands]) (by simp[a]) (by simp[a]) (by simp[a]) b))
    rwa [jU f]at this
   unfold y7;rw[aaz d (fun y b f=>by
    have:=i _ (gM (sr (y:=x) (by simp[a,Op.operands]) (by simp[a]) (by simp[a]) (by simp[a]) b))
    rwa [jU f]at this),aaB d]
  ·rfl
 ·rename_i c a;unfold Fi;split
  ·rename_i g j k;exact Qa (Lc (by rw[a];exact k) i)
  ·rfl
 ·rfl
def UL {vs:Operand->D} (hx:∀x∈di o vs,h x=h' x):tj T Γ e o vs h=tj T Γ e o vs h':=by
 have b:uO T Γ e o vs (EH h)=uO T Γ e o vs (EH h'):=Zw fun x a=>fp (hx _ (gM a));unfold tj;rw[b,UQ hx,QV hx];split
 ·rfl
 split
 ·rfl
 ·cases c:uO T Γ e o vs (EH h') with
  | none=>rfl
  | some E =>
   simp only[or2];rw[Fo E.hw fun p d=>hx _ (gM (LN c p d))]
def UM {vs:Operand->D} {E:cH} (b:tj T Γ e o vs h=some E):∀p∈E.hw,p.1∈di o vs:=by
 unfold tj at b;split at b
 ·rename_i G a;simp only[alz]at b;subst b;unfold jy at a;split at a<;>try (cases a;done)
  rotate_left
  ·rename_i ty i;split at a<;>try (cases a;done)
   rename_i d n;split at a<;>try (cases a;done)
   split at a<;>try (cases a;done)
   unfold mkA at a;split at a<;>try (cases a;done)
   rename_i t;cases a;intro p k;simp only[alM]at k;subst k;have A:d∈jm o vs:=by
    unfold jm;simp_all
   have:=gM A
   rwa [jU (by omega)]at this
  rename_i ty l c i;split at a<;>try (cases a;done)
  rename_i d n;split at a<;>try (cases a;done)
  split at a<;>try (cases a;done)
  unfold sM at a;split at a<;>try (cases a;done)
  split at a<;>try (cases a;done)
  split at a<;>try (cases a;done)
  rename_i t;cases a;intro p k;simp only[alM]at k;subst k;have A:d∈jm o vs:=by
   unfold jm;simp_all
  have:=gM A
  rwa [jU (by omega)]at this
 split at b
 ·rename_i G j;simp only[alz]at b;subst b;unfold rQ at j;split at j<;>try (cases j;done)
  rename_i d g B n u;obtain⟨c,f,C,F,m,w⟩:=rN u;unfold Hw at j;split at j<;>try (cases j;done)
  obtain⟨_,_,_,_,_,_,_,_,_,L,rfl⟩:=Bg j;intro p k;simp only[alM]at k;subst k;have A:d∈jm o vs:=by
   unfold jm;simp_all
  have:=gM A
  rwa [jU (by omega)]at this
 ·unfold or2 at b;split at b
  ·rename_i X M N;simp only[alz]at b;subst b;intro p k;obtain⟨q,O,P⟩:=Fp M p k;rw[P];exact gM (LN N q O)
  ·unfold y6 at b;split at b
   ·rename_i ty p i;split at b<;>try (cases b;done)
    unfold y5 orE at b;split at b
    ·rename_i G H;simp only[alz]at b;subst b;intro q m;obtain⟨Q,z⟩:=ZV H q m;have:q.1∈jm o vs:=sr (y:=p) (by simp[i,Op.operands]) (by simp[i]) (by simp[i]) (by simp[i]) z;have:=gM this
     rwa [jU (by omega)]at this
    rw[LM b];simp_all
   ·rename_i ty p x i;split at b<;>try (cases b;done)
    intro q m;have I:q.1<PK∧(q.1∈nm (vs p)∨q.1∈nm (vs x)):=by
     unfold y7 orE at b;split at b
     ·rename_i G H;simp only[alz]at b;subst b;exact aaC H q m
     ·exact aaA b q m
    obtain⟨Q,z⟩:=I;have:q.1∈jm o vs:=by
     rcases z with z|z
     ·exact sr (y:=p) (by simp[i,Op.operands]) (by simp[i]) (by simp[i]) (by simp[i]) z
     ·exact sr (y:=x) (by simp[i,Op.operands]) (by simp[i]) (by simp[i]) (by simp[i]) z
    have:=gM this
    rwa [jU (by omega)]at this
   ·rename_i c i;unfold Fi at b;split at b<;>try (cases b;done)
    rename_i g B u;obtain⟨Y,f,C,F,m,w⟩:=rN u;cases C;obtain⟨x,v,K,rest,r,ty,s,nv,cs,p,alj,R,d,S,U,V,_,_,_,_,_,rfl⟩:=xj b;have W:=pU V;intro q m;simp only[alM]at m;subst m;obtain⟨y,Z,J⟩:∃y∈c.args.toList,vs y=.ptr x v K:=by
     have:(.ptr x v K:D)∈c.args.toList.map vs:=by grind
     simp_all
    have:x∈jm o vs:=sr (y:=y) (by simp[i,Op.operands,Call.operands,F];simp_all) (by simp[i]) (by simp[i]) (by simp[i]) (by rw[J];simp[nm,kj]);have:=gM this
    rwa [jU (by omega)]at this
   ·cases b
def ae6 {vs a:Operand->D} (hx:∀y∈o.op.operands.toList,vs y=a y):tj T Γ e o vs h=tj T Γ e o a h∧di o vs=di o a:=by
 obtain⟨i,j⟩:=ahn (T:=T) (Γ:=Γ) (e:=e) (h:=EH h) hx;have k:jy T Γ e o vs=jy T Γ e o a:=by
  unfold jy;split
  ·rename_i ty l c b;rw[hx l (by simp[b,Op.operands]),hx c (by simp[b,Op.operands])]
  ·rfl
  ·rfl
 have g:∀c,o.op=.call c->jZ vs (.call c)=jZ a (.call c):=by
  intro c b;unfold jZ;simp only;split
  ·rename_i f d;rw[hx f (by simp[b,Op.operands,Call.operands,d]),amL fun y m=>hx y (by simp[b,Op.operands,Call.operands,d];simp_all)]
  ·rfl
 have n:y6 T Γ e o vs h=y6 T Γ e o a h:=by
  unfold y6;split
  ·rename_i ty p b;rw[hx p (by simp[b,Op.operands])]
  ·rename_i ty p x b;rw[hx p (by simp[b,Op.operands]),hx x (by simp[b,Op.operands])]
  ·simp_all
  ·rfl
 have q:jZ vs o.op=jZ a o.op:=by
  by_cases r:∃c,o.op=.call c
  ·grind
  ·unfold jZ;simp_all
 unfold tj di;simp_all
end
structure nA where
 tc:List Nat
 q:Bool
def zm (ops:Array Oper) (t:Nat->D) (o:Oper):Option Bool :=
 match o.guard with
 | none=>some true
 | some (j,a) =>
  match (ops[j]?).bind (·.dst) with
  | some g=>match t g with | .bool b=>some (b==a) | .skp=>some false|_=>none
  | none=>none
def gg (t:Nat->D) (dst:Option Nat) (d:D):Nat->D :=
 match dst with
 | none=>t
 | some i=>cq t i d
def fits (N:Nat) (dst:Option Nat):Bool :=
 match dst with
 | none=>true
 | some i=>decide (i<N)
def step1 (T:Nat->Option Ty) (Γ:Env) (N e:Nat) (ops:Array Oper) (o:Oper) (t:Nat->D) (h:Nat->Option Row):Option ((Nat->D)×(Nat->Option Row)×nA) :=
 if fits N o.dst then
  match zm ops t o with
  | some true =>
   match tj T Γ e o (ev t) h with
   | some E=>some (gg t o.dst E.val,aZ h E.hw,⟨di o (ev t),E.hw.isEmpty⟩)
   | none=>none
  | some false=>some (gg t o.dst .skp,h,⟨[],true⟩)
  | none=>none
 else none
section
variable {P:Program} {T:Nat->Option Ty} {N:Nat} {M:Nat->Prop} {L:lG} {w0:World} {blk:Nat->Option (Nat×Nat)} {t:Nat->D} {h:Nat->Option Row} {a:Act} {w:World} {e:Nat} {o:Oper} {Γ:Env} {ops:Array Oper}
def CS {V:Nat->Nat->Prop} (p:Inv N M L w0 blk V t h a w) {b:Bool} (c:zm ops t o=some b):Region.wanted o (yielded ops a.tmps)=b:=by
 unfold zm at c;split at c
 ·rename_i i;simp only[alz]at c;subst c;simp[Region.wanted,i]
 ·rename_i j e i;split at c
  ·rename_i g l;split at c
   ·rename_i q m;simp only[alz]at c;subst c;have f:=p.slots g;rw[m]at f;have d:=zY f;have r:a.tmps[g]? = some (.bool q):=by
     simp only[alv]at d;cases k:a.tmps[g]? with
     | none=>rw[k]at d;cases d
     | some v=>simp_all
    have n:yielded ops a.tmps j=some q:=by
     unfold yielded;simp_all
    simp only[Region.wanted,i,n];simp_all
   ·rename_i m;simp only[alz]at c;subst c;have f:=p.slots g;rw[m]at f;have d:a.tmps.getD g undef=undef:=f;have n:yielded ops a.tmps j=none:=by
     unfold yielded;rw[l];simp only[alv]at d;cases k:a.tmps[g]? with
     | none=>simp_all
     | some v=>rw[k]at d;simp only[Option.getD_some]at d;subst d;simp only[Option.bind_some,k];rfl
    simp only[Region.wanted,i,n]<;>cases e<;>rfl
   ·cases c
  ·cases c
def Inv.ahP {V:Nat->Nat->Prop} (b:Inv N M L w0 blk V t h a w) (c:fits N o.dst=true) {d:D} {v:Value} (e:RT w (Own M h blk) h blk V d v):Inv N M L w0 blk V (gg t o.dst d) h (a.put o.dst v) w:=by
 cases f:o.dst with
 | none=>simpa [gg,Act.put] using b
 | some i =>
  rw[f]at c;exact b.put (by simpa [fits] using c) e
def Pe (u:ke P T) (y:bV P Γ) {done:List Nat} {q:Nat->D} {h':Nat->Option Row} {f:nA} {K:Act->World->Prop} {Q:Exit->Act->World->Prop} (i:w7 N M L w0 blk e done t h a w)
  (b:step1 T Γ N e ops o t h=some (q,h',f)) (z:∀d,o.dst=some d->d∉done) (r:∀s m c,w7 N M L w0 c e (o.dst.toList++done) q h' s m->K s m) :
  if Region.wanted o (yielded ops a.tmps) then o.wp P a w K Q∨(o.asks P a w∧LetsOut Q) else K (a.put o.dst undef) w:=by
 unfold step1 at b;split at b
 ·rename_i l;split at b
  ·rename_i p;rw[CS i.inv p];simp only[if_true];split at b
   ·rename_i E A;simp only[alz,Prod.mk.injEq]at b;obtain⟨rfl,rfl,_⟩:=b;have:=UN u y i (fun d j=>⟨z d j,by rw[j]at l;simpa [fits] using l⟩) A;refine .inl (this.wp fun v m B =>?_);obtain⟨c,k,C⟩:=B;exact r _ _ c ⟨k.inv.ahP l C,k.nv⟩
   ·cases b
  ·rename_i p;rw[CS i.inv p];simp only[alY,if_false];simp only[alz,Prod.mk.injEq]at b;obtain⟨rfl,rfl,_⟩:=b;have g:∀x,x∈done->x∈o.dst.toList++done:=fun x hx=>alG _ hx;exact r _ _ blk ⟨(i.inv.ahP l (d := .skp) (v:=undef) rfl).weaken fun x n hx=>hx.step (.refl e h) g,i.nv.step (.refl e h) g⟩
  ·cases b
 ·cases b
def gR {x:Nat} : ∀ {l:List (Nat×Option Row)} {h:Nat->Option Row},(∀p∈l,p.1≠x)->aZ h l x=h x
 | [],_,_=>rfl
 | (y,r)::l,h,hn=>by
  simp only[aZ];rw[gR (fun p a=>hn p (by simp[a]))];exact aD _ _ (fun e=>hn (y,r) (by simp) e.symm)
def DC {x:Nat} : ∀ {l:List (Nat×Option Row)} {h h':Nat->Option Row},(∃p∈l,p.1=x)->aZ h l x=aZ h' l x
 | [],_,_,he=>by simp_all
 | (y,r)::l,h,h',he=>by
  simp only[aZ]
  by_cases hl:∃p∈l,p.1=x
  ·exact DC hl
  ·have c:∀p∈l,p.1≠x:=fun p b a=>hl ⟨p,b,a⟩;rw[gR c,gR c];obtain⟨p,b,a⟩:=he;rcases alx.1 b with rfl|b
   ·simp only at a;subst a;rw[ay,ay]
   grind
def PS {l l':List (Nat×Option Row)} {h:Nat->Option Row} (hd:∀p∈l,∀q∈l',p.1≠q.1):aZ (aZ h l) l'=aZ (aZ h l') l:=by
 funext x
 by_cases h1:∃p∈l,p.1=x
 ·obtain⟨p,b,rfl⟩:=h1;rw[gR (fun q f e=>hd p b q f e.symm)];exact DC ⟨p,b,rfl⟩
 ·have d:∀p∈l,p.1≠x:=fun p b a=>h1 ⟨p,b,a⟩;rw[gR d]
  by_cases h2:∃p∈l',p.1=x
  ·exact DC h2
  ·have c:∀p∈l',p.1≠x:=fun p b a=>h2 ⟨p,b,a⟩;rw[gR c,gR c,gR d]
def aal {t:Nat->D} {x y:Option Nat} {v u:D} (hne:∀d,x=some d->y≠some d):gg (gg t x v) y u=gg (gg t y u) x v:=by
 cases x with
 | none=>rfl
 | some i =>
  cases y with
  | none=>rfl
  | some j=>exact aep t v u (fun e=>hne i rfl (by rw[e]))
def Ya {t:Nat->D} {x:Option Nat} {v:D} {s:Nat} (hne:x≠some s):gg t x v s=t s:=by
 cases x with
 | none=>rfl
 | some i=>exact aD _ _ (fun e=>hne (by rw[e]))
def TQ {t t1:Nat->D} {h m:Nat->Option Row} {f:nA} (b:step1 T Γ N e ops o t h=some (t1,m,f)) :
  ∃v hw,t1=gg t o.dst v∧m=aZ h hw∧(∀p∈hw,p.1∈f.tc)∧(f.q=true->hw=[]) ∧
   ∀a h',(∀s∈o.looksAt ops,t s=a s)->(∀x∈f.tc,h x=h' x)->step1 T Γ N e ops o a h'=some (gg a o.dst v,aZ h' hw,f):=by
 have k:∀a:Nat->D,(∀s∈o.looksAt ops,t s=a s)->zm ops t o=zm ops a o:=by
  intro a c;unfold zm;split
  ·rfl
  ·rename_i j n r;split
   ·rename_i g d;rw[c g (by simp[Oper.looksAt,r,d])]
   ·rfl
 have l:∀a:Nat->D,(∀s∈o.looksAt ops,t s=a s)->∀y∈o.op.operands.toList,ev t y=ev a y:=by
  intro a c y F;cases y with
  | tmp i=>exact c i (by unfold Oper.looksAt;grind)
  | const v=>rfl
  | global g=>rfl
  | func f=>rfl
 unfold step1 at b;split at b
 ·rename_i u;split at b
  ·rename_i d;split at b
   ·rename_i E q;simp only[alz,Prod.mk.injEq]at b;obtain⟨rfl,rfl,rfl⟩:=b;refine⟨E.val,E.hw,rfl,rfl,UM q,fun w=>by simpa using w,fun a h' c hh =>?_⟩;obtain⟨z,A⟩:=ae6 (T:=T) (Γ:=Γ) (e:=e) (h:=h) (l a c);have G:tj T Γ e o (ev a) h'=some E:=by
     rw[<- q,z];exact (UL (fun x B=>hh x (by rw[A];exact B))).symm
    unfold step1;grind
   ·cases b
  ·rename_i d;simp only[alz,Prod.mk.injEq]at b;obtain⟨rfl,rfl,rfl⟩:=b;refine⟨.skp,[],rfl,rfl,fun p C=>by simp at C,fun _=>rfl,fun a h' c hh =>?_⟩;unfold step1;rw[if_pos u,<- k a c,d];rfl
  ·cases b
 ·cases b
def Uo (T:Nat->Option Ty) (Γ:Env) (N e:Nat) (ops:Array Oper) (F:Nat->nA):List Nat->(Nat->D)->(Nat->Option Row)->(Nat->D)->(Nat->Option Row)->Prop
 | [],t,h,a,h'=>t=a∧h=h'
 | i::L,t,h,a,h'=>∃o t1 b,ops[i]? = some o∧step1 T Γ N e ops o t h=some (t1,b,F i)∧Uo T Γ N e ops F L t1 b a h'
def ae1 (l a:List Nat):Bool:=l.all fun x => !a.contains x
structure Wj (ops:Array Oper) (F:Nat->nA) (j i:Nat):Prop where
 apart:∀oj oi,ops[j]? = some oj->ops[i]? = some oi->oj.apart ops oi=true
 foot:((F j).q&&(F i).q||ae1 (F j).tc (F i).tc)=true
def swap {F:Nat->nA} {i j:Nat} {L:List Nat} {t H:Nat->D} {h h':Nat->Option Row} (K:Uo T Γ N e ops F (j::i::L) t h H h') (I:Wj ops F j i):Uo T Γ N e ops F (i::j::L) t h H h':=by
 obtain⟨v,t1,h1,c,w,u,t2,P,f,z,b⟩:=K;obtain⟨a1,a2,a3⟩:=Oper.apart_spec (I.apart v u c f);obtain⟨Q,J,rfl,rfl,R,S,g⟩:=TQ w;obtain⟨vi,A,rfl,rfl,M,U,k⟩:=TQ z;have a:=I.foot;simp only[Bool.or_eq_true,al0]at a;have d1:∀x∈(F i).tc,∀p∈J,p.1≠x:=by
  intro x m p B C;rcases a with⟨h1,_⟩|h1
  ·simp_all
  ·simp only[ae1,alB]at h1;grind
 have d2:∀x∈(F j).tc,∀p∈A,p.1≠x:=by
  intro x m p B C;rcases a with⟨_,h1⟩|h1
  ·simp_all
  ·simp only[ae1,alB]at h1;grind
 have n:=k t h (fun s E=>Ya (fun o=>a1 s o E)) (fun x m=>gR (d1 x m));have r:=g (gg t u.dst vi) (aZ h A) (fun s E=>(Ya (fun o=>a3 s o E)).symm) (fun x m=>(gR (d2 x m)).symm);refine⟨u,_,_,f,n,v,_,_,c,r,?_⟩;rw[aal (x:=u.dst) (y:=v.dst) (fun d o G=>a2 d G o),PS (l:=A) (l':=J) (fun p B q O C=>d1 p.1 (M p B) q O C.symm)];exact b
def front {F:Nat->nA} {i:Nat} {a:List Nat} : ∀ {pre:List Nat} {t c:Nat->D} {h h':Nat->Option Row},Uo T Γ N e ops F (pre++i::a) t h c h'->(∀j∈pre,Wj ops F j i)->Uo T Γ N e ops F (i::(pre++a)) t h c h'
 | [],_,_,_,_,hr,_=>hr
 | j::pre,t,c,h,h',hr,hi=>by
  obtain⟨g,t1,l,d,f,b⟩:=hr;have m:=front (pre:=pre) b (fun k n=>hi k (by simp[n]));exact swap ⟨g,t1,l,d,f,m⟩ (hi j (by simp))
def direct (o:Oper):List Nat:=(o.after.toList.filter (Region.binds .any)).map (·.on)
def Ac:List Oper->List (List Nat)->List (List Nat)
 | [],acc=>acc
 | o::l,acc=>Ac l (acc++[direct o++(direct o).flatMap fun k=>acc.getD k []])
def ahi (ops:Array Oper):List (List Nat):=Ac ops.toList []
def G9 (S:Nat->Prop):∀(l:List Oper) (acc:List (List Nat)) (k:Nat),k=acc.length->(∀i j,j∈acc.getD i []->i<k->(∀m o,ops[m]? = some o->S m->∀d∈direct o,S d)->(∀o,ops[i]? = some o->∀d∈direct o,S d)->S j) ->
  (∀j,l[j]? = ops[k+j]?)->∀i j,j∈(Ac l acc).getD i []->(∀m o,ops[m]? = some o->S m->∀d∈direct o,S d)->(∀o,ops[i]? = some o->∀d∈direct o,S d)->S j
 | [],acc,k,hk,a,e,i,j,b,g,h=>by
  simp only[Ac]at b;grind
 | o::l,acc,k,hk,a,e,i,j,b,g,h=>by
  simp only[Ac]at b;refine G9 S l _ (k+1) (by simp[hk]) ?_ (fun j=>by have:=e (j+1);grind) i j b g h;intro c s f n p q
  by_cases r:c<k
  ·grind
  ·obtain rfl:c=k:=by omega
   have:(acc++[direct o++(direct o).flatMap fun k=>acc.getD k []]).getD c []=direct o++(direct o).flatMap fun k=>acc.getD k []:=by
    simp_all
   rw[this]at f;have t:ops[c]? = some o:=by have:=e 0;simp_all
   grind
def aeY {S:Nat->Prop} {i j:Nat} (a:j∈(ahi ops).getD i []) (b:∀m o,ops[m]? = some o->S m->∀d∈direct o,S d) (c:∀o,ops[i]? = some o->∀d∈direct o,S d):S j :=
 G9 S ops.toList [] 0 rfl (fun i j a _ _ _=>by simp at a) (fun j=>by simp) i j a b c
def ab2 (acc:List Nat):List Nat->Nat
 | []=>0
 | k::l=>(2 ^ k ||| acc.getD k 0) ||| ab2 acc l
def Ha:List Oper->List Nat->List Nat
 | [],acc=>acc
 | o::l,acc=>Ha l (acc++[ab2 acc (direct o)])
def WW (ops:Array Oper):List Nat:=Ha ops.toList []
def WY {a:List Nat} {j:Nat} : ∀ {l:List Nat},(ab2 a l).testBit j=true->j∈l∨∃k∈l,(a.getD k 0).testBit j=true
 | [],h=>by simp[ab2]at h
 | k::l,h=>by
  simp only[ab2,Nat.testBit_or,Bool.or_eq_true,Nat.testBit_two_pow,decide_eq_true_eq]at h;rcases h with (rfl|h)|h
  ·simp_all
  ·simp_all
  ·rcases WY h with h|⟨b,c,d⟩
   ·simp_all
   grind
def E3:∀(l:List Oper) (a:List Nat) (c:List (List Nat)),a.length=c.length->(∀i j,(a.getD i 0).testBit j=true->j∈c.getD i [])->∀i j,((Ha l a).getD i 0).testBit j=true->j∈(Ac l c).getD i []
 | [],_,_,_,h,i,j,d=>h i j d
 | o::l,a,c,e,h,i,j,d=>by
  refine E3 l _ _ (by simp[e]) (fun f n b =>?_) i j d
  by_cases g:f<a.length
  ·rw[al2,amh g,<- al2]at b;grind
  ·by_cases m:f=a.length
   ·subst m;rw[al2,amj (alq _),amx]at b;simp only[List.getElem?_cons_zero,Option.getD_some]at b;rw[e,al2,amj (alq _),amx];simp only[List.getElem?_cons_zero,Option.getD_some,amG,amF];rcases WY b with b|⟨k,p,b⟩
    ·exact .inl b
    grind
   grind
def abP {i j:Nat} (h:((WW ops).getD i 0).testBit j=true):j∈(ahi ops).getD i [] :=
 E3 ops.toList [] [] rfl (fun i j h=>by simp at h) i j h
def Wr (ops:Array Oper) (F:Nat->nA):Prop:=∀j i,j<i->i<ops.size->j∈(ahi ops).getD i []∨Wj ops F j i
def aaU (hT:ke P T) (hΓ:bV P Γ) {F:Nat->nA} {Q:Exit->Act->World->Prop} {t':Nat->D} {h':Nat->Option Row} (hp:Wr ops F) (q:∀i o,ops[i]? = some o->∀d∈direct o,d<i)
  (ag:∀(i j:Nat) (oi oj:Oper) (d:Nat),ops[i]? = some oi->ops[j]? = some oj->oi.dst=some d->oj.dst=some d->i=j) (hQ:∀G H f done,w7 N M L w0 f e done t' h' G H->Q .normal G H) :
  ∀(n:Nat) (LL:List Nat) (listed:Array Bool) (t:Nat->D) (h:Nat->Option Row) (a:Act) (w:World) (blk:Nat->Option (Nat×Nat)) (done:List Nat),LL.length=n->(∀i,i∈LL↔listed.getD i true=false)->LL.Pairwise (· < ·)->(∀i∈LL,i<ops.size)->listed.size=ops.size ->
   (∀i o,ops[i]? = some o->listed.getD i false=true->∀d∈direct o,listed.getD d false=true)->(∀d∈done,∃i o,ops[i]? = some o∧o.dst=some d∧listed.getD i false=true) ->
   Uo T Γ N e ops F LL t h t' h'->w7 N M L w0 blk e done t h a w->wpAny P .any ops Q n listed a w:=by
 intro n
 induction n with
 | zero =>
  intro LL listed t h a w blk done U V W hlt x hdown g I X;have:LL=[]:=amA U;subst this;obtain⟨rfl,rfl⟩:=I;refine⟨?_,hQ a w blk done X⟩;refine List.eq_nil_iff_forall_not_mem.2 fun i Y =>?_;have:=(mem_ready.1 Y).1;grind
 | succ n ih =>
  intro LL listed t h a w blk done U V W hlt x hdown g I X;refine⟨fun J =>?_,fun i Y =>?_⟩
  ·cases LL with
   | nil=>simp at U
   | cons i LL =>
    obtain⟨o,t1,h1,y,_⟩:=I;have K:i∈Region.ready .any ops listed:=by
     refine mem_ready.2 ⟨(V i).1 (by simp),o,y,fun O z hb =>?_⟩;have b:O.on∈direct o:=alp.2 ⟨O,amO.2 ⟨by simpa using z,hb⟩,rfl⟩;have ai:=q i o y _ b
     by_cases hm:O.on∈i::LL
     ·rcases alx.1 hm with hm|hm
      ·omega
      ·have:=(amP.1 W).1 _ hm;omega
     grind
    grind
  ·obtain⟨Z,o,y,R⟩:=mem_ready.1 Y;have A:i∈LL:=(V i).2 Z;obtain⟨p,l,rfl⟩:=List.append_of_mem A;have B:i<listed.size:=by grind
   have C:∀d∈direct o,listed.getD d false=true:=by
    intro d b;obtain⟨O,z,rfl⟩:=alp.1 b;grind
   have E:∀j∈p,Wj ops F j i:=by
    intro j hj;have aa:j<i:=by
     grind
    rcases hp j i aa (hlt i A) with hc|hc
    ·have ak:listed.getD j false=true:=aeY (S:=fun m=>listed.getD m false=true) hc (fun m om hm ab d b=>hdown m om hm ab d b) (fun o' r d b=>by
      grind)
     grind
    ·exact hc
   obtain⟨o',t1,h1,r,s,u⟩:=front I E;rw[y]at r;cases r;unfold wpOp;simp only[y];refine Pe hT hΓ X s (fun d b al =>?_) (fun G H f ad =>?_)
   ·grind
   ·have aj:∀k,(listed.setIfInBounds i true).getD k false=true↔k=i∨listed.getD k false=true:=by
     intro k
     by_cases c:k=i
     ·subst c;simp[B]
     ·rw[getD_set_ne false (Ne.symm c)];simp[c]
    have v:∀k,(listed.setIfInBounds i true).getD k true=false↔k≠i∧listed.getD k true=false:=by
     intro k
     by_cases c:k=i
     ·grind
     ·rw[getD_set_ne true (Ne.symm c)];simp[c]
    have an:(p++i::l).Nodup:=W.imp (fun h=>Nat.ne_of_lt h);refine ih (p++l) (listed.setIfInBounds i true) t1 h1 G H f _ (by grind) (fun k =>?_) ?_ (fun k hk=>hlt k (by grind)) (by simpa using x) (fun k ok hk ae d b =>?_) (fun d b =>?_) u ad
    ·rw[v];constructor
     ·intro hk;have ao:k∈p++i::l:=by grind
      grind
     grind
    ·grind
    ·grind
    ·rcases amG.1 b with b|b
     ·grind
     ·obtain⟨k,ok,hk,aq,ae⟩:=g d b;grind
end
def Ew (T:Nat->Option Ty) (Γ:Env) (N e:Nat) (ops:Array Oper):List Oper->(Nat->D)->(Nat->Option Row)->Option ((Nat->D)×(Nat->Option Row)×List nA)
 | [],t,h=>some (t,h,[])
 | o::l,t,h =>
  match step1 T Γ N e ops o t h with
  | some (t1,a,f) =>
   match Ew T Γ N e ops l t1 a with
   | some (t2,h2,fs)=>some (t2,h2,f::fs)
   | none=>none
  | none=>none
def OJ:List Nat->Bool
 | []=>true
 | x::l => !l.contains x&&OJ l
def ack (ops:Array Oper):Bool:=OJ (ops.toList.filterMap (·.dst))
def WC (ops:Array Oper) (j i:Nat):Bool :=
 match ops[j]?,ops[i]? with
 | some oj,some oi=>oj.apart ops oi
 | _,_=>true
def UK (ops:Array Oper):Bool :=
 (ops.toList.zipIdx.all fun p=>(direct p.1).all fun d=>decide (d<p.2)) &&
 ((List.range ops.size).all fun i=>(List.range i).all fun j=>((WW ops).getD i 0).testBit j||WC ops j i)
def MM (ops:Array Oper):List (Nat×Nat):=(List.range ops.size).flatMap fun i=>((List.range i).filter fun j => !((WW ops).getD i 0).testBit j).map fun j=>(j,i)
def adz (fs:List nA) (p:Nat×Nat):Bool :=
 match fs[p.1]?,fs[p.2]? with
 | some f,some g=>f.q&&g.q||ae1 f.tc g.tc
 | _,_=>false
def Hp (ops:Array Oper) (fs:List nA):Bool:=(MM ops).all (adz fs)
inductive Ex where
 | normal
 | exit (n:Nat)
 | ret
structure St where
 t:Nat->D
 h:Nat->Option Row
 e:Nat
def iter (f:St->Option (Ex×St)):Nat->St->Option (Ex×St)
 | 0,_=>none
 | n+1,s =>
  match f s with
  | some (.normal,s1)=>iter f n s1
  | r=>r
def Aw (T:Nat->Option Ty) (Γ:Env) (N:Nat) (ops:Array Oper) (a:Bool) (s:St):Option (Ex×St) :=
 match Ew T Γ N s.e ops ops.toList s.t s.h with
 | some (t,h,fs)=>if !a||Hp ops fs then some (.normal,⟨t,h,s.e+1⟩) else none
 | none=>none
def T7 (d:D) (x y:Option (Ex×St)):Option (Ex×St) :=
 match d with
 | .bool b=>if b then x else y
 | _=>none
def ain (r:Option (Ex×St)) (k:St->Option (Ex×St)):Option (Ex×St) :=
 match r with
 | some (.normal,s)=>k s
 | r=>r
def Wa (id:Nat) (r:Option (Ex×St)):Option (Ex×St) :=
 match r with
 | some (.exit n,s)=>if n=id then some (.normal,s) else some (.exit n,s)
 | r=>r
def iF (T:Nat->Option Ty) (Γ:Env) (N F:Nat):Code->St->Option (Ex×St)
 | .skip,s=>some (.normal,s)
 | .region _ ops draw,s=>Aw T Γ N ops draw s
 | .seq a b,s=>ain (iF T Γ N F a s) (iF T Γ N F b)
 | .cond c x y,s=>T7 (ev s.t c) (iF T Γ N F x s) (iF T Γ N F y s)
 | .block id b,s=>Wa id (iF T Γ N F b s)
 | .loop b,s=>iter (iF T Γ N F b) F s
 | .exit id,s=>some (.exit id,s)
 | .ret,s=>some (.ret,s)
 | _,_=>none
def codeOk:Code->Bool
 | .region _ ops draw=>ack ops&&(!draw||UK ops)
 | .seq a b=>codeOk a&&codeOk b
 | .cond _ x y=>codeOk x&&codeOk y
 | .block _ b=>codeOk b
 | .loop b=>codeOk b
 | _=>true
section
variable {P:Program} {T:Nat->Option Ty} {N:Nat} {M:Nat->Prop} {L:lG} {w0:World} {blk:Nat->Option (Nat×Nat)} {t:Nat->D} {h:Nat->Option Row} {a:Act} {w:World} {e:Nat} {o:Oper} {Γ:Env} {ops:Array Oper}
def MG:∀ {l:List Nat},OJ l=true->l.Nodup
 | [],_=>List.nodup_nil
 | x::l,h=>by
  simp only[OJ,al0,al1,List.contains_eq_mem,decide_eq_false_iff_not]at h;exact List.nodup_cons.2 ⟨h.1,MG h.2⟩
def J4:∀ {l:List Oper} {done:List Nat},(l.filterMap (·.dst)).Nodup->(∀o∈l,∀d,o.dst=some d->d∉done)->∀o a,l=o::a->(a.filterMap (·.dst)).Nodup∧∀b∈a,∀d,b.dst=some d->d∉o.dst.toList++done:=by
 grind
def B6 (s:ke P T) (u:bV P Γ) {Q:Exit->Act->World->Prop} : ∀ {l:List Oper} {t g:Nat->D} {h h':Nat->Option Row} {fs:List nA} {a:Act} {w:World} {blk:Nat->Option (Nat×Nat)} {done:List Nat},
  Ew T Γ N e ops l t h=some (g,h',fs)->(l.filterMap (·.dst)).Nodup->(∀o∈l,∀d,o.dst=some d->d∉done)->w7 N M L w0 blk e done t h a w ->
  (∀i j c done,w7 N M L w0 c e done g h' i j->Q .normal i j)->wpList P ops Q l a w
 | [],t,g,h,h',fs,a,w,blk,done,b,_,_,k,m=>by
  simp only[Ew,alz,Prod.mk.injEq]at b;obtain⟨rfl,rfl,_⟩:=b;exact m a w blk done k
 | o::l,t,g,h,h',fs,a,w,blk,done,b,x,v,k,m=>by
  simp only[Ew]at b;split at b
  ·rename_i t1 A f y;split at b
   ·rename_i t2 B z n;simp only[alz,Prod.mk.injEq]at b;obtain⟨rfl,rfl,_⟩:=b;obtain⟨p,q⟩:=J4 x v o l rfl;have:=Pe (K:=wpList P ops Q l) (Q:=Q) s u k y (v o (by simp)) (fun i j c r=>B6 s u n p q r m);unfold wpList;exact this
   ·cases b
  ·cases b
def De {F:Nat->nA} : ∀ {l:List Oper} {k:Nat} {t b:Nat->D} {h h':Nat->Option Row} {fs:List nA},Ew T Γ N e ops l t h=some (b,h',fs)->(∀j,l[j]? = ops[k+j]?)->(∀j f,fs[j]? = some f->F (k+j)=f) ->
  fs.length=l.length∧Uo T Γ N e ops F (List.range' k l.length) t h b h'
 | [],k,t,b,h,h',fs,a,_,_=>by
  simp only[Ew,alz,Prod.mk.injEq]at a;obtain⟨rfl,rfl,rfl⟩:=a;exact⟨rfl,rfl,rfl⟩
 | o::l,k,t,b,h,h',fs,a,d,g=>by
  simp only[Ew]at a;split at a
  ·rename_i t1 i f s;split at a
   ·rename_i t2 u m c;simp only[alz,Prod.mk.injEq]at a;obtain⟨rfl,rfl,rfl⟩:=a;obtain⟨n,p⟩:=De (k:=k+1) c (fun j=>by have:=d (j+1);grind) (fun j q r=>by have:=g (j+1) q (by simpa using r);rwa [show k+(j+1)=k+1+j by omega]at this);refine⟨by simp[n],o,t1,i,by have:=d 0;simp_all,?_,p⟩;have:=g 0 f rfl;simp_all
   ·cases a
  ·cases a
def Holds (N:Nat) (M:Nat->Prop) (L:lG) (w0:World) (s:St) (a:Act) (w:World):Prop:=∃blk,w7 N M L w0 blk s.e [] s.t s.h a w
def KF (Z:ke P T) (hΓ:bV P Γ) (hm:P.follows .mixedOrders=true) {id:Nat} {b:Bool} {s:St} {x:Ex} {s':St} {Q:Exit->Act->World->Prop} (z:Aw T Γ N ops b s=some (x,s')) (g:(ack ops&&(!b||UK ops))=true)
  (hH:Holds N M L w0 s a w) (hQ:∀A B,Holds N M L w0 s' A B->Q .normal A B):x=.normal∧(Code.region id ops b).wp P Q a w:=by
 unfold Aw at z;split at z
 ·rename_i t h fs n;split at z
  ·rename_i c;simp only[alz,Prod.mk.injEq]at z;obtain⟨rfl,rfl⟩:=z;refine⟨rfl,?_⟩;simp only[al0]at g;have E:(ops.toList.filterMap (·.dst)).Nodup:=MG g.1;obtain⟨blk,K⟩:=hH;have p:∀A B e done,w7 N M L w0 e s.e done t h A B->Q .normal A B:=by
    intro A B e done G;refine hQ A B ⟨e,G.inv.weaken fun x v O =>?_,fun x r ty s nv cs k1 k2 k3 k4 =>?_⟩
    ·rcases O with⟨J,O|⟨O,_⟩⟩|⟨J,R,h3,h4⟩
     ·exact .inl ⟨J,.inl (by simp only;omega)⟩
     ·exact .inl ⟨J,.inl (by simp only;omega)⟩
     ·exact .inr ⟨J,by simp only;omega,fun _=>by simp only;omega,h4⟩
    ·have:=G.nv x r ty s nv cs k1 k2 k3 k4;grind
   cases b with
   | false =>
    apply wp_region_list;exact B6 Z hΓ n E (done:=[]) (fun o _ d _=>by simp) K p
   | true =>
    simp only[amC,amn]at c g;apply wp_region_any hm;have C:=g.2;simp only[UK,al0]at C
    let F:Nat->nA:=fun i=>fs.getD i ⟨[],true⟩
    obtain⟨aa,q⟩:=De (F:=F) (k:=0) n (fun j=>by simp) (fun j f hj=>by grind);have D:∀i o,ops[i]? = some o->∀d∈direct o,d<i:=by
     intro i o ho d hd;have h1:=C.1;rw[alB]at h1;have u:(o,i)∈ops.toList.zipIdx:=by
      grind
     grind
    have H:∀(i j:Nat) (oi oj:Oper) (d:Nat),ops[i]? = some oi->ops[j]? = some oj->oi.dst=some d->oj.dst=some d->i=j:=by
     have key:∀(l:List Oper),(l.filterMap (·.dst)).Nodup->∀(i j:Nat) (oi oj:Oper) (d:Nat),l[i]? = some oi->l[j]? = some oj->oi.dst=some d->oj.dst=some d->i=j:=by
      intro l
      induction l with
      | nil=>simp_all
      | cons o l ih =>
       grind
     intro i j oi oj d y hj;exact key ops.toList E i j oi oj d (by simpa using y) (by simpa using hj)
    have m:Wr ops F:=by
     intro j i I y
     by_cases S:((WW ops).getD i 0).testBit j=true
     ·exact .inl (abP S)
     ·refine .inr ⟨fun oj oi U V =>?_,?_⟩
      ·have R:=C.2;rw[alB]at R;have:=R i (amQ.2 y);rw[alB]at this;have:=this j (amQ.2 I);simp only[Bool.or_eq_true]at this;rcases this with h'|h'
       ·exact absurd h' S
       ·simpa [WC,U,V] using h'
      ·rw[Hp,alB]at c;have u:(j,i)∈MM ops:=by
        refine amF.2 ⟨i,amQ.2 y,alp.2 ⟨j,amO.2 ⟨amQ.2 I,?_⟩,rfl⟩⟩;simpa using S
       have:=c _ u;have W:i<fs.length:=by grind
       have X:j<fs.length:=by omega
       simp only[adz,alE X,alE W]at this;grind
    rw[al3,<- List.range_eq_range']at q;have ab:∀i,(Array.replicate ops.size false).getD i false=false:=by
     intro i
     by_cases y:i<ops.size
     ·simp[Array.getD,y]
     grind
    have Y:∀i,(Array.replicate ops.size false).getD i true=false↔i<ops.size:=by
     grind
    exact aaU Z hΓ m D H p ops.size (List.range ops.size) (Array.replicate ops.size false) s.t s.h a _ blk [] (by simp) (fun i=>by grind) amR (fun i y=>amQ.1 y) (by simp)
     (fun i o _ hl=>by grind) (fun d hd=>by simp at hd) q ⟨K.inv.drew,K.nv⟩
  ·cases z
 ·cases z
def HJ:Ex->Exit
 | .normal =>.normal
 | .exit n =>.exit n
 | .ret =>.ret
def kL (E:ke P T) (G:bV P Γ) (H:P.follows .mixedOrders=true) {F:Nat} : ∀(c:Code) (s:St) (x:Ex) (i:St) (Q:Exit->Act->World->Prop) (a:Act) (w:World),iF T Γ N F c s=some (x,i)->codeOk c=true->Holds N M L w0 s a w ->
  (∀j k,Holds N M L w0 i j k->Q (HJ x) j k)->c.wp P Q a w:=by
 intro c
 induction c with
 | skip =>
  intro s x i Q a w e _ l h;simp only[iF,alz,Prod.mk.injEq]at e;obtain⟨rfl,rfl⟩:=e;exact wp_skip (h a w l)
 | region id ops draw =>
  intro s x i Q a w e f l h;simp only[iF]at e;have I:x=.normal:=by
   unfold Aw at e;grind
  subst I;exact (KF E G H e f l h).2
 | seq b c m ihc =>
  intro s x i Q a w e f l h;simp only[codeOk,al0]at f;simp only[iF,ain]at e;apply wp_seq;split at e
  ·rename_i p o;exact m s .normal p _ a w o f.1 l (fun j k g=>ihc p x i Q j k e f.2 g h)
  ·rename_i r q;refine m s x i _ a w e f.1 l (fun j k g =>?_);cases x with
   | normal=>simp_all
   | exit n=>exact h j k g
   | ret=>exact h j k g
 | cond c b d m y =>
  intro s x i Q a w e f l h;simp only[codeOk,al0]at f;simp only[iF]at e;unfold T7 at e;split at e
  ·rename_i B J;obtain⟨blk,z⟩:=l;have C:=z.inv.ev c;rw[J]at C;refine wp_cond (t:=B) (zY C) ?_;cases B with
   | true=>exact m s x i Q a w e f.1 ⟨blk,z⟩ h
   | false=>exact y s x i Q a w e f.2 ⟨blk,z⟩ h
  ·cases e
 | block id b u =>
  intro s x i Q a w e f l h;simp only[iF]at e;apply wp_block;unfold Wa at e;split at e
  ·rename_i n p o;refine u s (.exit n) p _ a w o f l (fun j k g =>?_);split at e
   ·rename_i A;simp only[alz,Prod.mk.injEq]at e;obtain⟨rfl,rfl⟩:=e;simp only[HJ,Exit.inBlock,A,if_true];exact h j k g
   ·rename_i A;simp only[alz,Prod.mk.injEq]at e;obtain⟨rfl,rfl⟩:=e;simp only[HJ,Exit.inBlock,A,if_false];exact h j k g
  ·rename_i r q;refine u s x i _ a w e f l (fun j k g =>?_);cases x with
   | normal=>exact h j k g
   | exit n=>simp_all
   | ret=>exact h j k g
 | loop b u =>
  intro s x i Q a w e f l h;simp only[iF]at e;refine wp_loop_ghost (fun n a w=>∃s,Holds N M L w0 s a w∧iter (iF T Γ N F b) n s=some (x,i)) F ⟨s,l,e⟩ ?_;intro n a w ⟨p,v,o⟩;cases n with
  | zero=>simp[iter]at o
  | succ n =>
   simp only[iter]at o;split at o
   ·rename_i D K;exact u p .normal D _ a w K f v (fun j k g=>⟨n,by omega,D,g,o⟩)
   ·rename_i r q;refine u p x i _ a w o f v (fun j k g =>?_);cases x with
    | normal=>simp_all
    | exit n=>exact h j k g
    | ret=>exact h j k g
 | exit id =>
  intro s x i Q a w e _ l h;simp only[iF,alz,Prod.mk.injEq]at e;obtain⟨rfl,rfl⟩:=e;exact wp_exit (h a w l)
 | ret =>
  intro s x i Q a w e _ l h;simp only[iF,alz,Prod.mk.injEq]at e;obtain⟨rfl,rfl⟩:=e;exact wp_ret (h a w l)
 | _=>intro s x i Q a w e;simp[iF]at e
end
def Td (T:Nat->Option Ty) (s:St):ResultVar->Option (D×List Nat)
 | .tmp i=>cZ s.h (s.t i)
 | .cell i ty =>
  match T ty,s.t i with
  | some τ,.ptr x v o=>match fW τ s.h (.ptr x v o) with|some E=>some (kp E.val,[])|none=>none
  | _,_=>none
def yy (T:Nat->Option Ty) (s:St):List ResultVar->Option (List D×List Nat)
 | []=>some ([],[])
 | r::rs =>
  match Td T s r with
  | some (d,fr)=>match yy T s rs with
   | some (ds,a)=>some (d::ds,fr++a)
   | none=>none
  | none=>none
def oQ:List D->D
 | [d]=>d
 | ds =>.tup ds
inductive Mode where
 | clean|same|tight
 | fresh (ty s:Nat)
def cP:Option (D×Row)->List D->St
 | none,args=>⟨fun i=>args.getD i .und,fun _=>none,0⟩
 | some (d0,r),args=>⟨fun i=>(d0::args).getD i .und,fun x=>if x=0 then some { r with v:=0 } else none,1⟩
def ov:Option (D×Row)->St->Option (Option Row)
 | none,_=>some none
 | some (_,r),s =>
  match s.h 0 with
  | some a=>if a.v=0∧a.fz=false∧a.ty=r.ty∧(a.mp=r.mp∧yt a=true) then some (some a) else none
  | none=>none
def adu:Option (D×Row)->List Nat->Bool
 | none,_=>true
 | some _,fr => !fr.contains 0
def ue (T:Nat->Option Ty) (cc:Option (D×Row)) (rs:List ResultVar) (s:St):Option (RK×Option Row) :=
 match yy T s rs,ov cc s with
 | some (a,fr),some o=>if adu cc fr then some (.clean (oQ a),o) else none
 | _,_=>none
def Oc (cc:Option (D×Row)) (rs:List ResultVar) (s:St):Option (RK×Option Row) :=
 match rs with
 | [.tmp i] =>
  match s.t i,ov cc s with
  | .buf 0 0 sz o n,some (some r)=>some (.same sz o n,some r)
  | _,_=>none
 | _=>none
def LV:D->Option (RK×Option Row)
 | .sl nl a n xs=>some (.clean (.sl nl a n xs),none)
 | _=>none
def HH (cc:Option (D×Row)) (rs:List ResultVar) (s:St):Option (RK×Option Row) :=
 match cc,rs with
 | none,[.tmp i]=>LV (s.t i)
 | _,_=>none
def Ag (ty s o n:Nat):Option Row->Option (RK×Option Row)
 | some r=>if r.fz=false∧r.ty=ty∧o+n*s<=r.cells.length then some (.fresh ty s n ((r.cells.drop o).take (n*s)),none) else none
 | none=>none
def tF (ty s:Nat) (h:Nat->Option Row):D->Option (RK×Option Row)
 | .buf x v a o n=>if a=s then Ag ty s o n (live h x v) else none
 | .sl _ b 0 _=>if b=true then some (.fresh ty s 0 [],none) else none
 | _=>none
def wy (ty s:Nat) (rs:List ResultVar) (a:St):Option (RK×Option Row) :=
 match rs with
 | [.tmp i]=>tF ty s a.h (a.t i)
 | _=>none
def gG (a:Mode) (T:Nat->Option Ty) (cc:Option (D×Row)) (rs:List ResultVar) (s:St):Option (RK×Option Row) :=
 match a with
 | .clean=>ue T cc rs s
 | .same=>Oc cc rs s
 | .tight=>HH cc rs s
 | .fresh ty sz=>wy ty sz rs s
def jx (a:Mode) (T:Nat->Option Ty) (Γ:Env) (F:Nat) (d:Func) (cc:Option (D×Row)) (b:List D):Option (RK×Option Row) :=
 match d.body with
 | some c =>
  if d.ntmps<=PK then
   match iF T Γ d.ntmps F c (cP cc b) with
   | some (.exit _,_)=>none
   | some (_,s)=>gG a T cc d.results.toList ⟨s.t,EH s.h,s.e⟩
   | none=>none
  else none
 | none=>none
def IM:Option (D×Row)->Bool
 | none=>true
 | some (.buf 0 0 _ _ _,_)=>true
 | some (.ptr 0 0 _,_)=>true
 | some (.mp 0 0,_)=>true
 | _=>false
def IA:Option (D×Row)->List D->Nat
 | none,alj=>alj.length
 | some _,alj=>alj.length+1
section
variable {P:Program} {T:Nat->Option Ty} {N:Nat} {M:Nat->Prop} {L:lG} {w0:World} {blk:Nat->Option (Nat×Nat)} {a:Act} {w:World} {Γ:Env}
def Inv.agO {V:Nat->Nat->Prop} {t:Nat->D} {h:Nat->Option Row} (d:Inv N M L w0 blk V t h a w) (fr:List Nat):s6 M h blk fr M where
 le b c := .inl c
 no x i r g e f c:=d.notM e f c
def Eu (a:Array Value):ResultVar->Sem Value
 | .tmp t=>pure (a.getD t undef)
 | .cell b t=>do loadVar t (<- asAddr (a.getD b undef))
def Ji (a:Func) (b:Array Value):results a b=(do
  let vs <- a.results.mapM (Eu b)
  pure (if h:vs.size=1 then vs[0] else .tuple vs)):=by
 unfold results;congr 1
def aap (l:ke P T) {f:Nat->Prop} {ty:Nat} {τ:Ty} {g c:Nat} {xs:List D} {d:D} (m:T ty=some τ) (b:At w f g c xs) (n:xs.length=τ.size) (e:mf τ xs=some d) :
  ∃u,(loadVar ty ⟨g,c,none⟩).run P w=.ok u w∧RP w f d u:=by
 obtain⟨h,i,o,p,q⟩:=b.EJ;have j:τ.ds.we=false->xs.length=1∧xs=[d]:=by
  intro k;simp only[mf,k,alY,if_false]at e;grind
 have a:=nd (l ty τ m) w g c h (by rw[i,n]) o (fun k=>by simp_all);refine⟨_,a,?_⟩;cases r:τ.ds.we with
 | true =>
  simp only[mf,r,if_true,alz]at e;subst e;exact .agg xs h i p q
 | false =>
  grind
def adJ (y:ke P T) {q:Nat->Prop} {V:Nat->Nat->Prop} {s:St} (j:Inv N M L w0 blk V s.t s.h a w) {r:ResultVar} {d:D} {fr:List Nat} (c:Td T s r=some (d,fr)) (hl:s6 M s.h blk fr q):∃u,(Eu a.tmps r).run P w=.ok u w∧RP w q d u:=by
 cases r with
 | tmp i =>
  simp only[Td]at c;exact⟨a.tmps.getD i undef,rfl,j.cZ c hl (j.slots i)⟩
 | cell i ty =>
  simp only[Td]at c;split at c
  ·rename_i τ x v o z A;split at c
   ·rename_i E e;simp only[alz,Prod.mk.injEq]at c;obtain⟨rfl,_⟩:=c;have f:=j.slots i;rw[A]at f;simp only[fW]at e;split at e
    ·rename_i B h;obtain⟨t,C⟩:=cX h;split at e
     ·rename_i F;split at e
      ·rename_i I k;simp only[alz]at e;subst e;obtain⟨g,G,l⟩:=f.2 B t C;have m:=((j.rowAt t G (jR h)).drop o).take τ.size;obtain⟨u,n,p⟩:=aap y z m (by simp;omega) k;refine⟨u,?_,(p.less fun b H=>hl.le b H).kp⟩;simp only[Eu,l,asAddr,alW,Sem.run_pure,Result.andThen_ok,n]
      ·cases e
     ·cases e
    ·cases e
   ·cases c
  ·cases c
def Tu (g:ke P T) {i:Nat->Prop} {V:Nat->Nat->Prop} {s:St} (k:Inv N M L w0 blk V s.t s.h a w):∀(rs:List ResultVar) (b:List D) (fr:List Nat),yy T s rs=some (b,fr)->s6 M s.h blk fr i ->
  ∃c:List Value,(rs.mapM (Eu a.tmps)).run P w=.ok c w∧c.length=b.length∧∀j d,b[j]? = some d->RP w i d (c.getD j undef)
 | [],b,fr,h,_=>by
  simp only[yy,alz,Prod.mk.injEq]at h;simp_all
 | r::rs,b,fr,h,l=>by
  simp only[yy]at h;split at h
  ·rename_i d m n;split at h
   ·rename_i e f o;simp only[alz,Prod.mk.injEq]at h;obtain⟨rfl,rfl⟩:=h;obtain⟨c,v,p,x⟩:=Tu g k rs e f o l.right;obtain⟨u,q,t⟩:=adJ (P:=P) g k n l.left;refine⟨u::c,?_,by simp[p],fun j d y =>?_⟩
    ·simp_all
    grind
   ·cases h
  ·cases h
def vw (k:ke P T) {i:Nat->Prop} {V:Nat->Nat->Prop} {s:St} (l:Inv N M L w0 blk V s.t s.h a w) {f:Func} {b:List D} {fr:List Nat} (h:yy T s f.results.toList=some (b,fr)) (m:s6 M s.h blk fr i) :
  ∃v,(results f a.tmps).run P w=.ok v w∧RP w i (oQ b) v:=by
 obtain⟨e,n,g,c⟩:=Tu (P:=P) k l _ b fr h m;have o:(f.results.mapM (Eu a.tmps)).run P w=.ok e.toArray w:=by
  rw[amd,Sem.run_map,n];rfl
 rw[Ji];simp only[alW,o,Result.andThen_ok,Sem.run_pure];refine⟨_,rfl,?_⟩
 match e,b,g,c with
 | [u],[d],_,c=>simpa [oQ] using c 0 d rfl
 | [],[],_,_=>exact .tup [] [] rfl (fun j x p=>by simp at p)
 | q::r::e,d1::d2::b,g,c =>
  have:¬(q::r::e).toArray.size=1:=by simp
  rw[dif_neg this];exact .tup _ _ (by simpa using g) c
def si {a:Func} {b:Array Value} {i:Nat} (h:a.results.toList=[.tmp i]):(results a b).run P w=.ok (b.getD i undef) w:=by
 have c:a.results = #[.tmp i]:=by rw[<- h]
 rw[Ji,c];simp[Eu]
def Inv.wy {V:Nat->Nat->Prop} {s:St} {q Q:Nat} (t:Inv N M L w0 blk V s.t s.h a w) {G:Func} {y:RK} {out:Option Row} (e:Am.wy q Q G.results.toList s=some (y,out)) :
  out=none∧∃v ty p n cells,y=.fresh ty p n cells∧(results G a.tmps).run P w=.ok v w∧yC w0 w M (LB L) v y:=by
 unfold Am.wy at e;split at e
 ·rename_i i k;have f:=t.slots i;unfold tF at e;split at e
  ·rename_i x v p o n z;rw[z]at f;split at e
   ·rename_i B;subst B;unfold Ag at e;split at e
    ·rename_i r l;split at e
     ·rename_i h;obtain⟨R,S,T⟩:=h;simp only[alz,Prod.mk.injEq]at e;obtain⟨rfl,rfl⟩:=e;refine⟨rfl,a.tmps.getD i undef,_,_,_,_,rfl,si k,?_⟩;obtain⟨H,hv⟩:=cX l;have U:((r.cells.drop o).take (n*p)).length=n*p:=by simp;omega
      rcases t.Ck l f with⟨g,o',c,cs,C,I,J,D,g4,W,g7,K⟩|⟨C,rfl,J,A,D⟩
      ·by_cases X:0<c∨o=0
       ·obtain⟨Y,Z⟩:=W X;subst Y;refine .inl ⟨(g.1,g.2+o),c,cs,I,(show w0.heap.size<=g.1∨LB L g.1 from t.base H C),by simp_all,J,D,Z,by omega,fun j d m =>?_⟩;rw[kQ]at m;split at m
        ·rw[alK];refine⟨(K _ _ m).1,(K _ _ m).2.less fun b E =>?_⟩;rcases E with E|rfl
         ·exact .inl E
         ·exact .inr ⟨x,r,g,H,R,C,rfl⟩
        ·cases m
       ·have hn:n=0:=by omega
        have F:c=0:=by omega
        subst hn F;exact .inr ⟨rfl,by simp,_,I⟩
      ·exact .inr ⟨rfl,by simp,A,D⟩
     ·cases e
    ·cases e
   ·cases e
  ·rename_i O tg xs z;rw[z]at f;split at e
   ·rename_i aa;simp only[alz,Prod.mk.injEq]at e;obtain⟨rfl,rfl⟩:=e;refine⟨rfl,a.tmps.getD i undef,_,_,_,_,rfl,si k,.inr ⟨rfl,rfl,?_⟩⟩;have hr:RP w (Own M s.h blk) (.sl O tg 0 xs) (a.tmps.getD i undef):=f;generalize a.tmps.getD i undef=u at *;cases hr with
    | sl A c O tight n xs us h1 h2 h3 h4 h5 h6 h7 h8 =>
     simp_all
   ·cases e
  ·cases e
 ·cases e
def zJ {args:List D} {vs:Array Value} {n i:Nat} (a:vs.size=args.length):(vs++Array.replicate (n-vs.size) undef).getD i undef=vs.getD i undef∨args.getD i .und=.und:=by
 by_cases b:i<args.length
 ·left;have:i<vs.size:=by omega
  simp[alv,Array.getElem?_append_left this]
 simp_all
def YU {h:Nat->Option Row} (d:∀k r,h k=some r->k<2*PK∧yt r=true):EH h=h:=by
 funext k
 by_cases e:k<2*PK
 ·rw[wh e];cases a:h k with
  | none=>rfl
  | some r =>
   simp only[Option.map_some,Gs];split
   ·rename_i c;obtain⟨f,vs,b⟩:=C0 (d k r a).2 c;cases r;simp only at b;subst b;rfl
   ·rfl
 ·have g:h k=none:=by
   cases a:h k with
   | none=>rfl
   | some r=>simp_all
  rw[g];unfold EH;rw[if_neg e];cases a:h (k % PK) with
  | none=>rfl
  | some r =>
   simp only[Option.bind_some,vk];split
   ·rename_i c;obtain⟨f,vs,b⟩:=C0 (d _ r a).2 c;rw[b];rfl
   ·rfl
def GA {h:Nat->Option Row} (b:∀k r,h k=some r->k<2*PK∧r.mp=false):EH h=h:=by
 funext k
 by_cases c:k<2*PK
 ·rw[wh c];cases a:h k with
  | none=>rfl
  | some r =>
   simp only[Option.map_some,Gs,(b k r a).2];rfl
 ·have d:h k=none:=by
   cases a:h k with
   | none=>rfl
   | some r=>simp_all
  rw[d];unfold EH;rw[if_neg c];cases a:h (k % PK) with
  | none=>rfl
  | some r =>
   simp only[Option.bind_some,vk,(b _ r a).2];rfl
def mw (hT:ke P T) (hΓ:bV P Γ) (hm:P.follows .mixedOrders=true) {K:Mode} {f:FuncId} {A:Func} {F:Nat} {cc:Option (D×Row)} {a:List D} {rk:RK} {ad:Option Row} (hf:P.funcs[f]? = some A)
  (V:(match A.body with|some c=>codeOk c|none=>true)=true) (hn:IA cc a<=A.ntmps) (W:IM cc=true)
  (d:jx K T Γ F A cc a=some (rk,ad)):vB P f cc a rk ad:=by
 unfold jx at d;split at d<;>try (cases d;done)
 rename_i c hc;rw[hc]at V;simp only at V;split at d<;>try (cases d;done)
 rename_i aa;split at d<;>try (cases d;done)
 rename_i x s az hv;cases cc with
 | none =>
  intro w M vs hM h;have hI:Inv A.ntmps M none w (fun _=>none) (fun x v=>x<A.ntmps∧v<0) (cP none a).t (cP none a).h { tmps:=vs++Array.replicate (A.ntmps-vs.size) undef,defers:=[] } w:={
   tab:=fun b e=>(h.tab b e).less fun b e=>by
    rcases e with e|⟨x,r,g,l,_⟩
    ·exact e
    ·cases l
   below:=eV.refl _ _
   mlt:=hM
   cc:=fun b e=>absurd e uY
   pin:=fun B I=>by cases I
   defers:=rfl
   tsz:=by have:=h.1;simp only[IA]at hn;simp;omega
   slots:=fun i=>by
    simp only[cP];rcases zJ (n:=A.ntmps) (i:=i) h.1 with he|he
    ·rw[he]
     by_cases hi:i<a.length
     ·have C:=h.2 i _ (alE hi);have L:a.getD i .und=a[i]:=by simp_all
      rw[L];exact ca (C.less fun b e=>by
       rcases e with e|⟨x,r,g,l,_⟩
       ·exact e
       ·cases l)
     ·have L:a.getD i .und=.und:=by simp_all
      rw[L];trivial
    ·rw[he];trivial
   rows:=fun x r l=>by cases l
   inj:=fun x y r s g g' l=>by cases l
   big:=aa
   pha:=fun y r g J=>by cases J
   ali:=fun y r g J=>by cases J }
  apply calls_of_wp hf hc;refine kL hT hΓ hm c (cP none a) x s _ _ _ hv V ⟨_,⟨(by rw[GA (fun k r X=>by cases X)];exact hI.weaken fun x v l=>absurd l.2 (Nat.not_lt_zero _)),fun x r ty s nv cs l=>by cases l⟩⟩ (fun U w' hH =>?_);obtain⟨q,ae⟩:=hH;obtain⟨sE,N⟩:∃sE:St,sE=⟨s.t,EH s.h,s.e⟩:=⟨_,rfl⟩;have hI':Inv A.ntmps M none w q (VE A.ntmps s.e [] s.h) sE.t sE.h U w':=by rw[N];exact ae.inv
  rw[<- N]at d;have t:Below w.heap.size w w':=hI'.below.below (fun b e=>absurd e uY);have u:U.defers=[]∧∃v,(results A U.tmps).run P w'=.ok v w'∧(∃v',Ending.returned v=.returned v'∧Below w.heap.size w w'∧yC w w' M (fun _=>False) v' rk):=by
   refine⟨hI'.defers,?_⟩;cases K with
   | clean =>
    simp only[gG,ue,ov]at d;split at d<;>try (cases d;done)
    rename_i ds fr o O ho;split at d<;>try (cases d;done)
    simp only[alz,Prod.mk.injEq]at d;obtain⟨rfl,_⟩:=d;obtain⟨v,E,z⟩:=vw (P:=P) hT hI' O (hI'.agO fr);exact⟨v,E,v,rfl,t,z⟩
   | same =>
    simp only[gG,Oc,ov]at d;grind
   | tight =>
    simp only[gG,HH]at d;split at d<;>try (cases d;done)
    rename_i i _ ag;have Y:=hI'.slots i;generalize sE.t i=dd at *;unfold LV at d;split at d<;>try (cases d;done)
    rename_i nl tg n xs;simp only[alz,Prod.mk.injEq]at d;obtain⟨rfl,_⟩:=d;have ao:RP w' (Own M sE.h q) (.sl nl tg n xs) (U.tmps.getD i undef):=Y;exact⟨U.tmps.getD i undef,si ag,_,rfl,t,ao.less fun b e =>.inl e⟩
   | fresh au s0 =>
    obtain⟨rfl,v,ty,sz,n,cells,rfl,E,z⟩:=hI'.wy (P:=P) d;refine⟨v,E,v,rfl,t,?_⟩;rcases z with⟨g,k1,cs,k2,k3,k4⟩|z
    ·exact .inl ⟨g,k1,cs,k2,k3.imp id (fun e=>absurd e uY),k4⟩
    ·exact .inr z
  cases x with
  | normal=>exact u
  | ret=>exact u
  | exit n=>simp_all
 | some p =>
  obtain⟨d0,r⟩:=p;intro w M B u0 vs hM hgoM hz ai ab aj h;have Q:∀b,Own M (cP (some (d0,r)) a).h (fun x=>if x=0 then B else none) b↔(M b∨xW B b):=by
   intro b;constructor
   ·rintro (e|⟨x,R,g,l,_,I,he⟩)
    ·exact .inl e
    ·simp only[cP]at l;split at l
     ·rename_i h0;subst h0;simp only[if_true]at I;exact .inr ⟨g,I,he.symm⟩
     ·cases l
   ·rintro (e|⟨g,I,he⟩)
    ·exact .inl e
    ·exact .inr ⟨0,{ r with v:=0 },g,rfl,hz,by simpa using I,he.symm⟩
  have hI:Inv A.ntmps M (OD B) w (fun x=>if x=0 then B else none) (fun x v=>x<A.ntmps∧v<1) (cP (some (d0,r)) a).t (cP (some (d0,r)) a).h { tmps:=(#[u0]++vs)++Array.replicate (A.ntmps-(#[u0]++vs).size) undef,defers:=[] } w:={
   tab:=fun b e=>(h.tab b e).less fun b e=>(Q b).1 e
   below:=eV.refl _ _
   mlt:=hM
   cc:=fun b e=>hgoM b (NJ.1 e)
   pin:=fun aA I=>by
    cases I;exact⟨⟨by simp only[IA]at hn;omega,amT⟩,fun R _ _=>⟨rfl,fun g _=>rfl⟩⟩
   defers:=rfl
   tsz:=by have:=h.1;simp only[IA]at hn;simp;omega
   slots:=fun i=>by
    simp only[cP];rcases zJ (args:=d0::a) (vs:=#[u0]++vs) (n:=A.ntmps) (i:=i) (by simp[h.1];omega) with he|he
    ·rw[he];cases i with
     | zero =>
      have L:(#[u0]++vs).getD 0 undef=u0:=by simp[Array.getElem?_append]
      rw[L];simp only[amo];cases d0 with
      | buf x v sz o n =>
       have S:x=0∧v=0:=by
        simp only[IM]at W;grind
       obtain⟨rfl,rfl⟩:=S;exact⟨⟨by simp only[IA]at hn;omega,amT⟩,fun R C h2=>by simpa using aj.2 ⟨0,0,[],false,false,false⟩ rfl rfl⟩
      | ptr x v o =>
       have S:x=0∧v=0:=by
        simp only[IM]at W;grind
       obtain⟨rfl,rfl⟩:=S;exact⟨⟨by simp only[IA]at hn;omega,amT⟩,fun R C h2=>by simpa using aj.2 ⟨0,0,[],false,false,false⟩ rfl rfl⟩
      | mp x v =>
       have S:x=0∧v=0:=by
        simp only[IM]at W;grind
       obtain⟨rfl,rfl⟩:=S;exact⟨⟨by simp only[IA]at hn;omega,amT⟩,fun R C h2=>by simpa using aj.2 ⟨0,0,[],false,false,false⟩ rfl rfl⟩
      | _=>simp[IM]at W
     | succ i =>
      have L:(#[u0]++vs).getD (i+1) undef=vs.getD i undef:=by
       simp only[alv];rw[Array.getElem?_append_right (by simp)];simp
      rw[L];simp only[amp]
      by_cases hi:i<a.length
      ·have C:=h.2 i _ (alE hi);have L:a.getD i .und=a[i]:=by simp_all
       rw[L];exact ca (C.less fun b e=>(Q b).1 e)
      ·have L:a.getD i .und=.und:=by simp_all
       rw[L];trivial
    ·rw[he];trivial
   rows:=fun x R l=>by
    simp only[cP]at l;split at l
    ·rename_i h0;subst h0;simp only[alz]at l;subst l;refine⟨fun hn=>⟨hn,amT⟩,?_⟩;simp only[if_true];cases B with
     | none=>exact ab
     | some g =>
      exact⟨.inr (NJ.2 ⟨g,rfl,rfl⟩),fh.keep (r':={ r with v:=0 }) ab rfl rfl rfl rfl (fun b C h2=>⟨C,fun e=>h2 ((Q b).1 e),rfl⟩)⟩
    ·cases l
   inj:=fun x y m r2 g g' l J _ _ _=>by
    simp_all
   big:=aa
   pha:=fun y m g J hm _ j x s n hj=>by
    simp only[cP]at J;split at J
    ·simp only[alz]at J;subst J;obtain⟨ks,av,hc⟩:=C0 ai hm;grind
    ·cases J
   ali:=fun y m g J aB=>by
    simp only[cP]at J;grind }
  have Z:EH (cP (some (d0,r)) a).h=(cP (some (d0,r)) a).h:=by
   refine YU fun k R X =>?_;simp only[cP]at X;split at X
   ·rename_i h0;subst h0;simp only[alz]at X;subst X;exact⟨(by have:=gh;omega),by simpa [yt] using ai⟩
   ·cases X
  have aq:JX (cP (some (d0,r)) a).e [] (cP (some (d0,r)) a).h:=by
   intro x R ty s nv cs l aw;simp only[cP]at l;split at l
   ·simp only[alz]at l;subst l;intro aC;obtain⟨ks,av,hc⟩:=C0 ai aw;simp_all
   ·cases l
  apply calls_of_wp hf hc;refine kL hT hΓ hm c (cP (some (d0,r)) a) x s _ _ _ hv V ⟨_,⟨(by rw[Z];exact hI.weaken fun x v l =>.inl ⟨l.1,.inl l.2⟩),aq⟩⟩ (fun U w' hH =>?_);obtain⟨q,ae⟩:=hH;obtain⟨sE,N⟩:∃sE:St,sE=⟨s.t,EH s.h,s.e⟩:=⟨_,rfl⟩;have hI':Inv A.ntmps M (OD B) w q (VE A.ntmps s.e [] s.h) sE.t sE.h U w':=by rw[N];exact ae.inv
  rw[<- N]at d;have t:eV (xW B) w w':=⟨hI'.below.os,hI'.below.tape,hI'.below.output,hI'.below.size,fun k X hn=>hI'.below.block k X (fun e=>hn (NJ.1 e))⟩;have G:∀m,ov (some (d0,r)) sE=some (some m)->sE.h 0=some m∧m.v=0∧m.fz=false∧(m.ty=r.ty∧(m.mp=r.mp∧yt m=true))∧q 0=B∧(∀g,B=some g->w'.shape? g.1=w.shape? g.1)∧(∀b,(M b∨xW B b)->Own M sE.h q b):=by
   intro m hl;simp only[ov]at hl;split at hl<;>try (cases hl;done)
   rename_i r2 h2;split at hl<;>try (cases hl;done)
   rename_i ak;simp only[alz]at hl;subst hl;obtain⟨c1,c2,c3⟩:=ak;obtain⟨_,k2⟩:=hI'.pin _ rfl;obtain⟨k3,k4⟩:=k2 r2 h2 c1;refine⟨h2,c1,c2,c3,k3,k4,?_⟩;rintro b (e|⟨g,I,he⟩)
   ·exact .inl e
   ·exact .inr ⟨0,r2,g,h2,c2,k3.trans I,he.symm⟩
  have H:∀m,ov (some (d0,r)) sE=some (some m)->Wt w' (fun b=>M b∨xW B b) B m:=by
   intro m hl;obtain⟨C,_,_,h4,h5,_,h7⟩:=G m hl;have:=(hI'.rows 0 m C).2;rw[h5]at this;cases B with
   | none=>exact this
   | some g =>
    exact fh.keep this.2 rfl rfl rfl rfl (fun b C h2=>⟨C,fun e=>h2 (h7 b e),rfl⟩)
  have u:U.defers=[]∧∃v,(results A U.tmps).run P w'=.ok v w'∧(∃v',Ending.returned v=.returned v'∧eV (xW B) w w'∧agi w w' M B r ad∧agk w w' M B v' rk):=by
   refine⟨hI'.defers,?_⟩;cases K with
   | clean =>
    simp only[gG,ue]at d;split at d<;>try (cases d;done)
    rename_i ds fr o O ho;split at d<;>try (cases d;done)
    rename_i ax;simp only[adu,al1,List.contains_eq_mem,decide_eq_false_iff_not]at ax;simp only[alz,Prod.mk.injEq]at d;obtain⟨rfl,rfl⟩:=d;cases o with
    | none =>
     simp only[ov]at ho;grind
    | some m =>
     obtain⟨C,h2,h3,h4,h5,h6,h7⟩:=G m ho;have al:s6 M sE.h q fr (fun b=>M b∨xW B b):=by
      refine⟨h7,fun x l R g ar I e =>?_⟩;rcases e with e|⟨g',ay,he⟩
      ·exact hI'.notM ar I e
      ·have:x=0:=hI'.inj x 0 R m g g' ar C I (h5.trans ay) he;simp_all
     obtain⟨v,E,z⟩:=vw (P:=P) hT hI' O al;exact⟨v,E,v,rfl,t,⟨h4.1,h3,h4.2,h6,H m ho⟩,z⟩
   | same =>
    simp only[gG,Oc]at d;split at d<;>try (cases d;done)
    rename_i i ag;split at d<;>try (cases d;done)
    rename_i sz o n m ht ho;simp only[alz,Prod.mk.injEq]at d;obtain⟨rfl,rfl⟩:=d;obtain⟨C,h2,h3,h4,h5,h6,h7⟩:=G m ho;refine⟨U.tmps.getD i undef,si ag,_,rfl,t,⟨h4.1,h3,h4.2,h6,H m ho⟩,?_⟩;have Y:=hI'.slots i;rw[ht]at Y;refine⟨trivial,fun R _ _ =>?_⟩;have:=Y.2 m C h2;rw[h5]at this;exact this
   | tight =>
    simp only[gG,HH]at d;cases d
   | fresh au s0 =>
    obtain⟨rfl,v,ty,sz,n,cells,rfl,E,z⟩:=hI'.wy (P:=P) d;refine⟨v,E,v,rfl,t,trivial,?_⟩;rcases z with⟨g,k1,cs,k2,k3,k4⟩|z
    ·exact .inl ⟨g,k1,cs,k2,k3.imp id (fun e=>NJ.1 e),k4⟩
    ·exact .inr z
  cases x with
  | normal=>exact u
  | ret=>exact u
  | exit n=>simp_all
def ext (Γ:Env) (f:Nat) (l:Bool) (G:Option (D×Row)->List D->Option (RK×Option Row)):Env:=⟨fun g=>if g=f then l else Γ.lends g,fun g cc alj=>if g=f then G cc alj else Γ.sem g cc alj,Γ.own,Γ.hint,Γ.ins,Γ.grw,Γ.nst,Γ.nx⟩
def bV.ext (b:bV P Γ) {f:Nat} {l:Bool} {G:Option (D×Row)->List D->Option (RK×Option Row)} (d:∀cc alj c a,G cc alj=some (c,a)->vB P f cc alj c a) (e:fl P f):bV P (Am.ext Γ f l G):=by
 refine⟨fun g cc alj c a h =>?_,b.ins,b.grw,b.lnd,b.res⟩;simp only[Am.ext]at h;split at h
 ·simp_all
 ·exact b.calls g cc alj c a h
def bk:Env:=⟨fun _=>false,fun _ _ _=>none,fun _=>true,fun _=>none,fun _=>none,fun _=>none,fun _=>none,{}⟩
def bV.none:bV P bk:=⟨fun f cc a c b h=>(by cases h),fun f p h=>(by cases h),fun f p h=>(by cases h),fun f p h=>(by cases h),fun f p h=>(by cases h)⟩
def keep (d:Nat) (Γ:Env):Env:=⟨Γ.lends,Γ.sem,fun i=>i != d&&Γ.own i,Γ.hint,Γ.ins,Γ.grw,Γ.nst,Γ.nx⟩
def bV.keep (a:bV P Γ) (d:Nat):bV P (Am.keep d Γ):=⟨a.calls,a.ins,a.grw,a.lnd,a.res⟩
def Ii (f:Nat) (p:Nat×Nat×Nat) (Γ:Env):Env:=⟨Γ.lends,Γ.sem,Γ.own,Γ.hint,fun g=>if g=f then some p else Γ.ins g,Γ.grw,Γ.nst,Γ.nx⟩
def bV.Ii (a:bV P Γ) {f:Nat} {p:Nat×Nat×Nat} (b:aa5 P f p):bV P (Am.Ii f p Γ):=⟨a.calls,fun g q h=>by
 simp only[Am.Ii]at h;split at h
 ·simp_all
 ·exact a.ins g q h,a.grw,a.lnd,a.res⟩
def yu (d:Nat) (p:Nat×Nat×Nat) (Γ:Env):Env:=⟨Γ.lends,Γ.sem,Γ.own,Γ.hint,Γ.ins,Γ.grw,fun i=>if i=d then some p else Γ.nst i,Γ.nx⟩
def bV.yu (a:bV P Γ) (d:Nat) (p:Nat×Nat×Nat):bV P (Am.yu d p Γ):=⟨a.calls,a.ins,a.grw,a.lnd,a.res⟩
def tr (f:Nat) (p:Nat×(Nat->Nat->Nat->Nat->List D->List D->Option (D×List D))) (Γ:Env):Env:=⟨Γ.lends,Γ.sem,Γ.own,Γ.hint,Γ.ins,Γ.grw,Γ.nst,⟨fun g=>if g=f then some p else Γ.nx.lnd g,Γ.nx.res⟩⟩
def bV.tr (b:bV P Γ) {f:Nat} {p:Nat×(Nat->Nat->Nat->Nat->List D->List D->Option (D×List D))} (e:fl P f) (i:∀ty t s o cs a d c,p.2 ty t s o cs a=some (d,c)->NH P f ty t s o cs a d c):bV P (Am.tr f p Γ):=⟨b.calls,b.ins,b.grw,fun g q h=>by
 simp only[Am.tr]at h;split at h
 ·simp_all
 ·exact b.lnd g q h,b.res⟩
def C4 (f:Nat) (p:List D->Option (Nat×Nat×Nat×Nat×Nat×List D)) (Γ:Env):Env:=⟨Γ.lends,Γ.sem,Γ.own,Γ.hint,Γ.ins,Γ.grw,Γ.nst,⟨Γ.nx.lnd,fun g=>if g=f then some p else Γ.nx.res g⟩⟩
def bV.C4 (b:bV P Γ) {f:Nat} {p:List D->Option (Nat×Nat×Nat×Nat×Nat×List D)} (c:fl P f) (d:∀a ty t s S n cs,p a=some (ty,t,s,S,n,cs)->NG P f a ty t s S n cs):bV P (Am.C4 f p Γ):=⟨b.calls,b.ins,b.grw,b.lnd,fun g q h=>by
 simp only[Am.C4]at h;split at h
 ·simp_all
 ·exact b.res g q h⟩
end
def xN (ty t s o:Nat) (cs a:List D):St:=⟨fun i=>(.ptr 0 0 o::a).getD i .und,pz (jS ty t s 0 cs),1⟩
def acv (t s:Nat) (b:List D):List D->Option (D×List D)
 | [.nr c d _ a]=>if c=t∧d=s then some (oQ b,a) else none
 | _=>none
def Q1 (ty t s:Nat):Option (List D×List Nat)->Option Row->Option (D×List D)
 | some (a,fr),some r=>if r.v=0∧r.fz=false∧r.ty=ty∧r.mp=true∧fr.all (fun k=>rt k != 0)=true then acv t s a r.cells else none
 | _,_=>none
def ZA (T:Nat->Option Ty) (ty t s:Nat) (rs:List ResultVar) (a:St):Option (D×List D):=Q1 ty t s (yy T ⟨a.t,EH a.h,a.e⟩ rs) (a.h 0)
def xQ (T:Nat->Option Ty) (Γ:Env) (F:Nat) (b:Func) (ty t s o:Nat) (cs a:List D):Option (D×List D) :=
 match b.body with
 | some c =>
  if b.ntmps<=PK then
   match iF T Γ b.ntmps F c (xN ty t s o cs a) with
   | some (.exit _,_)=>none
   | some (_,st)=>ZA T ty t s b.results.toList st
   | none=>none
  else none
 | none=>none
def acs (x S n:Nat) (ty:Nat):List D->Option (Nat×Nat×Nat×Nat×Nat×List D)
 | [.nr t s _ cs]=>if x<PK then some (ty,t,s,S,n,cs) else none
 | _=>none
def QZ (x v S n:Nat):Option Row->Option (Nat×Nat×Nat×Nat×Nat×List D)
 | some r=>if r.v=v∧r.fz=false∧r.mp=true then acs x S n r.ty r.cells else none
 | none=>none
def Xb (h:Nat->Option Row):D->Option (Nat×Nat×Nat×Nat×Nat×List D)
 | .buf x v S 0 n=>QZ x v S n (h x)
 | _=>none
def acr (rs:List ResultVar) (a:St):Option (Nat×Nat×Nat×Nat×Nat×List D) :=
 match rs with
 | [.tmp i]=>Xb a.h (a.t i)
 | _=>none
def B5 (T:Nat->Option Ty) (Γ:Env) (F:Nat) (b:Func) (a:List D):Option (Nat×Nat×Nat×Nat×Nat×List D) :=
 match b.body with
 | some c =>
  if b.ntmps<=PK then
   match iF T Γ b.ntmps F c (cP none a) with
   | some (.exit _,_)=>none
   | some (_,st)=>acr b.results.toList st
   | none=>none
  else none
 | none=>none
section
variable {P:Program} {T:Nat->Option Ty} {N:Nat} {M:Nat->Prop} {L:lG} {w0:World} {blk:Nat->Option (Nat×Nat)} {a:Act} {w:World} {Γ:Env}
def Px (hT:ke P T) (hΓ:bV P Γ) (hm:P.follows .mixedOrders=true) {f:FuncId} {K:Func} {F:Nat} {ty t s o:Nat} {cs a ab:List D} {d:D} (hf:P.funcs[f]? = some K)
  (V:(match K.body with|some c=>codeOk c|none=>true)=true) (hn:a.length+1<=K.ntmps)
  (z:xQ T Γ F K ty t s o cs a=some (d,ab)):NH P f ty t s o cs a d ab:=by
 unfold xQ at z;split at z<;>try (cases z;done)
 rename_i c hc;rw[hc]at V;simp only at V;split at z<;>try (cases z;done)
 rename_i ad;split at z<;>try (cases z;done)
 rename_i x st az hv;intro w M blk E C m vs L N hM hdis ae hR A;have aA:=gh;have al:∀k r,E k=some r->r.fz=false:=by
  intro k r J;rw[L]at J;rcases kW J with⟨_,rfl⟩|⟨_,_,_,_,_,rfl⟩<;>rfl
 have G:∀b,Own M E blk b↔(M b∨zX blk E b):=by
  intro b;constructor
  ·rintro (e|⟨k,r,g,C,_,h2,h3⟩)
   ·exact .inl e
   ·exact .inr ⟨k,r,g,C,h2,h3⟩
  ·rintro (e|⟨k,r,g,C,h2,h3⟩)
   ·exact .inl e
   ·exact .inr ⟨k,r,g,C,al k r C,h2,h3⟩
 have W:E 0=some ⟨0,ty,cs.mapIdx (wO 0 s),false,true,true⟩:=by rw[L];exact zG
 obtain⟨LL,ag⟩:∃LL:lG,LL=some (some m,zX blk E):=⟨_,rfl⟩;have X:∀b,LB LL b↔zX blk E b:=by
  intro b;subst ag;constructor
  ·rintro⟨p,hp,h⟩;cases hp;rcases h with⟨g,R,rfl⟩|h
   ·cases R;exact⟨0,_,m,W,ae,rfl⟩
   ·exact h
  ·exact fun h=>⟨_,rfl,.inr h⟩
 have hI:Inv K.ntmps M LL w blk (fun x v=>x<K.ntmps∧v<1) (xN ty t s o cs a).t E { tmps:=(#[Value.pointer (some ⟨m.1,m.2+o,none⟩)]++vs)++Array.replicate (K.ntmps-(#[Value.pointer (some ⟨m.1,m.2+o,none⟩)]++vs).size) undef,defers:=[] } w:={
  tab:=fun b e=>(A.tab b e).less fun b e=>(G b).1 e
  below:=eV.refl _ _
  mlt:=hM
  cc:=fun b e=>hdis b ((X b).1 e)
  pin:=fun p hp=>by
   grind
  defers:=rfl
  tsz:=by have:=A.1;simp;omega
  slots:=fun i=>by
   simp only[xN];rcases zJ (args := .ptr 0 0 o::a) (vs:=#[.pointer (some ⟨m.1,m.2+o,none⟩)]++vs) (n:=K.ntmps) (i:=i) (by simp[A.1];omega) with he|he
   ·rw[he];cases i with
    | zero =>
     have Y:(#[Value.pointer (some ⟨m.1,m.2+o,none⟩)]++vs).getD 0 undef=.pointer (some ⟨m.1,m.2+o,none⟩):=by simp[Array.getElem?_append]
     rw[Y];simp only[amo];exact⟨⟨by omega,amT⟩,fun r' _ _=>⟨m,ae,rfl⟩⟩
    | succ i =>
     have Y:(#[Value.pointer (some ⟨m.1,m.2+o,none⟩)]++vs).getD (i+1) undef=vs.getD i undef:=by
      simp only[alv];grind
     rw[Y];simp only[amp]
     by_cases hi:i<a.length
     ·have C:=A.2 i _ (alE hi);have Y:a.getD i .und=a[i]:=by simp_all
      rw[Y];exact ca (C.less fun b e=>(G b).1 e)
     ·have Y:a.getD i .und=.und:=by simp_all
      rw[Y];trivial
   ·rw[he];trivial
  rows:=fun k r J=>by
   refine⟨fun hn =>?_,?_⟩
   ·rw[L]at J;rcases kW J with⟨rfl,rfl⟩|⟨o',_,_,rfl,_,rfl⟩
    ·simp_all
    simp_all
   ·have:=hR.rows k r J;cases R:blk k with
    | none=>rw[R]at this;exact this
    | some g =>
     rw[R]at this;exact⟨.inr ((X g.1).2 ⟨k,r,g,J,R,rfl⟩),this.keep rfl rfl rfl rfl fun b S q2=>⟨S,fun e=>q2 ((G b).1 e),rfl⟩⟩
  inj:=hR.inj
  big:=ad
  pha:=hR.pha
  ali:=fun y r g hy hz=>by grind }
 have ai:JX (xN ty t s o cs a).e [] (xN ty t s o cs a).h:=by
  intro k r' aB s' an ao U aC aq;simp only[xN,pz]at U;split at U
  ·simp only[alz]at U;subst U;simp only[jS,alO,D.nr.injEq,and_true]at aq;omega
  ·cases U
 have ar:EH (xN ty t s o cs a).h=E:=L.symm;apply calls_of_wp hf hc;refine kL hT hΓ hm c (xN ty t s o cs a) x st _ _ _ hv V ⟨_,⟨(by rw[ar];exact hI.weaken fun x v U=>Or.inl ⟨U.1,Or.inl U.2⟩),ai⟩⟩ (fun a' w' hH =>?_);obtain⟨u,au⟩:=hH;have hI':=au.inv;unfold ZA Q1 at z;split at z<;>try (cases z;done)
 rename_i ds fr r1 aj O;split at z<;>try (cases z;done)
 rename_i Z;obtain⟨c1,c2,c3,c4,c5⟩:=Z;unfold acv at z;split at z<;>try (cases z;done)
 rename_i t' s' an ao j;split at z<;>try (cases z;done)
 rename_i av;obtain⟨rfl,rfl⟩:=av;simp only[alz,Prod.mk.injEq]at z;obtain⟨rfl,rfl⟩:=z;have aw:=il O c4 j qG;obtain⟨p1,p2⟩:=(hI'.pin (some m,zX blk E) ag).2 _ aw c1;have Q:=NI (blk:=u) O c4 j qG;rw[c3]at Q;have hQ:∀b,(M b∨zX (uP u 0) C b)->Own M (EH st.h) u b:=by
  rintro b (e|e)
  ·exact .inl e
  ·rw[N]at e;obtain⟨k,r',g',q0,S,q2,q3⟩:=(Q b).1 e;refine .inr ⟨k,r',g',S,?_,q2,q3⟩;rcases fM O c4 j qG q0 S with⟨_,rfl⟩|⟨_,_,_,_,_,rfl⟩<;>exact c2
 have aa:s6 M (EH st.h) u fr (fun b=>M b∨zX (uP u 0) C b):=by
  refine⟨hQ,fun k J r' g ak R e =>?_⟩;rcases e with e|e
  ·exact hI'.notM ak R e
  ·rw[N]at e;obtain⟨l,r2,g',q0,S,q2,q3⟩:=(Q _).1 e;have:=hI'.inj k l r' r2 g g' ak S R q2 q3.symm;simp_all
 obtain⟨v,ax,ay⟩:=vw (P:=P) (s:=⟨st.t,EH st.h,st.e⟩) hT hI' aj aa;have H:=hI'.ahz O c4 j c2 qG hQ;rw[c3,<- N]at H;have I:a'.defers=[]∧∃v,(results K a'.tmps).run P w'=.ok v w'∧(∃v' B,Ending.returned v=.returned v'∧eV (zX blk E) w w'∧B 0=some m∧w'.shape? m.1=w.shape? m.1∧(∀b,zX B C b->w.heap.size<=b∨zX blk E b)∧KL w' (fun b=>M b∨zX B C b) B C∧RP w' (fun b=>M b∨zX B C b) (oQ ds) v'):=by
  refine⟨hI'.defers,v,ax,v,uP u 0,rfl,⟨hI'.below.os,hI'.below.tape,hI'.below.output,hI'.below.size,fun k J hn=>hI'.below.block k J fun e=>hn ((X k).1 e)⟩,by rw[uP,vY];exact p1,p2 m rfl,fun b e =>?_,H,ay⟩;rw[N]at e;obtain⟨k,r',g',q0,S,q2,q3⟩:=(Q b).1 e;rcases hI'.base S q2 with q|q
  ·omega
  simp_all
 cases x with
 | normal=>exact I
 | ret=>exact I
 | exit n=>simp_all
def akK (G:ke P T) (H:bV P Γ) (I:P.follows .mixedOrders=true) {f:FuncId} {e:Func} {F:Nat} {a:List D} {c:Code} {x:Ex} {p:St} (J:P.funcs[f]? = some e) (K:e.body=some c) (z:codeOk c=true) (W:a.length<=e.ntmps) (t:e.ntmps<=PK)
  (L:iF T Γ e.ntmps F c (cP none a)=some (x,p)) (N:∀n,x ≠ .exit n) {w:World} {M:Nat->Prop} {vs:Array Value} (O:∀b,M b->b<w.heap.size) (d:Cb w M a vs) {Φ:Ending->World->Prop}
  (A:∀q o h,Inv e.ntmps M none w h (VE e.ntmps p.e [] p.h) p.t (EH p.h) q o->∃v,(results e q.tmps).run P o=.ok v o∧Φ (.returned v) o):Calls P f vs w Φ:=by
 have Q:Inv e.ntmps M none w (fun _=>none) (fun x v=>x<e.ntmps∧v<0) (cP none a).t (cP none a).h { tmps:=vs++Array.replicate (e.ntmps-vs.size) undef,defers:=[] } w:={
  tab:=fun b j=>(d.tab b j).less fun b j=>by
   rcases j with j|⟨x,r,g,l,_⟩
   ·exact j
   ·cases l
  below:=eV.refl _ _
  mlt:=O
  cc:=fun b j=>absurd j uY
  pin:=fun X R=>by cases R
  defers:=rfl
  tsz:=by have:=d.1;simp;omega
  slots:=fun i=>by
   simp only[cP];rcases zJ (n:=e.ntmps) (i:=i) d.1 with he|he
   ·rw[he]
    by_cases S:i<a.length
    ·have B:=d.2 i _ (alE S);have C:a.getD i .und=a[i]:=by simp_all
     rw[C];exact ca (B.less fun b j=>by
      rcases j with j|⟨x,r,g,l,_⟩
      ·exact j
      ·cases l)
    ·have C:a.getD i .und=.und:=by simp_all
     rw[C];trivial
   ·rw[he];trivial
  rows:=fun x r l=>by cases l
  inj:=fun x y r s g Y l=>by cases l
  big:=t
  pha:=fun y r g E=>by cases E
  ali:=fun y r g E=>by cases E }
 apply calls_of_wp J K;refine kL G H I c (cP none a) x p _ _ _ L z ⟨_,⟨(by rw[GA (fun k r A=>by cases A)];exact Q.weaken fun x v l=>absurd l.2 (Nat.not_lt_zero _)),fun x r ty s nv cs l=>by cases l⟩⟩ (fun q o U =>?_);obtain⟨h,u⟩:=U;obtain⟨v,B,V⟩:=A q o h u.inv;have m:q.defers=[]∧∃v,(results e q.tmps).run P o=.ok v o∧Φ (.returned v) o:=⟨u.inv.defers,v,B,V⟩;cases x with
 | normal=>exact m
 | ret=>exact m
 | exit n=>simp_all
def T8 {F:Nat} {d:Func} {b:List D} {ty t s S n:Nat} {cs:List D} (a:B5 T Γ F d b=some (ty,t,s,S,n,cs)) :
  ∃c x e i k v r nv,d.body=some c∧d.ntmps<=PK∧iF T Γ d.ntmps F c (cP none b)=some (x,e)∧(∀m,x ≠ .exit m)∧d.results.toList=[.tmp i]∧e.t i=.buf k v S 0 n∧e.h k=some r∧r.v=v∧r.fz=false∧r.mp=true∧k<PK∧r.ty=ty∧r.cells=[.nr t s nv cs]:=by
 unfold B5 at a;split at a<;>try (cases a;done)
 rename_i c l;split at a<;>try (cases a;done)
 rename_i g;split at a<;>try (cases a;done)
 rename_i x e h o;unfold acr at a;split at a<;>try (cases a;done)
 rename_i i j;unfold Xb at a;split at a<;>try (cases a;done)
 rename_i k v p q u;unfold QZ at a;split at a<;>try (cases a;done)
 rename_i r w;split at a<;>try (cases a;done)
 rename_i f;unfold acs at a;grind
def Pw (X:ke P T) (Y:bV P Γ) (Z:P.follows .mixedOrders=true) {f:FuncId} {E:Func} {F:Nat} {e:List D} {ty t s S n:Nat} {cs:List D} (hf:P.funcs[f]? = some E)
  (m:(match E.body with|some c=>codeOk c|none=>true)=true) (hn:e.length<=E.ntmps)
  (hr:B5 T Γ F E e=some (ty,t,s,S,n,cs)):NG P f e ty t s S n cs:=by
 obtain⟨c,x,st,i,k,v,r,nv,Q,y,hv,K,L,ht,G,c1,R,H,I,z,a⟩:=T8 hr;rw[Q]at m;simp only at m;intro w M h vs A hM o;refine akK X Y Z hf Q m hn y hv K hM o fun a' w' d j =>?_;have p:=NI (blk:=d) G H a I;rw[z,<- A]at p;have B:Below w.heap.size w w':=j.below.below (fun b u=>absurd u uY);have hQ:∀b,(M b∨zX (uP d k) h b)->Own M (EH st.h) d b:=by
  rintro b (u|u)
  ·exact .inl u
  ·obtain⟨l,N,U,V,J,O,W⟩:=(p b).1 u;refine .inr ⟨l,N,U,J,?_,O,W⟩;rcases fM G H a I V J with⟨_,rfl⟩|⟨_,_,_,_,_,rfl⟩<;>exact R
 have g:=j.ahz G H a R I hQ;rw[z,<- A]at g;have C:=j.slots i;rw[ht]at C;refine⟨_,si L,_,uP d k,rfl,B,fun b u =>?_,g,trivial,fun N _ _ =>?_⟩
 ·obtain⟨l,N,U,V,J,O,W⟩:=(p b).1 u;rcases j.base J O with q|q
  ·omega
  ·exact absurd q uY
 ·rw[uP,vY];exact C.2 _ (il G H a I) c1
end
def acV:eB->D
 | (n,none) =>.int .i64 n
 | (a,some b) =>.agg [.int .i64 a,.int .i64 b]
def RR {w:World} {M:Nat->Prop} (k:eB):RP w M (acV k) (oL k):=by
 obtain⟨a,x⟩:=k;cases x with
 | none=>exact .int _ _
 | some b =>
  refine .agg [.int .i64 a,.int .i64 b] [.int .i64 a,.int .i64 b] rfl (fun j x c =>?_) (fun x d =>?_)
  ·match j,c with
   | 0,c=>simp only[List.getElem?_cons_zero,alz]at c;subst c;exact .int _ _
   | 1,c=>simp only[List.getElem?_cons_succ,List.getElem?_cons_zero,alz]at c;subst c;exact .int _ _
   | j+2,c=>simp at c
  ·simp only[alx,amM,or_false]at d;rcases d with rfl|rfl<;>rfl
section
variable {P:Program} {T:Nat->Option Ty} {N:Nat} {M:Nat->Prop} {L:lG} {w0:World} {blk:Nat->Option (Nat×Nat)} {V:Nat->Nat->Prop} {t:Nat->D} {h:Nat->Option Row} {a:Act} {w:World} {e:Nat} {o:Oper} {Γ:Env} {done:List Nat}
def yB {x v ty:Nat} {a:List eB} {vs:List D} {fz lst:Bool} (b:h x=some ⟨v,ty,[.mpc a vs],fz,lst,true⟩) (c:x<PK):EH h x=some ⟨v,ty,[.mpc a vs],fz,lst,true⟩∧∀o,EH h (NK x o)=none:=by
 constructor
 ·rw[wh (by omega),b];rfl
 ·intro o;rw[wg c,b];rfl
def zZ (m:w7 N M L w0 blk e done t h a w) (p:∀d:Nat,o.dst=some d->d∉done∧d<N) {E:cH} {v:Value} {l:World} (b:jJ e h (aZ h E.hw)) (q:lD N M L w0 (VE N e done h) t h a e o.dst E v l):Gy N M L w0 t h a e (o.dst.toList++done) E v l:=by
 have c:∀x,x∈done->x∈o.dst.toList++done:=fun x k=>alG _ k;obtain⟨f,g,i⟩:=q;have j:∀x n,VE N e done h x n∨(o.dst=some x∧n=e)->VE N e (o.dst.toList++done) (aZ h E.hw) x n:=by
  rintro x n (r|⟨k,rfl⟩)
  ·exact r.step b c
  ·exact .inl ⟨(p x k).2,.inr ⟨rfl,alF _ (by rw[k];simp)⟩⟩
 exact⟨f,⟨g.weaken j,m.nv.step b c⟩,i.mono ⟨fun _ g i=>⟨g,i,rfl⟩,j,fun _ _ _ s g i=>⟨⟨s,g,i⟩,rfl,fun _ _=>rfl⟩⟩⟩
def DF {ops:Array Oper} {l:List Oper} {Q:Exit->Act->World->Prop} (i:o.guard=none) {K:(Nat->D)->(Nat->Option Row)->Prop} (r:w7 N M L w0 blk e done t h a w) (j:fits N o.dst=true)
  (k:fm P o a w fun v c=>∃E:cH,K (gg t o.dst E.val) (aZ h E.hw)∧Gy N M L w0 t h a e (o.dst.toList++done) E v c)
  (m:∀f h' g c b,K f h'->w7 N M L w0 b e (o.dst.toList++done) f h' g c->wpList P ops Q l g c):wpList P ops Q (o::l) a w:=by
 unfold wpList;have:Region.wanted o (yielded ops a.tmps)=true:=by simp[Region.wanted,i]
 rw[this];simp only[if_true];refine .inl (k.wp fun v c n =>?_);obtain⟨E,p,b,d,q⟩:=n;exact m _ _ _ _ b p ⟨d.inv.ahP j q,d.nv⟩
def UG (hT:ke P T) (Z:Inv N M L w0 blk V t (EH h) a w) {ty d x v v' f k el:Nat} {m:Operand} {l:List eB} {vs:List D} {lst:Bool} (ho:o.op=.range ty m) (hd:o.dst=some d) (hV:kZ N V d e) (hu:P.underlying ty=some (.map k el)) (hm:ev t m=.mp x v)
  (hx:h x=some ⟨v,f,[.mpc l vs],false,lst,true⟩) (al:f<900000) (H:x<PK) (J:d≠x) :
  fm P o a w (lD N M L w0 V t h a e o.dst ⟨.ptr d e 0,[(x,some ⟨v,f,[.mpc l vs],true,true,true⟩),(d,some ⟨e,900000,[.mpc l vs],false,true,true⟩)]⟩):=by
 have an:=gh;have ak:=Z.big;have ao:d<N:=hV.lt;have s:d<PK:=by omega
 obtain⟨aq,ar⟩:=yB hx H;have K:=Z.ev m;rw[hm]at K;have aa:ny (EH h) x v=some (l,vs):=by unfold ny;simp_all
 obtain⟨g,r,h1,h2,h3,h4,h5,ab,O,F,c,p,au,ad,us,hk,hv⟩:=Z.Sf aa K;have Q:=run_range_map (P:=P) w ty k el g.1 F c hu p;have ae:=Z.le (Cz (h:=h) d s);have ag:cq h d none x=some ⟨v,f,[.mpc l vs],false,lst,true⟩:=by rw[aD _ _ (Ne.symm J)];exact hx
 obtain⟨R,S⟩:=yB ag H;have hA:=ae.freeze [x];have u:∀z,aZ (EH (cq h d none)) (lh (EH (cq h d none)) [x]) z=if z=x then some ⟨v,f,[.mpc l vs],true,true,true⟩ else EH (cq h d none) z:=by
  intro z;rw[DM]
  by_cases hz:z=x
  ·subst hz;rw[if_pos (by simp),if_pos rfl,R];rfl
  simp_all
 generalize av:aZ (EH (cq h d none)) (lh (EH (cq h d none)) [x])=A at hA u;have U:=heap_alloc_new w (.mapIter (some g.1) c #[] c);have hold:∀b,b<w.heap.size->(w.alloc (.mapIter (some g.1) c #[] c)).heap[b]? = w.heap[b]?:=fun b G=>Below.heap_alloc w _ b G;have B:=(Below.refl w.heap.size w).alloc (alq _) (.mapIter (some g.1) c #[] c);have W:g.1<w.heap.size:=(ams.1 p).1;have X:A x=some ⟨v,f,[.mpc l vs],true,true,true⟩:=by simp_all
 have aw:¬Own M A blk g.1:=by
  rintro (G|⟨y,r',g',I,C,E,he⟩)
  ·exact hA.notM X h5 G
  ·have:y=x:=hA.inj y x r' _ g' g I X E h5 he;grind
 have hB:=hA.GP (w':=w.alloc (.mapIter (some g.1) c #[] c)) (h1:=A) (old:=none) (d:=d) (e:=e) (r0:=⟨e,900000,[.mpc l vs],false,true,true⟩) (go:=some (w.heap.size,0)) B.os B.tape B.output B.size (fun k hk _=>hold k hk) (fun y I=>by cases I) rfl hV
  ⟨.inl (alq _),.inl ⟨l,vs,rfl,O,fun q=>absurd q (anu _),fun _=>⟨rfl,g.1,F,c,#[],[],List.range l.length,us,U,by grind,by
   grind,(hold _ W).trans p,ad,(amx 900000).symm,alr _,by simp,List.nodup_range,fun i=>by
   rw[amQ];constructor
   ·simp_all
   grind,fun i hi=>by simp at hi,fun j k' hj=>by
   grind,fun j y hj=>(hv j y hj).keep fun b q1 q2=>⟨by grind,by
    rintro (G|G)
    ·apply q2;rcases G with G|⟨y,r',g',I,C,E,he⟩
     ·exact .inl G
     ·by_cases ai:y=x
      ·grind
      ·rw[u,if_neg ai]at I;obtain⟨r2,q3,q4⟩:=Cz (h:=h) d s y r' I;refine .inr ⟨y,r2,g',q3,?_,E,he⟩;rcases q4 with rfl|⟨_,cs,rfl,_⟩|⟨_,kk,rfl⟩
       ·exact C
       ·exact C
       ·exact C
    omega,hold b q1⟩⟩⟩⟩ rfl rfl (fun _ g' E j x' s' n' hj=>by grind)
 have Y:cq A d (some (⟨e,900000,[.mpc l vs],false,true,true⟩:Row))=EH (aZ h [(x,some ⟨v,f,[.mpc l vs],true,true,true⟩),(d,some ⟨e,900000,[.mpc l vs],false,true,true⟩)]):=by
  have aj:aZ h [(x,some ⟨v,f,[.mpc l vs],true,true,true⟩),(d,some ⟨e,900000,[.mpc l vs],false,true,true⟩)]=cq (cq h x (some ⟨v,f,[.mpc l vs],true,true,true⟩)) d (some ⟨e,900000,[.mpc l vs],false,true,true⟩):=rfl;rw[aj];have k1:cq (cq h x (some (⟨v,f,[.mpc l vs],true,true,true⟩:Row))) d (some ⟨e,900000,[.mpc l vs],false,true,true⟩) d=some ⟨e,900000,[.mpc l vs],false,true,true⟩:=ay _ _ _;have k2:cq (cq h x (some (⟨v,f,[.mpc l vs],true,true,true⟩:Row))) d (some ⟨e,900000,[.mpc l vs],false,true,true⟩) x=some ⟨v,f,[.mpc l vs],true,true,true⟩:=by rw[aD _ _ (Ne.symm J),ay]
  obtain⟨m1,m2⟩:=yB k1 s;obtain⟨m3,m4⟩:=yB k2 H;have k3:cq h d none d=none:=ay _ _ _;funext z
  by_cases hzd:rt z=d
  ·rcases sO hzd with rfl|⟨o',rfl⟩
   ·rw[ay,m1]
   ·rw[aD _ _ (by grind),m2,u,if_neg (by grind),wg s,k3];rfl
  ·rw[aD _ _ (fun e=>hzd (by rw[e,jU (by omega)])),u]
   by_cases hzx:rt z=x
   ·rcases sO hzx with rfl|⟨o',rfl⟩
    ·rw[if_pos rfl,m3]
    ·rw[if_neg (by grind),m4,S]
   ·rw[if_neg (fun e=>hzx (by rw[e,jU (by omega)]))];exact fp (by rw[aD _ _ hzd,aD _ _ hzd,aD _ _ hzx])
 rw[Y]at hB;refine aP (v := .pointer (some ⟨w.heap.size,0,none⟩)) (w':=w.alloc (.mapIter (some g.1) c #[] c)) ?_ ⟨cq blk d (some (w.heap.size,0)),hB.weaken fun x n hx =>?_,?_⟩
 ·simp[execOp,ho,ab,Q]
 ·grind
 ·exact⟨.inr ⟨hd,rfl⟩,fun r hr hv=>⟨(w.heap.size,0),ay _ _ _,rfl⟩⟩
def Inv.iter (i:Inv N M L w0 blk V t (EH h) a w) {y v ty:Nat} {p:Operand} {e:List eB} {vs:List D} {lst:Bool} (k:Am.ev t p=.ptr y v 0) (l:h y=some ⟨v,ty,[.mpc e vs],false,lst,true⟩) (m:900000<=ty) (f:y<PK) :
  ∃(g:Nat×Nat),blk y=some g∧a.eval p=.pointer (some ⟨g.1,g.2+0,none⟩)∧vs.length=e.length∧PH w (Own M (EH h) blk) g ty e vs:=by
 obtain⟨c,_⟩:=yB l f;have d:=i.ev p;rw[k]at d;obtain⟨g,n,r⟩:=d.2 _ c rfl;have b:=i.rowIs c n;unfold fh at b;simp only at b;rcases b with⟨o,q,j,s,_,u⟩|⟨j,_⟩
 ·simp_all
 ·have:=j _ (alM.2 rfl);cases this
def Wi {y v ty b:Nat} {i c:List eB} {vs d:List D} {fz lst fz' a:Bool} (j:h y=some ⟨v,ty,[.mpc i vs],fz,lst,true⟩) (f:y<PK):EH (cq h y (some ⟨v,b,[.mpc c d],fz',a,true⟩))=cq (EH h) y (some ⟨v,b,[.mpc c d],fz',a,true⟩):=by
 obtain⟨_,k⟩:=yB j f;have g:cq h y (some (⟨v,b,[.mpc c d],fz',a,true⟩:Row)) y=some ⟨v,b,[.mpc c d],fz',a,true⟩:=ay _ _ _;obtain⟨l,m⟩:=yB g f;funext z
 by_cases hz:rt z=y
 ·rcases sO hz with rfl|⟨n,rfl⟩
  ·rw[ay,l]
  ·rw[aD _ _ (by have:=jv y n;have:=gh;omega),m,k]
 ·rw[aD _ _ (fun e=>hz (by rw[e,jU (by have:=gh;omega)]))];exact fp (by rw[aD _ _ hz])
def Zs (hI:Inv N M L w0 blk V t (EH h) a w) {y v ty:Nat} {p:Operand} {I:List eB} {vs:List D} {lst:Bool} (ho:o.op=.next p false) (hp:ev t p=.ptr y v 0) (hy:h y=some ⟨v,ty,[.mpc I vs],false,lst,true⟩) (az:900000<=ty) (R:y<PK) :
  fm P o a w fun v' w'=>(I.drop (ty-900000)=[]∧lD N M L w0 V t h a e o.dst ⟨.tup [.bool false],[]⟩ v' w') ∨
   ∃(j:Nat) (k:eB) (x:D),(I.drop (ty-900000))[j]? = some k∧(vs.drop (ty-900000))[j]? = some x∧lD N M L w0 V t h a e o.dst ⟨.tup [.bool true,acV k,x],[(y,some ⟨v,900001,[.mpc (k::(I.drop (ty-900000)).eraseIdx j) (x::(vs.drop (ty-900000)).eraseIdx j)],false,lst,true⟩)]⟩ v' w':=by
 obtain⟨g,hg,ae,aq,ar,b,s,f,seen,c,l,us,h1,h2,h3,h4,ag,k1,k2,k3,k4,k5,k6,k7,k8⟩:=hI.iter hp hy az R;rw[ar,alZ]at ae;obtain⟨ai,_⟩:=yB hy R;rw[<- k1];have S:(I.drop c.length).length=l.length:=by rw[alJ,<- k3,amu];omega
 have aA:(vs.drop c.length).length=l.length:=by rw[alJ,aq,<- k3,amu];omega
 rcases run_next_at (P:=P) w o.type g.1 b f f seen s f h1 h4 ag.1 (alq _) with⟨aB,F⟩|⟨B,aC,w1,aE,F⟩
 ·refine aP (v := .tuple #[.bool false]) (w':=w) (by simp[execOp,ho,ae,F]) (.inl ⟨?_,?_⟩)
  ·have aF:l=[]:=by
    refine List.eq_nil_iff_forall_not_mem.2 fun i T =>?_;obtain⟨e1,G,q2⟩:=(k5 i).1 T;have:e1∈(leftOf s seen).toList:=by
     unfold leftOf;simp only[Array.toList_filter,amO];exact⟨by simpa using Array.mem_of_getElem? G,by rw[q2];rfl⟩
    have h0:(leftOf s seen).toList.length=0:=by simpa using aB
    rw[amA h0]at this;cases this
   rw[aF]at S;exact amA S
  ·refine bA.eU (h:=EH h) hI (ca (.tup _ [_] rfl fun j x O =>?_))
   match j,O with
   | 0,O=>simp only[List.getElem?_cons_zero,alz]at O;subst O;exact .bool _
   | j+1,O=>simp at O
 ·obtain⟨m1,m2⟩:=mem_left aC;obtain⟨i,T⟩:=alL m1;rw[amw]at T;have aG:i∈l:=(k5 i).2 ⟨B,T,m2⟩;obtain⟨j,O⟩:∃j,j=l.idxOf i:=⟨_,rfl⟩;have aH:j<l.length:=by rw[O];exact List.idxOf_lt_length_of_mem aG
  have aI:l[j]? = some i:=by rw[alE aH];simp[O]
  have au:l.erase i=l.eraseIdx j:=List.erase_eq_eraseIdx_of_idxOf O.symm;have U:(I.drop c.length)[j]? = some ((I.drop c.length)[j]'(by omega)):=alE _;have W:(vs.drop c.length)[j]? = some ((vs.drop c.length)[j]'(by omega)):=alE _;generalize (I.drop c.length)[j]'(by omega)=k at U;generalize (vs.drop c.length)[j]'(by omega)=x at W;have av:∀n:Nat,(c++l)[c.length+n]? = l[n]?:=fun n=>by rw[amj (by omega)];congr 1;omega
  have H:B.key=oL k∧B.val=us (c.length+j):=by
   rw[alP]at U;obtain⟨i',J,G,q2,X,q4⟩:=k7 _ _ U;rw[av,aI]at G;cases G;rw[T]at q2;cases q2;exact⟨X,q4⟩
  have Z:RP w (Own M (EH h) blk) x (us (c.length+j)):=by
   rw[alP]at W;exact k8 _ _ W
  have aw:w1.heap=w.heap∧w1.os=w.os∧w1.tape=w.tape∧w1.output=w.output:=by rcases aE with rfl|rfl<;>exact⟨rfl,rfl,rfl,rfl⟩
  obtain⟨p1,p2,p3,p4⟩:=aw;generalize Y:ChangeMaps.setBlock w1 g.1 (.mapIter (some b) f (seen.push B.born) f)=w' at F;have ax:g.1<w.heap.size:=(ams.1 h1).1;have aj:w'.heap=w.heap.setIfInBounds g.1 (.mapIter (some b) f (seen.push B.born) f):=by rw[<- Y,<- p1];rfl
  have ak:w'.heap.size=w.heap.size:=by rw[aj];simp
  have aa:w'.heap[g.1]? = some (.mapIter (some b) f (seen.push B.born) f):=by rw[aj,ani,if_pos rfl,if_pos ax]
  have hheap:∀Q,Q≠g.1->w'.heap[Q]? = w.heap[Q]?:=fun Q hb=>by rw[aj,ani,if_neg (Ne.symm hb)]
  have ab:Own M (EH h) blk g.1 := .inr ⟨y,_,g,ai,rfl,hg,rfl⟩;have aJ:b≠g.1:=fun e=>h3 (e ▸ ab);have al:∀ {d:D} {u:Value},RP w (Own M (EH h) blk) d u->RP w' (Own M (EH h) blk) d u:=fun hr=>hr.keep fun b G q2=>⟨by rw[ak];exact G,q2,hheap b (fun e=>q2 (e ▸ ab))⟩;have ad:∀ {n:Nat} {J:MapEntry},s[n]? = some J->(J.born==B.born)=decide (n=i):=by
   intro n J A
   by_cases an:n=i
   ·subst an;rw[T]at A;cases A;simp
   ·have:J.born≠B.born:=by
     intro he;have aK:=ag.2.1;have a1:(s.toList.map (·.born))[n]? = some J.born:=by simp[A]
     have a2:(s.toList.map (·.born))[i]? = some B.born:=by simp[T]
     have aL:=(alT.1 a1).1;have aM:=(alT.1 a2).1;exact an ((List.getElem_inj (h₀:=aL) (h₁:=aM) aK).1 (by
      have b1:=(alT.1 a1).2;have b2:=(alT.1 a2).2;rw[b1,b2,he]))
    simp[an,this]
  have hB:=hI.mn (x:=y) (r:=⟨v,ty,[.mpc I vs],false,lst,true⟩) (r0:=⟨v,900001,[.mpc (k::(I.drop c.length).eraseIdx j) (x::(vs.drop c.length).eraseIdx j)],false,lst,true⟩) (w':=w') ai rfl rfl
   (by rw[<- Y];exact p2) (by rw[<- Y];exact p3) (by rw[<- Y];exact p4) (by rw[ak];exact alq _) (fun Q _ hb=>hheap Q (hb g hg)) (by
   rw[hg];refine⟨by simp[World.shape?,aa,h1],.inl ⟨_,_,rfl,?_,fun q=>absurd q (by show ¬(900001<900000);omega),fun _=>⟨ar,b,s,f,seen.push B.born,[i],l.eraseIdx j,fun m=>if m=0 then B.val else us (c.length+(if m-1<j then m-1 else m)),aa,by rw[ak];exact h2,h3,(hheap b aJ).trans h4,ag,(anf (n:=900000) (m:=1)).symm,alq _,?_,?_,fun n =>?_,fun n A =>?_,fun m k' E =>?_,fun m x' E =>?_⟩⟩⟩
   ·simp only[List.length_cons,List.length_eraseIdx];rw[S,aA]
   ·simp only[amu,List.length_cons,List.length_nil,List.length_eraseIdx];rw[S];split<;>omega
   ·rw[<- au];exact k4.erase _
   ·rw[<- au,k4.mem_erase_iff,k5];constructor
    ·rintro⟨G,J,q2,X⟩;exact⟨J,q2,by rw[contains_push,X,ad q2];simpa using G⟩
    ·rintro⟨J,q2,X⟩;rw[contains_push,ad q2,Bool.or_eq_false_iff,decide_eq_false_iff_not]at X;exact⟨X.2,J,q2,X.1⟩
   ·simp only[alM]at A;subst A;exact⟨B,T,by simp⟩
   ·cases m with
    | zero =>
     simp only[List.getElem?_cons_zero,alz]at E;subst E;exact⟨i,B,rfl,T,H.1,by simp⟩
    | succ m =>
     rw[amq,List.getElem?_eraseIdx]at E;have K:(I.drop c.length)[if m<j then m else m+1]? = some k':=by
      by_cases C:m<j
      ·rw[if_pos C]at E ⊢;exact E
      ·rw[if_neg C]at E ⊢;exact E
     rw[alP]at K;obtain⟨i',J,G,q2,X,q4⟩:=k7 _ _ K;rw[av]at G;refine⟨i',J,?_,q2,X,?_⟩
     ·rw[List.singleton_append,amq,List.getElem?_eraseIdx]
      by_cases C:m<j
      ·rw[if_pos C]at G ⊢;exact G
      ·rw[if_neg C]at G ⊢;exact G
     ·simp only[Nat.add_eq_zero_iff,anl,and_false,if_false,amZ];exact q4
   ·cases m with
    | zero =>
     simp only[List.getElem?_cons_zero,alz]at E;subst E;simp only[if_true];rw[H.2];exact al Z
    | succ m =>
     rw[amq,List.getElem?_eraseIdx]at E;have K:(vs.drop c.length)[if m<j then m else m+1]? = some x':=by
      by_cases C:m<j
      ·rw[if_pos C]at E ⊢;exact E
      ·rw[if_neg C]at E ⊢;exact E
     rw[alP]at K;simp only[Nat.add_eq_zero_iff,anl,and_false,if_false,amZ];exact al (k8 _ _ K)) (fun hh=>by cases hh) (fun _ g' ao j' x' s' n' aN=>by cases j'<;>simp at aN)
  refine aP (v := .tuple #[.bool true,B.key,B.val]) (w':=w') (by simp[execOp,ho,ae,F]) (.inr ⟨j,k,x,U,W,blk,?_,?_⟩)
  ·show Inv _ _ _ _ _ _ _ (EH (cq h y (some _))) _ _;rw[Wi hy R];exact hB.weaken fun _ _ h =>.inl h
  ·have aO:∀Q,Own M (EH (cq h y (some ⟨v,900001,[.mpc (k::(I.drop c.length).eraseIdx j) (x::(vs.drop c.length).eraseIdx j)],false,lst,true⟩))) blk Q->Own M (EH h) blk Q:=by
    rw[Wi hy R];rintro Q (hb|⟨z,r',g',hz,aQ,ao,he⟩)
    ·exact .inl hb
    ·by_cases ay:z=y
     ·subst ay;exact .inr ⟨z,_,g',ai,rfl,ao,he⟩
     ·rw[aD _ _ ay]at hz;exact .inr ⟨z,r',g',hz,aQ,ao,he⟩
   refine ca (.tup _ [.bool true,B.key,B.val] rfl fun n d A =>?_)
   match n,A with
   | 0,A=>simp only[List.getElem?_cons_zero,alz]at A;subst A;exact .bool _
   | 1,A =>
    simp only[List.getElem?_cons_succ,List.getElem?_cons_zero,alz]at A;subst A;simp only[amp,amo];rw[H.1];exact RR k
   | 2,A =>
    simp only[List.getElem?_cons_succ,List.getElem?_cons_zero,alz]at A;subst A;simp only[amp,amo];rw[H.2];exact (al Z).less aO
   | n+3,A=>simp at A
def UD (E:Inv N M L w0 blk V t (EH h) a w) {y v:Nat} {p:Operand} {k:eB} {x:D} {ks:List eB} {vs:List D} {lst:Bool} (J:o.op=.entry p) (K:ev t p=.ptr y v 0) (O:h y=some ⟨v,900001,[.mpc (k::ks) (x::vs)],false,lst,true⟩) (u:y<PK) :
  fm P o a w (lD N M L w0 V t h a e o.dst ⟨.tup [acV k,x],[]⟩):=by
 obtain⟨g,Z,m,F,z,b,q,f,seen,c,l,us,G,h2,h3,Q,A,R,k2,k3,k4,k5,S,T,k8⟩:=E.iter K O (by omega) u;rw[z,alZ]at m;have B:c.length=1:=by rw[R]
 match c,B with
 | [i],_ =>
  obtain⟨r,U,W⟩:=S i (by simp);obtain⟨i',e',H,I,X,r4⟩:=T 0 k rfl;simp only[List.singleton_append,List.getElem?_cons_zero,alz]at H;subst H;rw[U]at I;cases I;obtain⟨Y,C⟩:=Array.back?_eq_some_iff.1 W;rw[C]at G;have s:=run_entry_at (P:=P) w g.1 b f Y q f r G Q (by grind) A.2.1;refine aP (v := .tuple #[r.key,r.val]) (w':=w) (by simp[execOp,J,m,s]) (bA.eU (h:=EH h) E (ca (.tup _ [r.key,r.val] rfl fun n d j =>?_)))
  match n,j with
  | 0,j =>
   simp only[List.getElem?_cons_zero,alz]at j;subst j;simp only[amo];rw[X];exact RR k
  | 1,j =>
   simp_all
  | n+2,j=>simp at j
end
def tab (t:Nat):Option Ty :=
 match t with
 | 2=>some ⟨.int .i64,1,8,[.int .i64 0],false⟩
 | 3=>some ⟨.int .i64,1,8,[.int .i64 0],false⟩
 | 4=>some ⟨.bool,1,1,[.bool false],false⟩
 | 5=>some ⟨.int .u8,1,1,[.int .u8 0],false⟩
 | 9=>some ⟨.str,1,16,[.string ⟨#[]⟩],false⟩
 | 12=>some ⟨.int .u64,1,8,[.int .u64 0],false⟩
 | 21=>some ⟨.int .i32,1,4,[.int .i32 0],false⟩
 | 22=>some ⟨.slice 3,1,24,[.slice none 0 0],false⟩
 | 23=>some ⟨.slice 57,1,24,[.slice none 0 0],false⟩
 | 24=>some ⟨.struct [(22,0),(23,1)],2,48,[.slice none 0 0,.slice none 0 0],false⟩
 | 25=>some ⟨.struct [(22,0),(23,1)],2,48,[.slice none 0 0,.slice none 0 0],false⟩
 | 26=>some ⟨.slice 27,1,24,[.slice none 0 0],false⟩
 | 27=>some ⟨.slice 41,1,24,[.slice none 0 0],false⟩
 | 31=>some ⟨.int .i64,1,8,[.int .i64 0],false⟩
 | 38=>some ⟨.struct [(3,0),(22,1)],2,32,[.int .i64 0,.slice none 0 0],false⟩
 | 39=>some ⟨.struct [(3,0),(22,1)],2,32,[.int .i64 0,.slice none 0 0],false⟩
 | 40=>some ⟨.struct [(39,0),(39,2)],4,64,[.int .i64 0,.slice none 0 0,.int .i64 0,.slice none 0 0],false⟩
 | 41=>some ⟨.struct [(39,0),(39,2)],4,64,[.int .i64 0,.slice none 0 0,.int .i64 0,.slice none 0 0],false⟩
 | 51=>some ⟨.slice 83,1,24,[.slice none 0 0],false⟩
 | 52=>some ⟨.slice 60,1,24,[.slice none 0 0],false⟩
 | 53=>some ⟨.struct [(51,0),(52,1),(26,2)],3,72,[.slice none 0 0,.slice none 0 0,.slice none 0 0],false⟩
 | 54=>some ⟨.struct [(51,0),(52,1),(26,2)],3,72,[.slice none 0 0,.slice none 0 0,.slice none 0 0],false⟩
 | 55=>some ⟨.slice 72,1,24,[.slice none 0 0],false⟩
 | 56=>some ⟨.struct [(54,0),(55,3),(22,4)],5,120,[.slice none 0 0,.slice none 0 0,.slice none 0 0,.slice none 0 0,.slice none 0 0],false⟩
 | 57=>some ⟨.struct [(54,0),(55,3),(22,4)],5,120,[.slice none 0 0,.slice none 0 0,.slice none 0 0,.slice none 0 0,.slice none 0 0],false⟩
 | 59=>some ⟨.struct [(3,0),(3,1),(3,2),(9,3)],4,40,[.int .i64 0,.int .i64 0,.int .i64 0,.string ⟨#[]⟩],true⟩
 | 60=>some ⟨.struct [(3,0),(3,1),(3,2),(9,3)],4,40,[.int .i64 0,.int .i64 0,.int .i64 0,.string ⟨#[]⟩],true⟩
 | 63=>some ⟨.int .u16,1,2,[.int .u16 0],false⟩
 | 64=>some ⟨.slice 118,1,24,[.slice none 0 0],false⟩
 | 65=>some ⟨.struct [(3,0),(64,1)],2,32,[.int .i64 0,.slice none 0 0],false⟩
 | 66=>some ⟨.struct [(3,0),(64,1)],2,32,[.int .i64 0,.slice none 0 0],false⟩
 | 69=>some ⟨.slice 4,1,24,[.slice none 0 0],false⟩
 | 71=>some ⟨.struct [(3,0),(3,1)],2,16,[.int .i64 0,.int .i64 0],true⟩
 | 72=>some ⟨.struct [(3,0),(3,1)],2,16,[.int .i64 0,.int .i64 0],true⟩
 | 77=>some ⟨.slice 133,1,24,[.slice none 0 0],false⟩
 | 82=>some ⟨.struct [(3,0),(3,1),(3,2)],3,24,[.int .i64 0,.int .i64 0,.int .i64 0],true⟩
 | 83=>some ⟨.struct [(3,0),(3,1),(3,2)],3,24,[.int .i64 0,.int .i64 0,.int .i64 0],true⟩
 | 113=>some ⟨.map 116 41,1,8,[.map none],false⟩
 | 115=>some ⟨.struct [(3,0),(3,1)],2,16,[.int .i64 0,.int .i64 0],true⟩
 | 116=>some ⟨.struct [(3,0),(3,1)],2,16,[.int .i64 0,.int .i64 0],true⟩
 | 117=>some ⟨.struct [(3,0),(3,1),(41,2)],6,80,[.int .i64 0,.int .i64 0,.int .i64 0,.slice none 0 0,.int .i64 0,.slice none 0 0],false⟩
 | 118=>some ⟨.struct [(3,0),(3,1),(41,2)],6,80,[.int .i64 0,.int .i64 0,.int .i64 0,.slice none 0 0,.int .i64 0,.slice none 0 0],false⟩
 | 124=>some ⟨.slice 128,1,24,[.slice none 0 0],false⟩
 | 126=>some ⟨.slice 130,1,24,[.slice none 0 0],false⟩
 | 127=>some ⟨.struct [(41,0),(126,4)],5,88,[.int .i64 0,.slice none 0 0,.int .i64 0,.slice none 0 0,.slice none 0 0],false⟩
 | 128=>some ⟨.struct [(41,0),(126,4)],5,88,[.int .i64 0,.slice none 0 0,.int .i64 0,.slice none 0 0,.slice none 0 0],false⟩
 | 129=>some ⟨.struct [(3,0),(41,1)],5,72,[.int .i64 0,.int .i64 0,.slice none 0 0,.int .i64 0,.slice none 0 0],false⟩
 | 130=>some ⟨.struct [(3,0),(41,1)],5,72,[.int .i64 0,.int .i64 0,.slice none 0 0,.int .i64 0,.slice none 0 0],false⟩
 | 132=>some ⟨.struct [(3,0),(41,1)],5,72,[.int .i64 0,.int .i64 0,.slice none 0 0,.int .i64 0,.slice none 0 0],false⟩
 | 133=>some ⟨.struct [(3,0),(41,1)],5,72,[.int .i64 0,.int .i64 0,.slice none 0 0,.int .i64 0,.slice none 0 0],false⟩
 | 152=>some ⟨.int .u64,1,8,[.int .u64 0],false⟩
 | 153=>some ⟨.int .u64,1,8,[.int .u64 0],false⟩
 | 183=>some ⟨.int .i64,1,8,[.int .i64 0],false⟩
 | 190=>some ⟨.int .u32,1,4,[.int .u32 0],false⟩
 | 199=>some ⟨.slice 22,1,24,[.slice none 0 0],false⟩
 | 207=>some ⟨.int .u64,1,8,[.int .u64 0],false⟩
 | _=>none
def TT:tab 3=some ⟨.int .i64,1,8,[.int .i64 0],false⟩:=rfl
def ag1:tab 5=some ⟨.int .u8,1,1,[.int .u8 0],false⟩:=rfl
def aee:tab 9=some ⟨.str,1,16,[.string ⟨#[]⟩],false⟩:=rfl
def Pk:tab 22=some ⟨.slice 3,1,24,[.slice none 0 0],false⟩:=rfl
def ad7:tab 23=some ⟨.slice 57,1,24,[.slice none 0 0],false⟩:=rfl
def ad8:tab 25=some ⟨.struct [(22,0),(23,1)],2,48,[.slice none 0 0,.slice none 0 0],false⟩:=rfl
def VQ:tab 26=some ⟨.slice 27,1,24,[.slice none 0 0],false⟩:=rfl
def JC:tab 27=some ⟨.slice 41,1,24,[.slice none 0 0],false⟩:=rfl
def VR:tab 39=some ⟨.struct [(3,0),(22,1)],2,32,[.int .i64 0,.slice none 0 0],false⟩:=rfl
def Pm:tab 41=some ⟨.struct [(39,0),(39,2)],4,64,[.int .i64 0,.slice none 0 0,.int .i64 0,.slice none 0 0],false⟩:=rfl
def VS:tab 51=some ⟨.slice 83,1,24,[.slice none 0 0],false⟩:=rfl
def VT:tab 52=some ⟨.slice 60,1,24,[.slice none 0 0],false⟩:=rfl
def Pn:tab 54=some ⟨.struct [(51,0),(52,1),(26,2)],3,72,[.slice none 0 0,.slice none 0 0,.slice none 0 0],false⟩:=rfl
def ad9:tab 55=some ⟨.slice 72,1,24,[.slice none 0 0],false⟩:=rfl
def aea:tab 57=some ⟨.struct [(54,0),(55,3),(22,4)],5,120,[.slice none 0 0,.slice none 0 0,.slice none 0 0,.slice none 0 0,.slice none 0 0],false⟩:=rfl
def Po:tab 60=some ⟨.struct [(3,0),(3,1),(3,2),(9,3)],4,40,[.int .i64 0,.int .i64 0,.int .i64 0,.string ⟨#[]⟩],true⟩:=rfl
def aeb:tab 64=some ⟨.slice 118,1,24,[.slice none 0 0],false⟩:=rfl
def aec:tab 66=some ⟨.struct [(3,0),(64,1)],2,32,[.int .i64 0,.slice none 0 0],false⟩:=rfl
def aed:tab 72=some ⟨.struct [(3,0),(3,1)],2,16,[.int .i64 0,.int .i64 0],true⟩:=rfl
def Pp:tab 77=some ⟨.slice 133,1,24,[.slice none 0 0],false⟩:=rfl
def Pq:tab 83=some ⟨.struct [(3,0),(3,1),(3,2)],3,24,[.int .i64 0,.int .i64 0,.int .i64 0],true⟩:=rfl
def Yv:tab 113=some ⟨.map 116 41,1,8,[.map none],false⟩:=rfl
def Yw:tab 116=some ⟨.struct [(3,0),(3,1)],2,16,[.int .i64 0,.int .i64 0],true⟩:=rfl
def Yx:tab 118=some ⟨.struct [(3,0),(3,1),(41,2)],6,80,[.int .i64 0,.int .i64 0,.int .i64 0,.slice none 0 0,.int .i64 0,.slice none 0 0],false⟩:=rfl
def Yy:tab 124=some ⟨.slice 128,1,24,[.slice none 0 0],false⟩:=rfl
def Yz:tab 126=some ⟨.slice 130,1,24,[.slice none 0 0],false⟩:=rfl
def Pj:tab 128=some ⟨.struct [(41,0),(126,4)],5,88,[.int .i64 0,.slice none 0 0,.int .i64 0,.slice none 0 0,.slice none 0 0],false⟩:=rfl
def YA:tab 130=some ⟨.struct [(3,0),(41,1)],5,72,[.int .i64 0,.int .i64 0,.slice none 0 0,.int .i64 0,.slice none 0 0],false⟩:=rfl
def Gv:tab 133=some ⟨.struct [(3,0),(41,1)],5,72,[.int .i64 0,.int .i64 0,.slice none 0 0,.int .i64 0,.slice none 0 0],false⟩:=rfl
def YB:tab 152=some ⟨.int .u64,1,8,[.int .u64 0],false⟩:=rfl
def YC:tab 153=some ⟨.int .u64,1,8,[.int .u64 0],false⟩:=rfl
def YD:tab 190=some ⟨.int .u32,1,4,[.int .u32 0],false⟩:=rfl
def YE:tab 199=some ⟨.slice 22,1,24,[.slice none 0 0],false⟩:=rfl
def akN:eS prog 2 ⟨.int .i64,1,8,[.int .i64 0],false⟩:=⟨by kernel_rfl,by kernel_rfl,by kernel_rfl,fun h=>by cases h⟩
def akO:eS prog 3 ⟨.int .i64,1,8,[.int .i64 0],false⟩:=⟨by kernel_rfl,by kernel_rfl,by kernel_rfl,fun h=>by cases h⟩
def akP:eS prog 4 ⟨.bool,1,1,[.bool false],false⟩:=⟨by kernel_rfl,by kernel_rfl,by kernel_rfl,fun h=>by cases h⟩
def akQ:eS prog 5 ⟨.int .u8,1,1,[.int .u8 0],false⟩:=⟨by kernel_rfl,by kernel_rfl,by kernel_rfl,fun h=>by cases h⟩
def akR:eS prog 9 ⟨.str,1,16,[.string ⟨#[]⟩],false⟩:=⟨by kernel_rfl,by kernel_rfl,by kernel_rfl,fun h=>by cases h⟩
def ajC:eS prog 12 ⟨.int .u64,1,8,[.int .u64 0],false⟩:=⟨by kernel_rfl,by kernel_rfl,by kernel_rfl,fun h=>by cases h⟩
def ajD:eS prog 21 ⟨.int .i32,1,4,[.int .i32 0],false⟩:=⟨by kernel_rfl,by kernel_rfl,by kernel_rfl,fun h=>by cases h⟩
def ajE:eS prog 22 ⟨.slice 3,1,24,[.slice none 0 0],false⟩:=⟨by kernel_rfl,by kernel_rfl,by kernel_rfl,fun h=>by cases h⟩
def ajF:eS prog 23 ⟨.slice 57,1,24,[.slice none 0 0],false⟩:=⟨by kernel_rfl,by kernel_rfl,by kernel_rfl,fun h=>by cases h⟩
def ajG:eS prog 24 ⟨.struct [(22,0),(23,1)],2,48,[.slice none 0 0,.slice none 0 0],false⟩:=⟨by kernel_rfl,by kernel_rfl,by kernel_rfl,fun h=>by cases h⟩
def ajH:eS prog 25 ⟨.struct [(22,0),(23,1)],2,48,[.slice none 0 0,.slice none 0 0],false⟩:=⟨by kernel_rfl,by kernel_rfl,by kernel_rfl,fun h=>by cases h⟩
def ajI:eS prog 26 ⟨.slice 27,1,24,[.slice none 0 0],false⟩:=⟨by kernel_rfl,by kernel_rfl,by kernel_rfl,fun h=>by cases h⟩
def ajJ:eS prog 27 ⟨.slice 41,1,24,[.slice none 0 0],false⟩:=⟨by kernel_rfl,by kernel_rfl,by kernel_rfl,fun h=>by cases h⟩
def ajK:eS prog 31 ⟨.int .i64,1,8,[.int .i64 0],false⟩:=⟨by kernel_rfl,by kernel_rfl,by kernel_rfl,fun h=>by cases h⟩
def ajL:eS prog 38 ⟨.struct [(3,0),(22,1)],2,32,[.int .i64 0,.slice none 0 0],false⟩:=⟨by kernel_rfl,by kernel_rfl,by kernel_rfl,fun h=>by cases h⟩
def ajM:eS prog 39 ⟨.struct [(3,0),(22,1)],2,32,[.int .i64 0,.slice none 0 0],false⟩:=⟨by kernel_rfl,by kernel_rfl,by kernel_rfl,fun h=>by cases h⟩
def ajN:eS prog 40 ⟨.struct [(39,0),(39,2)],4,64,[.int .i64 0,.slice none 0 0,.int .i64 0,.slice none 0 0],false⟩:=⟨by kernel_rfl,by kernel_rfl,by kernel_rfl,fun h=>by cases h⟩
def ajO:eS prog 41 ⟨.struct [(39,0),(39,2)],4,64,[.int .i64 0,.slice none 0 0,.int .i64 0,.slice none 0 0],false⟩:=⟨by kernel_rfl,by kernel_rfl,by kernel_rfl,fun h=>by cases h⟩
def ajP:eS prog 51 ⟨.slice 83,1,24,[.slice none 0 0],false⟩:=⟨by kernel_rfl,by kernel_rfl,by kernel_rfl,fun h=>by cases h⟩
def ajQ:eS prog 52 ⟨.slice 60,1,24,[.slice none 0 0],false⟩:=⟨by kernel_rfl,by kernel_rfl,by kernel_rfl,fun h=>by cases h⟩
def ajR:eS prog 53 ⟨.struct [(51,0),(52,1),(26,2)],3,72,[.slice none 0 0,.slice none 0 0,.slice none 0 0],false⟩:=⟨by kernel_rfl,by kernel_rfl,by kernel_rfl,fun h=>by cases h⟩
def ajS:eS prog 54 ⟨.struct [(51,0),(52,1),(26,2)],3,72,[.slice none 0 0,.slice none 0 0,.slice none 0 0],false⟩:=⟨by kernel_rfl,by kernel_rfl,by kernel_rfl,fun h=>by cases h⟩
def ajT:eS prog 55 ⟨.slice 72,1,24,[.slice none 0 0],false⟩:=⟨by kernel_rfl,by kernel_rfl,by kernel_rfl,fun h=>by cases h⟩
def ajU:eS prog 56 ⟨.struct [(54,0),(55,3),(22,4)],5,120,[.slice none 0 0,.slice none 0 0,.slice none 0 0,.slice none 0 0,.slice none 0 0],false⟩:=⟨by kernel_rfl,by kernel_rfl,by kernel_rfl,fun h=>by cases h⟩
def ajV:eS prog 57 ⟨.struct [(54,0),(55,3),(22,4)],5,120,[.slice none 0 0,.slice none 0 0,.slice none 0 0,.slice none 0 0,.slice none 0 0],false⟩:=⟨by kernel_rfl,by kernel_rfl,by kernel_rfl,fun h=>by cases h⟩
def ajW:eS prog 59 ⟨.struct [(3,0),(3,1),(3,2),(9,3)],4,40,[.int .i64 0,.int .i64 0,.int .i64 0,.string ⟨#[]⟩],true⟩:=⟨by kernel_rfl,by kernel_rfl,by kernel_rfl,fun _=>⟨by kernel_rfl,by kernel_rfl,by kernel_rfl⟩⟩
def ajX:eS prog 60 ⟨.struct [(3,0),(3,1),(3,2),(9,3)],4,40,[.int .i64 0,.int .i64 0,.int .i64 0,.string ⟨#[]⟩],true⟩:=⟨by kernel_rfl,by kernel_rfl,by kernel_rfl,fun _=>⟨by kernel_rfl,by kernel_rfl,by kernel_rfl⟩⟩
def ajY:eS prog 63 ⟨.int .u16,1,2,[.int .u16 0],false⟩:=⟨by kernel_rfl,by kernel_rfl,by kernel_rfl,fun h=>by cases h⟩
def ajZ:eS prog 64 ⟨.slice 118,1,24,[.slice none 0 0],false⟩:=⟨by kernel_rfl,by kernel_rfl,by kernel_rfl,fun h=>by cases h⟩
def aj0:eS prog 65 ⟨.struct [(3,0),(64,1)],2,32,[.int .i64 0,.slice none 0 0],false⟩:=⟨by kernel_rfl,by kernel_rfl,by kernel_rfl,fun h=>by cases h⟩
def aj1:eS prog 66 ⟨.struct [(3,0),(64,1)],2,32,[.int .i64 0,.slice none 0 0],false⟩:=⟨by kernel_rfl,by kernel_rfl,by kernel_rfl,fun h=>by cases h⟩
def aj2:eS prog 69 ⟨.slice 4,1,24,[.slice none 0 0],false⟩:=⟨by kernel_rfl,by kernel_rfl,by kernel_rfl,fun h=>by cases h⟩
def aj3:eS prog 71 ⟨.struct [(3,0),(3,1)],2,16,[.int .i64 0,.int .i64 0],true⟩:=⟨by kernel_rfl,by kernel_rfl,by kernel_rfl,fun _=>⟨by kernel_rfl,by kernel_rfl,by kernel_rfl⟩⟩
def aj4:eS prog 72 ⟨.struct [(3,0),(3,1)],2,16,[.int .i64 0,.int .i64 0],true⟩:=⟨by kernel_rfl,by kernel_rfl,by kernel_rfl,fun _=>⟨by kernel_rfl,by kernel_rfl,by kernel_rfl⟩⟩
def aj5:eS prog 77 ⟨.slice 133,1,24,[.slice none 0 0],false⟩:=⟨by kernel_rfl,by kernel_rfl,by kernel_rfl,fun h=>by cases h⟩
def aj6:eS prog 82 ⟨.struct [(3,0),(3,1),(3,2)],3,24,[.int .i64 0,.int .i64 0,.int .i64 0],true⟩:=⟨by kernel_rfl,by kernel_rfl,by kernel_rfl,fun _=>⟨by kernel_rfl,by kernel_rfl,by kernel_rfl⟩⟩
def aj7:eS prog 83 ⟨.struct [(3,0),(3,1),(3,2)],3,24,[.int .i64 0,.int .i64 0,.int .i64 0],true⟩:=⟨by kernel_rfl,by kernel_rfl,by kernel_rfl,fun _=>⟨by kernel_rfl,by kernel_rfl,by kernel_rfl⟩⟩
def ah2:eS prog 113 ⟨.map 116 41,1,8,[.map none],false⟩:=⟨by kernel_rfl,by kernel_rfl,by kernel_rfl,fun h=>by cases h⟩
def ah3:eS prog 115 ⟨.struct [(3,0),(3,1)],2,16,[.int .i64 0,.int .i64 0],true⟩:=⟨by kernel_rfl,by kernel_rfl,by kernel_rfl,fun _=>⟨by kernel_rfl,by kernel_rfl,by kernel_rfl⟩⟩
def ah4:eS prog 116 ⟨.struct [(3,0),(3,1)],2,16,[.int .i64 0,.int .i64 0],true⟩:=⟨by kernel_rfl,by kernel_rfl,by kernel_rfl,fun _=>⟨by kernel_rfl,by kernel_rfl,by kernel_rfl⟩⟩
def ah5:eS prog 117 ⟨.struct [(3,0),(3,1),(41,2)],6,80,[.int .i64 0,.int .i64 0,.int .i64 0,.slice none 0 0,.int .i64 0,.slice none 0 0],false⟩:=⟨by kernel_rfl,by kernel_rfl,by kernel_rfl,fun h=>by cases h⟩
def ah6:eS prog 118 ⟨.struct [(3,0),(3,1),(41,2)],6,80,[.int .i64 0,.int .i64 0,.int .i64 0,.slice none 0 0,.int .i64 0,.slice none 0 0],false⟩:=⟨by kernel_rfl,by kernel_rfl,by kernel_rfl,fun h=>by cases h⟩
def ah7:eS prog 124 ⟨.slice 128,1,24,[.slice none 0 0],false⟩:=⟨by kernel_rfl,by kernel_rfl,by kernel_rfl,fun h=>by cases h⟩
def ah8:eS prog 126 ⟨.slice 130,1,24,[.slice none 0 0],false⟩:=⟨by kernel_rfl,by kernel_rfl,by kernel_rfl,fun h=>by cases h⟩
def ah9:eS prog 127 ⟨.struct [(41,0),(126,4)],5,88,[.int .i64 0,.slice none 0 0,.int .i64 0,.slice none 0 0,.slice none 0 0],false⟩:=⟨by kernel_rfl,by kernel_rfl,by kernel_rfl,fun h=>by cases h⟩
def aia:eS prog 128 ⟨.struct [(41,0),(126,4)],5,88,[.int .i64 0,.slice none 0 0,.int .i64 0,.slice none 0 0,.slice none 0 0],false⟩:=⟨by kernel_rfl,by kernel_rfl,by kernel_rfl,fun h=>by cases h⟩
def aib:eS prog 129 ⟨.struct [(3,0),(41,1)],5,72,[.int .i64 0,.int .i64 0,.slice none 0 0,.int .i64 0,.slice none 0 0],false⟩:=⟨by kernel_rfl,by kernel_rfl,by kernel_rfl,fun h=>by cases h⟩
def aic:eS prog 130 ⟨.struct [(3,0),(41,1)],5,72,[.int .i64 0,.int .i64 0,.slice none 0 0,.int .i64 0,.slice none 0 0],false⟩:=⟨by kernel_rfl,by kernel_rfl,by kernel_rfl,fun h=>by cases h⟩
def aid:eS prog 132 ⟨.struct [(3,0),(41,1)],5,72,[.int .i64 0,.int .i64 0,.slice none 0 0,.int .i64 0,.slice none 0 0],false⟩:=⟨by kernel_rfl,by kernel_rfl,by kernel_rfl,fun h=>by cases h⟩
def aie:eS prog 133 ⟨.struct [(3,0),(41,1)],5,72,[.int .i64 0,.int .i64 0,.slice none 0 0,.int .i64 0,.slice none 0 0],false⟩:=⟨by kernel_rfl,by kernel_rfl,by kernel_rfl,fun h=>by cases h⟩
def aif:eS prog 152 ⟨.int .u64,1,8,[.int .u64 0],false⟩:=⟨by kernel_rfl,by kernel_rfl,by kernel_rfl,fun h=>by cases h⟩
def aih:eS prog 153 ⟨.int .u64,1,8,[.int .u64 0],false⟩:=⟨by kernel_rfl,by kernel_rfl,by kernel_rfl,fun h=>by cases h⟩
def aii:eS prog 183 ⟨.int .i64,1,8,[.int .i64 0],false⟩:=⟨by kernel_rfl,by kernel_rfl,by kernel_rfl,fun h=>by cases h⟩
def aij:eS prog 190 ⟨.int .u32,1,4,[.int .u32 0],false⟩:=⟨by kernel_rfl,by kernel_rfl,by kernel_rfl,fun h=>by cases h⟩
def aik:eS prog 199 ⟨.slice 22,1,24,[.slice none 0 0],false⟩:=⟨by kernel_rfl,by kernel_rfl,by kernel_rfl,fun h=>by cases h⟩
def ail:eS prog 207 ⟨.int .u64,1,8,[.int .u64 0],false⟩:=⟨by kernel_rfl,by kernel_rfl,by kernel_rfl,fun h=>by cases h⟩
def tok:ke prog tab:=by
 intro t τ h;unfold tab at h;split at h
 ·cases h;exact akN
 ·cases h;exact akO
 ·cases h;exact akP
 ·cases h;exact akQ
 ·cases h;exact akR
 ·cases h;exact ajC
 ·cases h;exact ajD
 ·cases h;exact ajE
 ·cases h;exact ajF
 ·cases h;exact ajG
 ·cases h;exact ajH
 ·cases h;exact ajI
 ·cases h;exact ajJ
 ·cases h;exact ajK
 ·cases h;exact ajL
 ·cases h;exact ajM
 ·cases h;exact ajN
 ·cases h;exact ajO
 ·cases h;exact ajP
 ·cases h;exact ajQ
 ·cases h;exact ajR
 ·cases h;exact ajS
 ·cases h;exact ajT
 ·cases h;exact ajU
 ·cases h;exact ajV
 ·cases h;exact ajW
 ·cases h;exact ajX
 ·cases h;exact ajY
 ·cases h;exact ajZ
 ·cases h;exact aj0
 ·cases h;exact aj1
 ·cases h;exact aj2
 ·cases h;exact aj3
 ·cases h;exact aj4
 ·cases h;exact aj5
 ·cases h;exact aj6
 ·cases h;exact aj7
 ·cases h;exact ah2
 ·cases h;exact ah3
 ·cases h;exact ah4
 ·cases h;exact ah5
 ·cases h;exact ah6
 ·cases h;exact ah7
 ·cases h;exact ah8
 ·cases h;exact ah9
 ·cases h;exact aia
 ·cases h;exact aib
 ·cases h;exact aic
 ·cases h;exact aid
 ·cases h;exact aie
 ·cases h;exact aif
 ·cases h;exact aih
 ·cases h;exact aii
 ·cases h;exact aij
 ·cases h;exact aik
 ·cases h;exact ail
 ·cases h
def mixed:Tryz.prog.follows .mixedOrders=true:=by kernel_rfl
def wE {α:Type} (x:Option α) (K:α->Prop):Prop :=
 match x with
 | some a=>K a
 | none=>False
def br (b:Bool) (A B:Prop):Prop:=(b=true->A)∧(b=false->B)
def Wc (d:D) (t:Nat->D) (g:Nat) (A B:(Nat->D)->Prop):Prop :=
 match d with
 | .bool b=>br b (A (cq t g (.bool b))) (B (cq t g (.bool b)))
 | _=>False
def wpS (d:D) (t:Nat->D) (g:Nat) (A B S:(Nat->D)->Prop):Prop :=
 match d with
 | .skp=>S t
 | d=>Wc d t g A B
def Dv {t:Nat->D} {g:Nat} {b:Bool} {A B S:(Nat->D)->Prop} : wpS (.bool b) t g A B S=br b (A (cq t g (.bool b))) (B (cq t g (.bool b))):=rfl
def wpG (ops:List Oper) (t:Nat->D) (gd:Option (Nat×Bool)) (A B:(Nat->D)->Prop):Prop :=
 match gd with
 | none=>A t
 | some (j,a)=>wE ((ops[j]?).bind (·.dst)) fun g=>wpS (t g) t g (if a then A else B) (if a then B else A) B
def Ub (T:Nat->Option Ty) (Γ:Env) (e:Nat) (o:Oper) (t:Nat->D) (h:Nat->Option Row) (K:(Nat->D)->cH->Prop):Prop :=
 match o.op with
 | .pick (.tmp c) a b=>Wc (t c) t c (fun t=>K t ⟨ev t a,[]⟩) (fun t=>K t ⟨ev t b,[]⟩)
 | _=>wE (tj T Γ e o (ev t) h) (K t)
def Jm (T:Nat->Option Ty) (Γ:Env) (N e:Nat) (ops:List Oper):List Oper->(Nat->D)->(Nat->Option Row)->((Nat->D)->(Nat->Option Row)->Prop)->Prop
 | [],t,h,K=>K t h
 | o::l,t,h,K=>fits N o.dst=true∧wpG ops t o.guard (fun t=>Ub T Γ e o t h fun t E=>Jm T Γ N e ops l (gg t o.dst E.val) (aZ h E.hw) K) (fun t=>Jm T Γ N e ops l (gg t o.dst .skp) h K)
def runK (T:Nat->Option Ty) (Γ:Env) (N e:Nat) (ops:List Oper):List Oper->(Nat->D)->(Nat->Option Row)->List nA->((Nat->D)->(Nat->Option Row)->List nA->Prop)->Prop
 | [],t,h,fs,K=>K t h fs
 | o::l,t,h,fs,K=>fits N o.dst=true∧wpG ops t o.guard (fun t=>Ub T Γ e o t h fun t E=>runK T Γ N e ops l (gg t o.dst E.val) (aZ h E.hw) (fs++[⟨di o (ev t),E.hw.isEmpty⟩]) K) (fun t=>runK T Γ N e ops l (gg t o.dst .skp) h (fs++[⟨[],true⟩]) K)
abbrev Kt:=Ex->(Nat->D)->(Nat->Option Row)->Nat->Prop
def ajj (x:Ex) (A:Prop) (B:Prop):Prop :=
 match x with
 | .normal=>A
 | _=>B
def abA (id:Nat) (x:Ex) (t:Nat->D) (h:Nat->Option Row) (e:Nat) (K:Kt):Prop :=
 match x with
 | .exit n=>if n=id then K .normal t h e else K (.exit n) t h e
 | x=>K x t h e
def wpR (T:Nat->Option Ty) (Γ:Env) (N:Nat) (ops:Array Oper) (a:Bool) (t:Nat->D) (h:Nat->Option Row) (e:Nat) (K:(Nat->D)->(Nat->Option Row)->Prop):Prop :=
 match a with
 | true=>runK T Γ N e ops.toList ops.toList t h [] fun t h fs=>Hp ops fs=true∧K t h
 | false=>Jm T Γ N e ops.toList ops.toList t h K
def Py (T:Nat->Option Ty) (Γ:Env) (N F:Nat):Code->(Nat->D)->(Nat->Option Row)->Nat->Kt->Prop
 | .skip,t,h,e,K=>K .normal t h e
 | .region _ ops draw,t,h,e,K=>wpR T Γ N ops draw t h e fun t h=>K .normal t h (e+1)
 | .seq a b,t,h,e,K=>Py T Γ N F a t h e fun x t h e=>ajj x (Py T Γ N F b t h e K) (K x t h e)
 | .cond c x y,t,h,e,K =>
  match c with
  | .tmp g=>Wc (t g) t g (fun t=>Py T Γ N F x t h e K) (fun t=>Py T Γ N F y t h e K)
  | .const (.bool true)=>Py T Γ N F x t h e K
  | .const (.bool false)=>Py T Γ N F y t h e K
  | _=>False
 | .block id b,t,h,e,K=>Py T Γ N F b t h e fun x t h e=>abA id x t h e K
 | .loop b,t,h,e,K=>∃x s,iter (iF T Γ N F b) F ⟨t,h,e⟩=some (x,s)∧K x s.t s.h s.e
 | .exit id,t,h,e,K=>K (.exit id) t h e
 | .ret,t,h,e,K=>K .ret t h e
 | _,_,_,_,_=>False
def ahp (a:Mode) (T:Nat->Option Ty) (cc:Option (D×Row)) (rs:List ResultVar) (x:Ex) (t:Nat->D) (h:Nat->Option Row) (e:Nat) (r:RK×Option Row):Prop :=
 match x with
 | .exit _=>False
 | _=>gG a T cc rs ⟨t,EH h,e⟩=some r
def wpf (b:Mode) (T:Nat->Option Ty) (Γ:Env) (F:Nat) (d:Func) (cc:Option (D×Row)) (a:List D) (r:RK×Option Row):Prop :=
 wE d.body fun c=>Py T Γ d.ntmps F c (cP cc a).t (cP cc a).h (cP cc a).e fun x t h e=>ahp b T cc d.results.toList x t h e r
def IK {α:Type} (a:α) (K:α->Prop):wE (some a) K=K a:=rfl
def II {α:Type} {x:Option α} {K:α->Prop} (h:wE x K):∃a,x=some a∧K a:=by
 cases x with
 | none=>exact h.elim
 | some a=>exact⟨a,rfl,h⟩
def V6 {t:Nat->D} {g:Nat} {d:D} (h:t g=d):cq t g d=t:=by
 funext j;unfold cq;split
 ·rename_i e;subst e;exact h.symm
 ·rfl
def aeT (A B:Prop):br true A B=A:=by simp[br]
def abC (A B:Prop):br false A B=B:=by simp[br]
def aeS {b:Bool} {A B:Prop} (h:br b A B):if b then A else B:=by
 cases b with
 | true=>exact h.1 rfl
 | false=>exact h.2 rfl
def aex {t:Nat->D} {g:Nat} {b:Bool} {A B:(Nat->D)->Prop} : Wc (.bool b) t g A B=br b (A (cq t g (.bool b))) (B (cq t g (.bool b))):=rfl
def Dt {t:Nat->D} {g:Nat} {A B:(Nat->D)->Prop} (h:t g=.bool true):Wc (.bool true) t g A B=A t:=by simp[Wc,V6 h,aeT]
def Ax {t:Nat->D} {g:Nat} {A B:(Nat->D)->Prop} (h:t g=.bool false):Wc (.bool false) t g A B=B t:=by simp[Wc,V6 h,abC]
def Dw {t:Nat->D} {g:Nat} {A B S:(Nat->D)->Prop} (h:t g=.bool true):wpS (.bool true) t g A B S=A t:=Dt h
def Ay {t:Nat->D} {g:Nat} {A B S:(Nat->D)->Prop} (h:t g=.bool false):wpS (.bool false) t g A B S=B t:=Ax h
def Wd {t:Nat->D} {g:Nat} {A B:(Nat->D)->Prop} (h:Wc (t g) t g A B):∃b,t g=.bool b∧(if b then A t else B t):=by
 unfold Wc at h;split at h
 ·rename_i b a;rw[V6 a]at h;exact⟨b,a,aeS h⟩
 ·exact h.elim
section
variable {T:Nat->Option Ty} {Γ:Env} {N F e:Nat}
def aeA {ops:Array Oper} {t:Nat->D} {o:Oper} {A B:(Nat->D)->Prop} (h:wpG ops.toList t o.guard A B):∃b,zm ops t o=some b∧(if b then A t else B t):=by
 unfold wpG at h;unfold zm;split at h
 ·rename_i d;try rw[d]
  exact⟨true,rfl,by simpa using h⟩
 ·rename_i j a d;try rw[d]
  obtain⟨g,e,c⟩:=II h;rw[amw]at e;unfold wpS at c;split at c
  ·rename_i f;simp only[e,f];exact⟨false,rfl,c⟩
  ·obtain⟨b,i,k⟩:=Wd c;simp only[e,i];refine⟨_,rfl,?_⟩;cases b<;>cases a<;>simpa using k
def aey {o:Oper} {t:Nat->D} {h:Nat->Option Row} {K:(Nat->D)->cH->Prop} (d:Ub T Γ e o t h K):∃E,tj T Γ e o (ev t) h=some E∧K t E:=by
 unfold Ub at d;split at d
 ·rename_i c a b i;obtain⟨v,f,g⟩:=Wd d;have j:rQ Γ e h o.dst none=none:=by cases o.dst<;>rfl
  cases v with
  | true=>exact⟨⟨ev t a,[]⟩,by unfold tj jy uO;rw[i];simp only[ev,f,or2,nw,jZ,j],by simpa only[if_true] using g⟩
  | false=>exact⟨⟨ev t b,[]⟩,by unfold tj jy uO;rw[i];simp only[ev,f,or2,nw,jZ,j],by simpa only[alY,if_false] using g⟩
 ·obtain⟨E,f,g⟩:=II d;exact⟨E,f,g⟩
def Df {ops:Array Oper} {K:(Nat->D)->(Nat->Option Row)->Prop} : ∀(l:List Oper) (t:Nat->D) (h:Nat->Option Row),Jm T Γ N e ops.toList l t h K->∃a h' fs,Ew T Γ N e ops l t h=some (a,h',fs)∧K a h'
 | [],t,h,hk=>⟨t,h,[],rfl,hk⟩
 | o::l,t,h,hk=>by
  unfold Jm at hk;obtain⟨g,i⟩:=hk;obtain⟨b,j,f⟩:=aeA i;unfold Ew step1;rw[if_pos g,j];cases b with
  | true =>
   obtain⟨E,k,m⟩:=aey (by simpa using f);obtain⟨a,h',fs,c,d⟩:=Df l _ _ m;simp only[k,c];exact⟨_,_,_,rfl,d⟩
  | false =>
   obtain⟨a,h',fs,c,d⟩:=Df l _ _ (by simpa using f);simp only[c];exact⟨_,_,_,rfl,d⟩
def O4 {ops:Array Oper} {K:(Nat->D)->(Nat->Option Row)->List nA->Prop} : ∀(l:List Oper) (t:Nat->D) (h:Nat->Option Row) (f0:List nA),runK T Γ N e ops.toList l t h f0 K->∃a h' fs,Ew T Γ N e ops l t h=some (a,h',fs)∧K a h' (f0++fs)
 | [],t,h,f0,hk=>⟨t,h,[],rfl,by unfold runK at hk;simpa using hk⟩
 | o::l,t,h,f0,hk=>by
  unfold runK at hk;obtain⟨g,i⟩:=hk;obtain⟨b,j,f⟩:=aeA i;unfold Ew step1;rw[if_pos g,j];cases b with
  | true =>
   obtain⟨E,k,m⟩:=aey (by simpa using f);obtain⟨a,h',fs,c,d⟩:=O4 l _ _ _ m;simp only[k,c];exact⟨_,_,_,rfl,by simpa using d⟩
  | false =>
   obtain⟨a,h',fs,c,d⟩:=O4 l _ _ _ (by simpa using f);simp only[c];exact⟨_,_,_,rfl,by simpa using d⟩
def aio {ops:Array Oper} {a:Bool} {t:Nat->D} {h:Nat->Option Row} {K:(Nat->D)->(Nat->Option Row)->Prop} (f:wpR T Γ N ops a t h e K):∃b h',Aw T Γ N ops a ⟨t,h,e⟩=some (.normal,⟨b,h',e+1⟩)∧K b h':=by
 unfold Aw;cases a with
 | false =>
  obtain⟨b,h',fs,d,c⟩:=Df _ _ _ f;simp only[d];exact⟨b,h',by simp,c⟩
 | true =>
  obtain⟨b,h',fs,d,c,g⟩:=O4 _ _ _ _ f;simp only[d];exact⟨b,h',by rw[amU]at c;simp[c],g⟩
def EL:∀(c:Code) (t:Nat->D) (h:Nat->Option Row) (e:Nat) (K:Kt),Py T Γ N F c t h e K->∃x s,iF T Γ N F c ⟨t,h,e⟩=some (x,s)∧K x s.t s.h s.e:=by
 intro c
 induction c with
 | skip=>intro t h e K d;exact⟨_,_,rfl,d⟩
 | region i ops draw =>
  intro t h e K d;obtain⟨z,h',j,f⟩:=aio d;exact⟨_,_,j,f⟩
 | seq a b m o =>
  intro t h e K d;obtain⟨x,s,j,f⟩:=m _ _ _ _ d;simp only[iF,j];cases x with
  | normal =>
   obtain⟨r,u,v,w⟩:=o _ _ _ _ f;exact⟨r,u,v,w⟩
  | exit n=>exact⟨_,_,rfl,f⟩
  | ret=>exact⟨_,_,rfl,f⟩
 | cond c x y k l =>
  intro t h e K d;unfold Py at d;split at d
  ·rename_i g;obtain⟨b,j,f⟩:=Wd d;simp only[iF,ev,j,T7];cases b with
   | true=>exact k _ _ _ _ (by simpa using f)
   | false=>exact l _ _ _ _ (by simpa using f)
  ·simpa only[iF,ev,rH,T7,if_true] using k _ _ _ _ d
  ·simpa only[iF,ev,rH,T7,alY,if_false] using l _ _ _ _ d
  ·exact d.elim
 | block id b q =>
  intro t h e K d;obtain⟨x,s,j,f⟩:=q _ _ _ _ d;simp only[iF,j];cases x with
  | normal=>exact⟨_,_,rfl,f⟩
  | ret=>exact⟨_,_,rfl,f⟩
  | exit n =>
   simp only[Wa];unfold abA at f;simp only at f;split at f
   ·rename_i p;rw[if_pos p];exact⟨_,_,rfl,f⟩
   ·rename_i p;rw[if_neg p];exact⟨_,_,rfl,f⟩
 | loop b q=>intro t h e K d;exact d
 | exit id=>intro t h e K d;exact⟨_,_,rfl,d⟩
 | ret=>intro t h e K d;exact⟨_,_,rfl,d⟩
 | _=>intro t h e K d;exact d.elim
def We {b:Mode} {f:Func} {cc:Option (D×Row)} {a:List D} {r:RK×Option Row} (h:wpf b T Γ F f cc a r) (g:f.ntmps<=PK):jx b T Γ F f cc a=some r:=by
 obtain⟨c,i,j⟩:=II h;obtain⟨x,s,k,e⟩:=EL _ _ _ _ _ j;unfold jx;simp only[i];rw[if_pos g];have l:cP cc a=⟨(cP cc a).t,(cP cc a).h,(cP cc a).e⟩:=rfl;rw[l,k];unfold ahp at e;split at e
 ·exact e.elim
 ·rename_i m;split
  ·rename_i n _ d;cases d;exact (m n rfl).elim
  ·rename_i _ x' o _ d;cases d;exact e
  ·rename_i d;cases d
def YL {α:Type} (f:Nat->α) (i:Nat) (v:α) (j:Nat):cq f i v j=if j=i then v else f j:=an3
def Cj (a:List D) (i:Nat):D:=a.getD i .und
def KQ (d:D) (l:List D):Cj (d::l) 0=d:=an3
def KP (d:D) (l:List D) (i:Nat):Cj (d::l) (i+1)=Cj l i:=an3
def MF (_:Nat):Option Row:=none
end
inductive W where
 | code (c:Code)
 | blk (id:Nat)
section
variable (T:Nat->Option Ty) (Γ:Env) (N F:Nat)
def eh:List W->Kt->Kt
 | [],Q=>Q
 | .code c::ws,Q=>fun x t h e=>ajj x (Py T Γ N F c t h e (eh ws Q)) (eh ws Q x t h e)
 | .blk id::ws,Q=>fun x t h e=>abA id x t h e (eh ws Q)
def nH (ops l:List Oper) (ws:List W) (Q:Kt) (t:Nat->D) (h:Nat->Option Row) (e:Nat):Prop :=
 Jm T Γ N e ops l t h fun t h=>eh T Γ N F ws Q .normal t h (e+1)
def oR (ops l:List Oper) (ws:List W) (Q:Kt) (t:Nat->D) (h:Nat->Option Row) (e:Nat) (fs:List nA):Prop :=
 runK T Γ N e ops l t h fs fun t h fs=>Hp ops.toArray fs=true∧eh T Γ N F ws Q .normal t h (e+1)
def uN (o:Oper) (ops l:List Oper) (ws:List W) (Q:Kt) (t:Nat->D) (h:Nat->Option Row) (e:Nat):Prop :=
 Ub T Γ e o t h fun t E=>nH T Γ N F ops l ws Q (gg t o.dst E.val) (aZ h E.hw) e
def xZ (o:Oper) (ops l:List Oper) (ws:List W) (Q:Kt) (t:Nat->D) (h:Nat->Option Row) (e:Nat) (fs:List nA):Prop :=
 Ub T Γ e o t h fun t E=>oR T Γ N F ops l ws Q (gg t o.dst E.val) (aZ h E.hw) e (fs++[⟨di o (ev t),E.hw.isEmpty⟩])
def AL (d:D) (g:Nat) (a:Bool) (o:Oper) (ops l:List Oper) (ws:List W) (Q:Kt) (t:Nat->D) (h:Nat->Option Row) (e:Nat):Prop :=
 wpS d t g (fun t=>if a then uN T Γ N F o ops l ws Q t h e else nH T Γ N F ops l ws Q (gg t o.dst .skp) h e) (fun t=>if a then nH T Γ N F ops l ws Q (gg t o.dst .skp) h e else uN T Γ N F o ops l ws Q t h e) (fun t=>nH T Γ N F ops l ws Q (gg t o.dst .skp) h e)
def AM (d:D) (g:Nat) (a:Bool) (o:Oper) (ops l:List Oper) (ws:List W) (Q:Kt) (t:Nat->D) (h:Nat->Option Row) (e:Nat) (fs:List nA):Prop :=
 wpS d t g (fun t=>if a then xZ T Γ N F o ops l ws Q t h e fs else oR T Γ N F ops l ws Q (gg t o.dst .skp) h e (fs++[⟨[],true⟩])) (fun t=>if a then oR T Γ N F ops l ws Q (gg t o.dst .skp) h e (fs++[⟨[],true⟩]) else xZ T Γ N F o ops l ws Q t h e fs) (fun t=>oR T Γ N F ops l ws Q (gg t o.dst .skp) h e (fs++[⟨[],true⟩]))
def Jw (x y:Option cH) (dst:Option Nat) (ops l:List Oper) (ws:List W) (Q:Kt) (t:Nat->D) (h:Nat->Option Row) (e:Nat):Prop :=
 wE (or2 h x y) fun E=>nH T Γ N F ops l ws Q (gg t dst E.val) (aZ h E.hw) e
def Jy (x y:Option cH) (dst:Option Nat) (a:List Nat) (ops l:List Oper) (ws:List W) (Q:Kt) (t:Nat->D) (h:Nat->Option Row) (e:Nat) (fs:List nA):Prop :=
 wE (or2 h x y) fun E=>oR T Γ N F ops l ws Q (gg t dst E.val) (aZ h E.hw) e (fs++[⟨a,E.hw.isEmpty⟩])
def EB (x:Option cH) (dst:Option Nat) (ops l:List Oper) (ws:List W) (Q:Kt) (t:Nat->D) (h:Nat->Option Row) (e:Nat):Prop:=Jw T Γ N F x none dst ops l ws Q t h e
def Pc (x:Option cH) (dst:Option Nat) (a:List Nat) (ops l:List Oper) (ws:List W) (Q:Kt) (t:Nat->D) (h:Nat->Option Row) (e:Nat) (fs:List nA):Prop:=Jy T Γ N F x none dst a ops l ws Q t h e fs
def aay (y:Option cH) (dst:Option Nat) (ops l:List Oper) (ws:List W) (Q:Kt) (t:Nat->D) (h:Nat->Option Row) (e:Nat):Prop :=
 wE y fun E=>nH T Γ N F ops l ws Q (gg t dst E.val) (aZ h E.hw) e
def af2 (y:Option cH) (dst:Option Nat) (a:List Nat) (ops l:List Oper) (ws:List W) (Q:Kt) (t:Nat->D) (h:Nat->Option Row) (e:Nat) (fs:List nA):Prop :=
 wE y fun E=>oR T Γ N F ops l ws Q (gg t dst E.val) (aZ h E.hw) e (fs++[⟨a,E.hw.isEmpty⟩])
def Ps (d:D) (g:Nat) (x y:Code) (ws:List W) (Q:Kt) (t:Nat->D) (h:Nat->Option Row) (e:Nat):Prop :=
 Wc d t g (fun t=>eh T Γ N F (.code x::ws) Q .normal t h e) (fun t=>eh T Γ N F (.code y::ws) Q .normal t h e)
def adA (d:D) (g:Nat) (a b:Operand) (dst:Option Nat) (ops l:List Oper) (ws:List W) (Q:Kt) (t:Nat->D) (h:Nat->Option Row) (e:Nat):Prop :=
 Wc d t g (fun t=>nH T Γ N F ops l ws Q (gg t dst (ev t a)) h e) (fun t=>nH T Γ N F ops l ws Q (gg t dst (ev t b)) h e)
def adB (d:D) (g:Nat) (a b:Operand) (dst:Option Nat) (ops l:List Oper) (ws:List W) (Q:Kt) (t:Nat->D) (h:Nat->Option Row) (e:Nat) (fs:List nA):Prop :=
 Wc d t g (fun t=>oR T Γ N F ops l ws Q (gg t dst (ev t a)) h e (fs++[⟨[],true⟩])) (fun t=>oR T Γ N F ops l ws Q (gg t dst (ev t b)) h e (fs++[⟨[],true⟩]))
def Yc (b:Code) (ws:List W) (Q:Kt) (t:Nat->D) (h:Nat->Option Row) (e:Nat):Prop:=Py T Γ N F (.loop b) t h e (eh T Γ N F ws Q)
end
def Mj {n:Nat} (h:n<=1000000):n<=maxLen:=als h (by decide)
def MU {z:List D} : rf 0 z=[]:=an3
def MT {n:Nat} {z:List D} : rf (n+1) z=z++rf n z:=by simp[rf,List.replicate_succ]
def L5 {N:Nat} : fits N none=true:=an3
def L6 {N i:Nat} : fits N (some i)=decide (i<N):=an3
def yX:List Oper->Nat->Nat
 | [],_=>0
 | o::_,0=>o.dst.getD 0
 | _::l,j+1=>yX l j
def CT:List Oper->Nat->Bool
 | [],_=>false
 | o::_,0=>o.dst.isSome
 | _::l,j+1=>CT l j
def Hl:∀(l:List Oper) (j:Nat),CT l j=true->(l[j]?).bind (·.dst)=some (yX l j)
 | [],j,h=>by simp[CT]at h
 | o::l,0,h=>by
  simp only[CT]at h;simp only[List.getElem?_cons_zero,Option.bind_some,yX];cases a:o.dst with
  | none=>simp_all
  | some d=>rfl
 | o::l,j+1,h=>by simpa [yX] using Hl l j h
def Hn {d:Nat} {op:Op} {ty:Nat} {pos:String} {af:Array Edge} {gd:Option (Nat×Bool)} {l:List Oper} : yX (⟨some d,op,ty,pos,af,gd⟩::l) 0=d:=an3
def Hm {o:Oper} {l:List Oper} {j:Nat} : yX (o::l) (j+1)=yX l j:=an3
def Ic {d:Nat} {op:Op} {ty:Nat} {pos:String} {af:Array Edge} {gd:Option (Nat×Bool)} {l:List Oper} : CT (⟨some d,op,ty,pos,af,gd⟩::l) 0=true:=an3
def Ib {o:Oper} {l:List Oper} {j:Nat} : CT (o::l) (j+1)=CT l j:=an3
section
variable {dst:Option Nat} {ty:Nat} {pos:String} {af:Array Edge} {gd:Option (Nat×Bool)} {vs:Operand->D}
def Mw (vs:Operand->D):List Operand->List Nat
 | []=>[]
 | x::l=>nm (vs x)++Mw vs l
def nE (vs:Operand->D):∀l:List Operand,(l.flatMap fun x=>nm (vs x))=Mw vs l
 | []=>Eq.trans rfl rfl
 | x::l=>by rw[List.flatMap_cons,nE vs l];exact Eq.trans rfl rfl
def XW:Mw vs []=[]:=an3
def Sw {x:Operand} {l:List Operand} : Mw vs (x::l)=nm (vs x)++Mw vs l:=an3
def FL {o:BinOp} {a z:Nat} {x y:Operand} : di ⟨dst,.binOp o a x y z,ty,pos,af,gd⟩ vs=(Mw vs [x,y]++dst.toList).map rt:=by rw[<- nE];rfl
def JG {o:UnOp} {a:Nat} {x:Operand} : di ⟨dst,.unOp o a x,ty,pos,af,gd⟩ vs=(Mw vs [x]++dst.toList).map rt:=by rw[<- nE];rfl
def Dn {x:Operand} : di ⟨dst,.assign x,ty,pos,af,gd⟩ vs=(Mw vs [x]++dst.toList).map rt:=by rw[<- nE];rfl
def JF {a:Nat} {x:Operand} : di ⟨dst,.load a x,ty,pos,af,gd⟩ vs=(Mw vs [x]++dst.toList).map rt:=by rw[<- nE];rfl
def FN {a:Nat} {x y:Operand} : di ⟨dst,.store a x y,ty,pos,af,gd⟩ vs=(Mw vs [x,y]++dst.toList).map rt:=by rw[<- nE];rfl
def zO {x:Operand} : di ⟨dst,.nilCheck x,ty,pos,af,gd⟩ vs=(Mw vs [x]++dst.toList).map rt:=by rw[<- nE];rfl
def yh {a i:Nat} {x:Operand} : di ⟨dst,.fieldAddr a x i,ty,pos,af,gd⟩ vs=(Mw vs [x]++dst.toList).map rt:=by rw[<- nE];rfl
def yi {a:Nat} {x i:Operand} : di ⟨dst,.indexAddr a x i,ty,pos,af,gd⟩ vs=(Mw vs [x,i]++dst.toList).map rt:=by rw[<- nE];rfl
def yj {a:Nat} {x y:Operand} : di ⟨dst,.makeSlice a x y,ty,pos,af,gd⟩ vs=(Mw vs [x,y]++dst.toList).map rt:=by rw[<- nE];rfl
def FK {a:Nat} : di ⟨dst,.alloc a,ty,pos,af,gd⟩ vs=(Mw vs []++dst.toList).map rt:=by rw[<- nE];rfl
def A6 {x:Operand} {i:Nat} : di ⟨dst,.extract x i,ty,pos,af,gd⟩ vs=(Mw vs [x]++dst.toList).map rt:=by rw[<- nE];rfl
def FM {b:Nat} {a:List (Nat×Operand)} : di ⟨dst,.build b a.toArray,ty,pos,af,gd⟩ vs=(Mw vs (a.map (·.2))++dst.toList).map rt:=by rw[<- nE];rfl
def wK {b len:Nat} {a:List (Nat×Operand)} : di ⟨dst,.buildSlice b len a.toArray,ty,pos,af,gd⟩ vs=(Mw vs (a.map (·.2))++dst.toList).map rt:=by rw[<- nE];rfl
def JE {x:Operand} {l:List Operand} {a:Array Nat} : di ⟨dst,.call ⟨.value x,l.toArray,a⟩,ty,pos,af,gd⟩ vs=(Mw vs (x::l)++dst.toList).map rt:=by
 rw[<- nE];simp[di,jm,Op.operands,Call.operands]
def A5 {x:Builtin} {l:List Operand} {a:Array Nat} : di ⟨dst,.call ⟨.builtin x,l.toArray,a⟩,ty,pos,af,gd⟩ vs=(Mw vs l++dst.toList).map rt:=by
 rw[<- nE];simp[di,jm,Op.operands,Call.operands]
end
section
variable {T:Nat->Option Ty} {ty e:Nat} {dst:Option Nat} {h:Nat->Option Row}
def WE {k:IntKind} {n:Int} : dH T ty e dst h (.int k n)=some ⟨.int k n,[]⟩:=an3
def PT {b:Bool} : dH T ty e dst h (.bool b)=some ⟨.bool b,[]⟩:=an3
def abz {a:Bool} {n:Nat} {xs:List D} : dH T ty e dst h (.sl false a n xs)=some ⟨.sl false a n xs,[]⟩:=an3
def WH {x v o:Nat} : dH T ty e dst h (.ptr x v o)=some ⟨.ptr x v o,[]⟩:=an3
def aby {x v:Nat} : dH T ty e dst h (.mp x v)=some ⟨.mp x v,[]⟩:=an3
def Gk {f a:Nat} {xs:List D} : dH T ty e dst h (.clo f a xs)=some ⟨.clo f a xs,[]⟩:=an3
def ahd (b:Bool) (T:Nat->Option Ty) (ty e d:Nat) (h:Nat->Option Row) (x:D):Option cH:=if b then dH T ty e (some d) h x else pO h x
def KV {d:Nat} {x:D} : ahd true T ty e d h x=dH T ty e (some d) h x:=an3
def GV {d:Nat} {x:D} : ahd false T ty e d h x=pO h x:=an3
def agq {q:Nat->Bool} {d:Nat} {x:D} : vF T q ty e (some d) h x=ahd (q d) T ty e d h x:=an3
def abj {a b:Bool} {n:Nat} {xs:List D} : pO h (.sl a b n xs)=some ⟨.sl false false n xs,[]⟩:=an3
def aeP (e d y s o n:Nat) (r:Row):Bool->Option cH
 | true=>some ⟨.buf y r.v s o n,[]⟩
 | false=>some ⟨.buf d e s o n,[(y,none),(d,some { r with v:=e })]⟩
def GU {d y s o n:Nat} {r:Row} : aeP e d y s o n r false=some ⟨.buf d e s o n,[(y,none),(d,some { r with v:=e })]⟩:=an3
def ahc (y v s o n:Nat):Option Row->Option cH
 | some _=>some ⟨.buf y v s o n,[]⟩
 | none=>some ⟨.und,[]⟩
def KR {y v s o n:Nat} {r:Row} : ahc y v s o n (some r)=some ⟨.buf y v s o n,[]⟩:=an3
def abx (e:Nat) (dst:Option Nat) (y s o n:Nat) (w:Option cH):Option Row->Option cH
 | some r=>match dst with|some d=>aeP e d y s o n r r.fz|none=>w
 | none=>w
def KT {d y s o n:Nat} {r:Row} {w:Option cH} : abx e (some d) y s o n w (some r)=aeP e d y s o n r r.fz:=an3
def KS {d y s o n:Nat} {w:Option cH} : abx e (some d) y s o n w none=w:=an3
def WD {d y v s o n:Nat} : dH T ty e (some d) h (.buf y v s o n)=abx e (some d) y s o n (ahc y v s o n (rY h y v)) (live h y v):=by
 simp only[dH];cases a:live h y v with
 | none=>simp only[abx];cases rY h y v<;>simp[ahc]
 | some r =>
  obtain⟨_,b⟩:=cX a;simp only[abx];cases c:r.fz<;>simp[aeP,b,c]
def aeQ (e:Nat) (dst:Option Nat) (T:Nat->Option Ty):Option Ty->Option cH
 | some τ =>
  match dst with
  | some d=>match τ.ds with
   | .slice el=>match T el with|some φ=>some ⟨.buf d e φ.size 0 0,[(d,some ⟨e,el,[],false,true,false⟩)]⟩|none=>none
   | _=>none
  | none=>none
 | none=>none
def KU {d el b c:Nat} {z:List Value} {q:Bool} {φ:Ty} (a:T el=some φ):aeQ e (some d) T (some ⟨.slice el,b,c,z,q⟩)=some ⟨.buf d e φ.size 0 0,[(d,some ⟨e,el,[],false,true,false⟩)]⟩:=by simp only[aeQ,a]
def WG:dH T ty e dst h (.sl true true 0 [])=aeQ e dst T (T ty):=by
 unfold dH aeQ;grind
end
def okD (x:Option D):Option cH:=match x with|some d=>some ⟨d,[]⟩|none=>none
def SL (d:D):okD (some d)=some ⟨d,[]⟩:=an3
def I5 (x:Option Ty) (f:Ty->Option cH):Option cH:=match x with|some τ=>f τ|none=>none
def SY (τ:Ty) (f:Ty->Option cH):I5 (some τ) f=f τ:=an3
def aiK (x:Option (List D×List Nat)) (h:Nat->Option Row) (ty d e:Nat):Option cH :=
 match x with
 | some (cs,fr)=>if fr.contains d=false then some ⟨.ptr d e 0,lh h fr++[(d,some ⟨e,ty,cs,false,false,false⟩)]⟩ else none
 | none=>none
def KY (cs:List D) (fr:List Nat) (h:Nat->Option Row) (ty d e:Nat):aiK (some (cs,fr)) h ty d e=if fr.contains d=false then some ⟨.ptr d e 0,lh h fr++[(d,some ⟨e,ty,cs,false,false,false⟩)]⟩ else none:=an3
def ahO (d e:Nat):Option Nat->D
 | some y =>.pm d e y
 | none =>.ptr d e 0
def MO {d e:Nat} : ahO d e none=.ptr d e 0:=an3
def GQ (x:Option Ty) (ty d e:Nat) (y:Option Nat):Option cH :=
 match x with
 | some τ=>if (τ.zero.map rH).all bE then some ⟨ahO d e y,[(d,some ⟨e,ty,τ.zero.map rH,false,false,false⟩)]⟩ else none
 | none=>none
def ER (τ:Ty) (ty d e:Nat) (y:Option Nat):GQ (some τ) ty d e y=if (τ.zero.map rH).all bE then some ⟨ahO d e y,[(d,some ⟨e,ty,τ.zero.map rH,false,false,false⟩)]⟩ else none:=an3
def ado (T:Nat->Option Ty) (x:Option Ty) (ty e d:Nat):Option cH:=match x with|some τ=>qL T ty τ e d|none=>none
def adp {T:Nat->Option Ty} {τ φ:Ty} {b:Bool} {ty e d:Nat} (a:Iw T τ=some (b,φ)) (c:ty<900000):ado T (some τ) ty e d=some ⟨.mp d e,[(d,some ⟨e,ty,[.mpc [] []],false,true,true⟩)]⟩:=by simp only[ado,qL,a];simp_all
def agr (x y:Option Ty) (d:D):Option cH :=
 match x,y,d with
 | some τ,some _,.int _ n=>(match τ.ds with | .int k=>some ⟨.int k (k.wrap n),[]⟩|_=>none)
 | _,_,_=>none
def Ll (k:IntKind) (b c:Nat) (z:List Value) (q:Bool) (σ:Ty) (a:IntKind) (n:Int):agr (some ⟨.int k,b,c,z,q⟩) (some σ) (.int a n)=some ⟨.int k (k.wrap n),[]⟩:=an3
def ae9 (d:D) (i:Nat):Option cH:=match d with | .tup xs=>(match xs[i]? with|some d=>some ⟨d,[]⟩|none=>none)|_=>none
def Q7 (xs:List D) (i:Nat):ae9 (.tup xs) i=okD xs[i]?:=by simp only[ae9,okD]
section
variable {T:Nat->Option Ty} {Γ:Env} {N F e:Nat} {ws:List W} {Q:Kt} {t:Nat->D} {h:Nat->Option Row}
def cL {x:Ex} : eh T Γ N F [] Q x t h e=Q x t h e:=an3
def M6:eh T Γ N F (.code .skip::ws) Q .normal t h e=eh T Γ N F ws Q .normal t h e:=an3
def Tn {a b:Code} : eh T Γ N F (.code (.seq a b)::ws) Q .normal t h e=eh T Γ N F (.code a :: .code b::ws) Q .normal t h e:=an3
def Tl:eh T Γ N F (.code .ret::ws) Q .normal t h e=eh T Γ N F ws Q .ret t h e:=an3
def M4 {id:Nat} : eh T Γ N F (.code (.exit id)::ws) Q .normal t h e=eh T Γ N F ws Q (.exit id) t h e:=an3
def Jn {id:Nat} {b:Code} : eh T Γ N F (.code (.block id b)::ws) Q .normal t h e=eh T Γ N F (.code b :: .blk id::ws) Q .normal t h e:=an3
def M5 {b:Code} : eh T Γ N F (.code (.loop b)::ws) Q .normal t h e=Yc T Γ N F b ws Q t h e:=an3
def bd {c:Code} : eh T Γ N F (.code c::ws) Q .ret t h e=eh T Γ N F ws Q .ret t h e:=an3
def zH {c:Code} {n:Nat} : eh T Γ N F (.code c::ws) Q (.exit n) t h e=eh T Γ N F ws Q (.exit n) t h e:=an3
def yf {id:Nat} : eh T Γ N F (.blk id::ws) Q .normal t h e=eh T Γ N F ws Q .normal t h e:=an3
def bj {id:Nat} : eh T Γ N F (.blk id::ws) Q .ret t h e=eh T Γ N F ws Q .ret t h e:=an3
def A3 {id n:Nat} : eh T Γ N F (.blk id::ws) Q (.exit n) t h e=if n=id then eh T Γ N F ws Q .normal t h e else eh T Γ N F ws Q (.exit n) t h e:=an3
def FG {i:Nat} {ops:List Oper} : eh T Γ N F (.code (.region i ops.toArray false)::ws) Q .normal t h e=nH T Γ N F ops ops ws Q t h e:=an3
def Jp {i:Nat} {ops:List Oper} : eh T Γ N F (.code (.region i ops.toArray true)::ws) Q .normal t h e=oR T Γ N F ops ops ws Q t h e []:=an3
def M3 {g:Nat} {x y:Code} : eh T Γ N F (.code (.cond (.tmp g) x y)::ws) Q .normal t h e=Ps T Γ N F (t g) g x y ws Q t h e:=an3
def Jo {x y:Code} : eh T Γ N F (.code (.cond (.const (.bool false)) x y)::ws) Q .normal t h e=eh T Γ N F (.code y::ws) Q .normal t h e:=an3
def Ny {g:Nat} {x y:Code} (a:t g=.bool true):Ps T Γ N F (.bool true) g x y ws Q t h e=eh T Γ N F (.code x::ws) Q .normal t h e:=Dt a
def JH {g:Nat} {x y:Code} (a:t g=.bool false):Ps T Γ N F (.bool false) g x y ws Q t h e=eh T Γ N F (.code y::ws) Q .normal t h e:=Ax a
def aaG {b:Bool} {g:Nat} {x y:Code} : Ps T Γ N F (.bool b) g x y ws Q t h e=br b (eh T Γ N F (.code x::ws) Q .normal (cq t g (.bool true)) h e) (eh T Γ N F (.code y::ws) Q .normal (cq t g (.bool false)) h e):=by
 unfold Ps;rw[aex];cases b<;>simp[br]
variable {ops l:List Oper} {dst:Option Nat} {op:Op} {ty:Nat} {pos:String} {af:Array Edge} {gd:Option (Nat×Bool)} {fs:List nA}
def Ti:nH T Γ N F ops [] ws Q t h e=eh T Γ N F ws Q .normal t h (e+1):=an3
def MZ (a:fits N dst=true):nH T Γ N F ops (⟨dst,op,ty,pos,af,none⟩::l) ws Q t h e=uN T Γ N F ⟨dst,op,ty,pos,af,none⟩ ops l ws Q t h e:=by
 simp only[nH,Jm,wpG,a,true_and,uN]
def Jk {j:Nat} {a:Bool} (b:fits N dst=true) (c:CT ops j=true):nH T Γ N F ops (⟨dst,op,ty,pos,af,some (j,a)⟩::l) ws Q t h e=AL T Γ N F (t (yX ops j)) (yX ops j) a ⟨dst,op,ty,pos,af,none⟩ ops l ws Q t h e:=by
 simp only[nH,Jm,wpG,b,true_and,Hl ops j c,IK,AL]<;>cases a<;>rfl
def TY {g:Nat} {a:Bool} {o:Oper} : AL T Γ N F .skp g a o ops l ws Q t h e=nH T Γ N F ops l ws Q (gg t o.dst .skp) h e:=an3
def Nz {g:Nat} {o:Oper} (a:t g=.bool true):AL T Γ N F (.bool true) g true o ops l ws Q t h e=uN T Γ N F o ops l ws Q t h e:=(Dw a).trans (if_pos rfl)
def JI {g:Nat} {o:Oper} (a:t g=.bool false):AL T Γ N F (.bool false) g true o ops l ws Q t h e=nH T Γ N F ops l ws Q (gg t o.dst .skp) h e:=(Ay a).trans (if_pos rfl)
def JJ {g:Nat} {o:Oper} (a:t g=.bool true):AL T Γ N F (.bool true) g false o ops l ws Q t h e=nH T Γ N F ops l ws Q (gg t o.dst .skp) h e:=(Dw a).trans (if_neg (by decide))
def FO {g:Nat} {o:Oper} (a:t g=.bool false):AL T Γ N F (.bool false) g false o ops l ws Q t h e=uN T Γ N F o ops l ws Q t h e:=(Ay a).trans (if_neg (by decide))
def aaH {b:Bool} {g:Nat} {o:Oper} : AL T Γ N F (.bool b) g true o ops l ws Q t h e=br b (uN T Γ N F o ops l ws Q (cq t g (.bool true)) h e) (nH T Γ N F ops l ws Q (gg (cq t g (.bool false)) o.dst .skp) h e):=by
 unfold AL;rw[Dv];cases b<;>simp[br]
def V1 {b:Bool} {g:Nat} {o:Oper} : AL T Γ N F (.bool b) g false o ops l ws Q t h e=br b (nH T Γ N F ops l ws Q (gg (cq t g (.bool true)) o.dst .skp) h e) (uN T Γ N F o ops l ws Q (cq t g (.bool false)) h e):=by
 unfold AL;rw[Dv];cases b<;>simp[br]
def Tj:oR T Γ N F ops [] ws Q t h e fs=(Hp ops.toArray fs=true∧eh T Γ N F ws Q .normal t h (e+1)):=an3
def M0 (a:fits N dst=true):oR T Γ N F ops (⟨dst,op,ty,pos,af,none⟩::l) ws Q t h e fs=xZ T Γ N F ⟨dst,op,ty,pos,af,none⟩ ops l ws Q t h e fs:=by
 simp only[oR,runK,wpG,a,true_and,xZ]
def Jl {j:Nat} {a:Bool} (b:fits N dst=true) (c:CT ops j=true):oR T Γ N F ops (⟨dst,op,ty,pos,af,some (j,a)⟩::l) ws Q t h e fs=AM T Γ N F (t (yX ops j)) (yX ops j) a ⟨dst,op,ty,pos,af,none⟩ ops l ws Q t h e fs:=by
 simp only[oR,runK,wpG,b,true_and,Hl ops j c,IK,AM]<;>cases a<;>rfl
def T0 {g:Nat} {a:Bool} {o:Oper} : AM T Γ N F .skp g a o ops l ws Q t h e fs=oR T Γ N F ops l ws Q (gg t o.dst .skp) h e (fs++[⟨[],true⟩]):=an3
def NA {g:Nat} {o:Oper} (a:t g=.bool true):AM T Γ N F (.bool true) g true o ops l ws Q t h e fs=xZ T Γ N F o ops l ws Q t h e fs:=(Dw a).trans (if_pos rfl)
def JK {g:Nat} {o:Oper} (a:t g=.bool false):AM T Γ N F (.bool false) g true o ops l ws Q t h e fs=oR T Γ N F ops l ws Q (gg t o.dst .skp) h e (fs++[⟨[],true⟩]):=(Ay a).trans (if_pos rfl)
def JL {g:Nat} {o:Oper} (a:t g=.bool true):AM T Γ N F (.bool true) g false o ops l ws Q t h e fs=oR T Γ N F ops l ws Q (gg t o.dst .skp) h e (fs++[⟨[],true⟩]):=(Dw a).trans (if_neg (by decide))
def FP {g:Nat} {o:Oper} (a:t g=.bool false):AM T Γ N F (.bool false) g false o ops l ws Q t h e fs=xZ T Γ N F o ops l ws Q t h e fs:=(Ay a).trans (if_neg (by decide))
def aaI {b:Bool} {g:Nat} {o:Oper} : AM T Γ N F (.bool b) g true o ops l ws Q t h e fs=br b (xZ T Γ N F o ops l ws Q (cq t g (.bool true)) h e fs) (oR T Γ N F ops l ws Q (gg (cq t g (.bool false)) o.dst .skp) h e (fs++[⟨[],true⟩])):=by
 unfold AM;rw[Dv];cases b<;>simp[br]
def V2 {b:Bool} {g:Nat} {o:Oper} : AM T Γ N F (.bool b) g false o ops l ws Q t h e fs=br b (oR T Γ N F ops l ws Q (gg (cq t g (.bool true)) o.dst .skp) h e (fs++[⟨[],true⟩])) (xZ T Γ N F o ops l ws Q (cq t g (.bool false)) h e fs):=by
 unfold AM;rw[Dv];cases b<;>simp[br]
def TI {d:D} {a:List (Nat×Option Row)} : EB T Γ N F (some ⟨d,a⟩) dst ops l ws Q t h e=nH T Γ N F ops l ws Q (gg t dst d) (aZ h (nw h a)) e:=an3
def TM {d:D} {a:List (Nat×Option Row)} {b:List Nat} : Pc T Γ N F (some ⟨d,a⟩) dst b ops l ws Q t h e fs=oR T Γ N F ops l ws Q (gg t dst d) (aZ h (nw h a)) e (fs++[⟨b,(nw h a).isEmpty⟩]):=an3
def Yl {c:Prop} [Decidable c] {E:cH} : EB T Γ N F (if c then some E else none) dst ops l ws Q t h e=(c∧EB T Γ N F (some E) dst ops l ws Q t h e):=by
 by_cases a:c<;>simp[a,EB,Jw,or2,wE]
def Yo {c:Prop} [Decidable c] {E:cH} {a:List Nat} : Pc T Γ N F (if c then some E else none) dst a ops l ws Q t h e fs=(c∧Pc T Γ N F (some E) dst a ops l ws Q t h e fs):=by
 by_cases b:c<;>simp[b,Pc,Jy,or2,wE]
def Nh {E:cH} {y:Option cH} : Jw T Γ N F (some E) y dst ops l ws Q t h e=EB T Γ N F (some E) dst ops l ws Q t h e:=an3
def Np {E:cH} {y:Option cH} {a:List Nat} : Jy T Γ N F (some E) y dst a ops l ws Q t h e fs=Pc T Γ N F (some E) dst a ops l ws Q t h e fs:=an3
def Ng {y:Option cH} : Jw T Γ N F none y dst ops l ws Q t h e=aay T Γ N F y dst ops l ws Q t h e:=an3
def No {y:Option cH} {a:List Nat} : Jy T Γ N F none y dst a ops l ws Q t h e fs=af2 T Γ N F y dst a ops l ws Q t h e fs:=an3
def Yk {x:Option cH} : Jw T Γ N F x none dst ops l ws Q t h e=EB T Γ N F x dst ops l ws Q t h e:=an3
def Yn {x:Option cH} {a:List Nat} : Jy T Γ N F x none dst a ops l ws Q t h e fs=Pc T Γ N F x dst a ops l ws Q t h e fs:=an3
def Ni {d:D} {a:List (Nat×Option Row)} : aay T Γ N F (some ⟨d,a⟩) dst ops l ws Q t h e=nH T Γ N F ops l ws Q (gg t dst d) (aZ h a) e:=an3
def Nq {d:D} {a:List (Nat×Option Row)} {b:List Nat} : af2 T Γ N F (some ⟨d,a⟩) dst b ops l ws Q t h e fs=oR T Γ N F ops l ws Q (gg t dst d) (aZ h a) e (fs++[⟨b,a.isEmpty⟩]):=an3
def I8 {g:Nat} {a b:Operand} (c:t g=.bool true):adA T Γ N F (.bool true) g a b dst ops l ws Q t h e=nH T Γ N F ops l ws Q (gg t dst (ev t a)) h e:=Dt c
def FB {g:Nat} {a b:Operand} (c:t g=.bool false):adA T Γ N F (.bool false) g a b dst ops l ws Q t h e=nH T Γ N F ops l ws Q (gg t dst (ev t b)) h e:=Ax c
def I9 {g:Nat} {a b:Operand} (c:t g=.bool true):adB T Γ N F (.bool true) g a b dst ops l ws Q t h e fs=oR T Γ N F ops l ws Q (gg t dst (ev t a)) h e (fs++[⟨[],true⟩]):=Dt c
def FC {g:Nat} {a b:Operand} (c:t g=.bool false):adB T Γ N F (.bool false) g a b dst ops l ws Q t h e fs=oR T Γ N F ops l ws Q (gg t dst (ev t b)) h e (fs++[⟨[],true⟩]):=Ax c
def QF {c:Nat} {a b:Operand} : uN T Γ N F ⟨dst,.pick (.tmp c) a b,ty,pos,af,gd⟩ ops l ws Q t h e=adA T Γ N F (t c) c a b dst ops l ws Q t h e:=an3
def QL {c:Nat} {a b:Operand} : xZ T Γ N F ⟨dst,.pick (.tmp c) a b,ty,pos,af,gd⟩ ops l ws Q t h e fs=adB T Γ N F (t c) c a b dst ops l ws Q t h e fs:=an3
def Cu {x y:Option cH} (i:∀c a b,op ≠ .pick c a b) (j:jy T Γ e ⟨dst,op,ty,pos,af,gd⟩ (ev t)=none) (d:rQ Γ e h dst (jZ (ev t) op)=none) (f:uO T Γ e ⟨dst,op,ty,pos,af,gd⟩ (ev t) (EH h)=x) (g:y6 T Γ e ⟨dst,op,ty,pos,af,gd⟩ (ev t) h=y):uN T Γ N F ⟨dst,op,ty,pos,af,gd⟩ ops l ws Q t h e=Jw T Γ N F x y dst ops l ws Q t h e:=by
 subst f;subst g;unfold uN Jw Ub tj;simp_all
def Cx {x y:Option cH} (i:∀c a b,op ≠ .pick c a b) (j:jy T Γ e ⟨dst,op,ty,pos,af,gd⟩ (ev t)=none) (d:rQ Γ e h dst (jZ (ev t) op)=none) (f:uO T Γ e ⟨dst,op,ty,pos,af,gd⟩ (ev t) (EH h)=x) (g:y6 T Γ e ⟨dst,op,ty,pos,af,gd⟩ (ev t) h=y):xZ T Γ N F ⟨dst,op,ty,pos,af,gd⟩ ops l ws Q t h e fs=Jy T Γ N F x y dst (di ⟨dst,op,ty,pos,af,gd⟩ (ev t)) ops l ws Q t h e fs:=by
 subst f;subst g;unfold xZ Jy Ub tj;simp_all
def gT {x:Option cH} (f:∀c a b,op ≠ .pick c a b) (g:uO T Γ e ⟨dst,op,ty,pos,af,gd⟩ (ev t) (EH h)=x) (i:jy T Γ e ⟨dst,op,ty,pos,af,gd⟩ (ev t)=none:=by rfl) (j:y6 T Γ e ⟨dst,op,ty,pos,af,gd⟩ (ev t) h=none:=by rfl) (d:rQ Γ e h dst (jZ (ev t) op)=none:=by first|rfl|(cases dst<;>rfl)):uN T Γ N F ⟨dst,op,ty,pos,af,gd⟩ ops l ws Q t h e=EB T Γ N F x dst ops l ws Q t h e:=Cu f i d g j
def mE {x:Option cH} (f:∀c a b,op ≠ .pick c a b) (g:uO T Γ e ⟨dst,op,ty,pos,af,gd⟩ (ev t) (EH h)=x) (i:jy T Γ e ⟨dst,op,ty,pos,af,gd⟩ (ev t)=none:=by rfl) (j:y6 T Γ e ⟨dst,op,ty,pos,af,gd⟩ (ev t) h=none:=by rfl) (d:rQ Γ e h dst (jZ (ev t) op)=none:=by first|rfl|(cases dst<;>rfl)):xZ T Γ N F ⟨dst,op,ty,pos,af,gd⟩ ops l ws Q t h e fs=Pc T Γ N F x dst (di ⟨dst,op,ty,pos,af,gd⟩ (ev t)) ops l ws Q t h e fs:=Cx f i d g j
def QD {x:Operand} : uN T Γ N F ⟨dst,.move x,ty,pos,af,gd⟩ ops l ws Q t h e=nH T Γ N F ops l ws Q (gg t dst (ev t x)) h e:=(gT (fun _ _ _ a=>by cases a) rfl).trans rfl
def QK {x:Operand} : xZ T Γ N F ⟨dst,.move x,ty,pos,af,gd⟩ ops l ws Q t h e fs=oR T Γ N F ops l ws Q (gg t dst (ev t x)) h e (fs++[⟨[],true⟩]):=(mE (fun _ _ _ a=>by cases a) rfl).trans rfl
def Ls {o:BinOp} {a z:Nat} {x y:Operand} : uN T Γ N F ⟨dst,.binOp o a x y z,ty,pos,af,gd⟩ ops l ws Q t h e=EB T Γ N F (okD (GX T a o (ev t x) (ev t y))) dst ops l ws Q t h e:=gT (fun _ _ _ b=>by cases b) (by simp only[uO];first|rfl|(cases GX T a o (ev t x) (ev t y)<;>rfl))
def LA {o:BinOp} {a z:Nat} {x y:Operand} : xZ T Γ N F ⟨dst,.binOp o a x y z,ty,pos,af,gd⟩ ops l ws Q t h e fs=Pc T Γ N F (okD (GX T a o (ev t x) (ev t y))) dst (di ⟨dst,.binOp o a x y z,ty,pos,af,gd⟩ (ev t)) ops l ws Q t h e fs:=mE (fun _ _ _ b=>by cases b) (by simp only[uO];first|rfl|(cases GX T a o (ev t x) (ev t y)<;>rfl))
def QG {o:UnOp} {a:Nat} {x:Operand} : uN T Γ N F ⟨dst,.unOp o a x,ty,pos,af,gd⟩ ops l ws Q t h e=EB T Γ N F (okD (unD o (ev t x))) dst ops l ws Q t h e:=gT (fun _ _ _ b=>by cases b) (by simp only[uO];first|rfl|(cases unD o (ev t x)<;>rfl))
def QM {o:UnOp} {a:Nat} {x:Operand} : xZ T Γ N F ⟨dst,.unOp o a x,ty,pos,af,gd⟩ ops l ws Q t h e fs=Pc T Γ N F (okD (unD o (ev t x))) dst (di ⟨dst,.unOp o a x,ty,pos,af,gd⟩ (ev t)) ops l ws Q t h e fs:=mE (fun _ _ _ b=>by cases b) (by simp only[uO];first|rfl|(cases unD o (ev t x)<;>rfl))
def He {x:Operand} : uN T Γ N F ⟨dst,.assign x,ty,pos,af,gd⟩ ops l ws Q t h e=EB T Γ N F (vF T Γ.own ty e dst (EH h) (ev t x)) dst ops l ws Q t h e:=gT (fun _ _ _ a=>by cases a) rfl
def Hg {x:Operand} : xZ T Γ N F ⟨dst,.assign x,ty,pos,af,gd⟩ ops l ws Q t h e fs=Pc T Γ N F (vF T Γ.own ty e dst (EH h) (ev t x)) dst (di ⟨dst,.assign x,ty,pos,af,gd⟩ (ev t)) ops l ws Q t h e fs:=mE (fun _ _ _ a=>by cases a) rfl
def Cv {f:Nat} {first caps:List Operand} : uN T Γ N F ⟨dst,.makeFunc (.func f) first.toArray caps.toArray,ty,pos,af,gd⟩ ops l ws Q t h e=EB T Γ N F (if (first.map (ev t)++caps.map (ev t)).all vl then some ⟨.clo f first.length (first.map (ev t)++caps.map (ev t)),[]⟩ else none) dst ops l ws Q t h e:=gT (fun _ _ _ a=>by cases a) rfl
def QB {a:Nat} {x:Operand} : uN T Γ N F ⟨dst,.load a x,ty,pos,af,gd⟩ ops l ws Q t h e=Jw T Γ N F (I5 (T a) fun τ=>tY τ (EH h) (ev t x)) (I5 (T a) fun τ=>y5 τ h (ev t x)) dst ops l ws Q t h e:=Cu (fun _ _ _ b=>by cases b) rfl (by cases dst<;>rfl) (by simp only[uO];first|rfl|(cases T a<;>rfl)) (by simp only[y6];first|rfl|(cases T a<;>rfl))
def QI {a:Nat} {x:Operand} : xZ T Γ N F ⟨dst,.load a x,ty,pos,af,gd⟩ ops l ws Q t h e fs=Jy T Γ N F (I5 (T a) fun τ=>tY τ (EH h) (ev t x)) (I5 (T a) fun τ=>y5 τ h (ev t x)) dst (di ⟨dst,.load a x,ty,pos,af,gd⟩ (ev t)) ops l ws Q t h e fs:=Cx (fun _ _ _ b=>by cases b) rfl (by cases dst<;>rfl) (by simp only[uO];first|rfl|(cases T a<;>rfl)) (by simp only[y6];first|rfl|(cases T a<;>rfl))
def Lx {a:Nat} {x y:Operand} : uN T Γ N F ⟨dst,.store a x y,ty,pos,af,gd⟩ ops l ws Q t h e=Jw T Γ N F (I5 (T a) fun τ=>jh τ (EH h) (ev t x) (ev t y)) (I5 (T a) fun τ=>y7 τ e h (ev t x) (ev t y)) dst ops l ws Q t h e:=Cu (fun _ _ _ b=>by cases b) rfl (by cases dst<;>rfl) (by simp only[uO];first|rfl|(cases T a<;>rfl)) (by simp only[y6];first|rfl|(cases T a<;>rfl))
def LG {a:Nat} {x y:Operand} : xZ T Γ N F ⟨dst,.store a x y,ty,pos,af,gd⟩ ops l ws Q t h e fs=Jy T Γ N F (I5 (T a) fun τ=>jh τ (EH h) (ev t x) (ev t y)) (I5 (T a) fun τ=>y7 τ e h (ev t x) (ev t y)) dst (di ⟨dst,.store a x y,ty,pos,af,gd⟩ (ev t)) ops l ws Q t h e fs:=Cx (fun _ _ _ b=>by cases b) rfl (by cases dst<;>rfl) (by simp only[uO];first|rfl|(cases T a<;>rfl)) (by simp only[y6];first|rfl|(cases T a<;>rfl))
def Cw {x:Operand} : uN T Γ N F ⟨dst,.nilCheck x,ty,pos,af,gd⟩ ops l ws Q t h e=EB T Γ N F (qM (EH h) (ev t x)) dst ops l ws Q t h e:=gT (fun _ _ _ a=>by cases a) rfl
def Cy {x:Operand} : xZ T Γ N F ⟨dst,.nilCheck x,ty,pos,af,gd⟩ ops l ws Q t h e fs=Pc T Γ N F (qM (EH h) (ev t x)) dst (di ⟨dst,.nilCheck x,ty,pos,af,gd⟩ (ev t)) ops l ws Q t h e fs:=mE (fun _ _ _ a=>by cases a) rfl
def AP {a i:Nat} {x:Operand} : uN T Γ N F ⟨dst,.fieldAddr a x i,ty,pos,af,gd⟩ ops l ws Q t h e=EB T Γ N F (I5 (T a) fun τ=>ia T τ (EH h) i (ev t x)) dst ops l ws Q t h e:=gT (fun _ _ _ b=>by cases b) (by simp only[uO];first|rfl|(cases T a<;>rfl))
def AT {a i:Nat} {x:Operand} : xZ T Γ N F ⟨dst,.fieldAddr a x i,ty,pos,af,gd⟩ ops l ws Q t h e fs=Pc T Γ N F (I5 (T a) fun τ=>ia T τ (EH h) i (ev t x)) dst (di ⟨dst,.fieldAddr a x i,ty,pos,af,gd⟩ (ev t)) ops l ws Q t h e fs:=mE (fun _ _ _ b=>by cases b) (by simp only[uO];first|rfl|(cases T a<;>rfl))
def AQ {a:Nat} {x i:Operand} : uN T Γ N F ⟨dst,.indexAddr a x i,ty,pos,af,gd⟩ ops l ws Q t h e=EB T Γ N F (I5 (T a) fun τ=>df T τ (EH h) (ev t x) (ev t i)) dst ops l ws Q t h e:=gT (fun _ _ _ b=>by cases b) (by simp only[uO];first|rfl|(cases T a<;>rfl))
def AU {a:Nat} {x i:Operand} : xZ T Γ N F ⟨dst,.indexAddr a x i,ty,pos,af,gd⟩ ops l ws Q t h e fs=Pc T Γ N F (I5 (T a) fun τ=>df T τ (EH h) (ev t x) (ev t i)) dst (di ⟨dst,.indexAddr a x i,ty,pos,af,gd⟩ (ev t)) ops l ws Q t h e fs:=mE (fun _ _ _ b=>by cases b) (by simp only[uO];first|rfl|(cases T a<;>rfl))
def Lu {a:Nat} {x i:Operand} : uN T Γ N F ⟨dst,.index a x i,ty,pos,af,gd⟩ ops l ws Q t h e=EB T Γ N F (I5 (T a) fun τ=>nR T τ (ev t x) (ev t i)) dst ops l ws Q t h e:=gT (fun _ _ _ b=>by cases b) (by simp only[uO];first|rfl|(cases T a<;>rfl))
def Lv {a:Nat} {x:Operand} {b c d:Option Operand} : uN T Γ N F ⟨dst,.slice a x b c d,ty,pos,af,gd⟩ ops l ws Q t h e=EB T Γ N F (I5 (T a) fun τ=>jg T τ (EH h) (ev t x) (b.map (ev t)) (c.map (ev t)) (d.map (ev t))) dst ops l ws Q t h e:=gT (fun _ _ _ f=>by cases f) (by simp only[uO];first|rfl|(cases T a<;>rfl))
def Lt {a:Nat} {b:List (Nat×Operand)} : uN T Γ N F ⟨dst,.build a b.toArray,ty,pos,af,gd⟩ ops l ws Q t h e=EB T Γ N F (I5 (T a) fun τ=>tW Γ.own T τ (EH h) dst (b.map fun p=>(p.1,ev t p.2))) dst ops l ws Q t h e:=gT (fun _ _ _ c=>by cases c) (by simp only[uO];first|rfl|(cases T a<;>rfl))
def LC {a:Nat} {b:List (Nat×Operand)} : xZ T Γ N F ⟨dst,.build a b.toArray,ty,pos,af,gd⟩ ops l ws Q t h e fs=Pc T Γ N F (I5 (T a) fun τ=>tW Γ.own T τ (EH h) dst (b.map fun p=>(p.1,ev t p.2))) dst (di ⟨dst,.build a b.toArray,ty,pos,af,gd⟩ (ev t)) ops l ws Q t h e fs:=mE (fun _ _ _ c=>by cases c) (by simp only[uO];first|rfl|(cases T a<;>rfl))
def yU {a len d:Nat} {b:List (Nat×Operand)} : uN T Γ N F ⟨some d,.buildSlice a len b.toArray,ty,pos,af,gd⟩ ops l ws Q t h e=EB T Γ N F (I5 (T a) fun τ=>fu T τ (EH h) e d len (b.map fun p=>(p.1,ev t p.2))) (some d) ops l ws Q t h e:=gT (fun _ _ _ c=>by cases c) (by simp only[uO];first|rfl|(cases T a<;>rfl))
def yV {a len d:Nat} {b:List (Nat×Operand)} : xZ T Γ N F ⟨some d,.buildSlice a len b.toArray,ty,pos,af,gd⟩ ops l ws Q t h e fs=Pc T Γ N F (I5 (T a) fun τ=>fu T τ (EH h) e d len (b.map fun p=>(p.1,ev t p.2))) (some d) (di ⟨some d,.buildSlice a len b.toArray,ty,pos,af,gd⟩ (ev t)) ops l ws Q t h e fs:=mE (fun _ _ _ c=>by cases c) (by simp only[uO];first|rfl|(cases T a<;>rfl))
def Iz (T:Nat->Option Ty) (e d a:Nat) (x y:D):Option (Nat×Nat×Nat)->Option cH
 | some p=>(match T a with|some τ=>sM T τ e d p.1 p.2.1 p.2.2 x y|none=>none)
 | none=>none
def Ms {d a:Nat} {x y:D} : Iz T e d a x y none=none:=an3
def Mt {d a:Nat} {x y:D} {p:Nat×Nat×Nat} {τ:Ty} (b:T a=some τ):Iz T e d a x y (some p)=sM T τ e d p.1 p.2.1 p.2.2 x y:=by simp only[Iz,b]
def stM (y x:Option cH) (dst:Option Nat) (ops l:List Oper) (ws:List W) (Q:Kt) (t:Nat->D) (h:Nat->Option Row) (e:Nat):Prop :=
 match y with
 | some E=>aay T Γ N F (some E) dst ops l ws Q t h e
 | none=>EB T Γ N F x dst ops l ws Q t h e
def ahY (y x:Option cH) (dst:Option Nat) (a:List Nat) (ops l:List Oper) (ws:List W) (Q:Kt) (t:Nat->D) (h:Nat->Option Row) (e:Nat) (fs:List nA):Prop :=
 match y with
 | some E=>af2 T Γ N F (some E) dst a ops l ws Q t h e fs
 | none=>Pc T Γ N F x dst a ops l ws Q t h e fs
def AR {a d:Nat} {x y:Operand} : uN T Γ N F ⟨some d,.makeSlice a x y,ty,pos,af,gd⟩ ops l ws Q t h e=stM (T:=T) (Γ:=Γ) (N:=N) (F:=F) (Iz T e d a (ev t x) (ev t y) (Γ.nst d)) (I5 (T a) fun τ=>u9 T τ e d (ev t x) (ev t y)) (some d) ops l ws Q t h e:=by
 have b:jy T Γ e ⟨some d,.makeSlice a x y,ty,pos,af,gd⟩ (ev t)=Iz T e d a (ev t x) (ev t y) (Γ.nst d):=by
  unfold jy Iz;grind
 cases c:Iz T e d a (ev t x) (ev t y) (Γ.nst d) with
 | none=>exact gT (fun _ _ _ f=>by cases f) (by simp only[uO];first|rfl|(cases T a<;>rfl)) (b.trans c)
 | some E=>unfold uN Ub tj;rw[b,c];rfl
def AV {a d:Nat} {x y:Operand} : xZ T Γ N F ⟨some d,.makeSlice a x y,ty,pos,af,gd⟩ ops l ws Q t h e fs=ahY (T:=T) (Γ:=Γ) (N:=N) (F:=F) (Iz T e d a (ev t x) (ev t y) (Γ.nst d)) (I5 (T a) fun τ=>u9 T τ e d (ev t x) (ev t y)) (some d) (di ⟨some d,.makeSlice a x y,ty,pos,af,gd⟩ (ev t)) ops l ws Q t h e fs:=by
 have b:jy T Γ e ⟨some d,.makeSlice a x y,ty,pos,af,gd⟩ (ev t)=Iz T e d a (ev t x) (ev t y) (Γ.nst d):=by
  unfold jy Iz;grind
 cases c:Iz T e d a (ev t x) (ev t y) (Γ.nst d) with
 | none=>exact mE (fun _ _ _ f=>by cases f) (by simp only[uO];first|rfl|(cases T a<;>rfl)) (b.trans c)
 | some E=>unfold xZ Ub tj;rw[b,c];rfl
def TJ {x:Option cH} : stM (T:=T) (Γ:=Γ) (N:=N) (F:=F) none x dst ops l ws Q t h e=EB T Γ N F x dst ops l ws Q t h e:=an3
def Nj {x:Option cH} {a:List Nat} : ahY (T:=T) (Γ:=Γ) (N:=N) (F:=F) none x dst a ops l ws Q t h e fs=Pc T Γ N F x dst a ops l ws Q t h e fs:=an3
def TK {x:Option cH} {E:cH} : stM (T:=T) (Γ:=Γ) (N:=N) (F:=F) (some E) x dst ops l ws Q t h e=aay T Γ N F (some E) dst ops l ws Q t h e:=an3
def alN (T:Nat->Option Ty) (e d a:Nat):Option (Nat×Nat×Nat)->Option cH
 | some p=>(match T a with|some τ=>mkA τ a e d p.1 p.2.1 p.2.2|none=>none)
 | none=>none
def PO {d a:Nat} : alN T e d a none=none:=an3
def PQ {d a:Nat} {p:Nat×Nat×Nat} {τ:Ty} (b:T a=some τ):alN T e d a (some p)=mkA τ a e d p.1 p.2.1 p.2.2:=by simp only[alN,b]
def Lr {a d:Nat} : uN T Γ N F ⟨some d,.alloc a,ty,pos,af,gd⟩ ops l ws Q t h e=stM (T:=T) (Γ:=Γ) (N:=N) (F:=F) (alN T e d a (Γ.nst d)) (GQ (T a) a d e (Γ.hint d)) (some d) ops l ws Q t h e:=by
 have b:jy T Γ e ⟨some d,.alloc a,ty,pos,af,gd⟩ (ev t)=alN T e d a (Γ.nst d):=by
  unfold jy alN;grind
 cases c:alN T e d a (Γ.nst d) with
 | none=>exact gT (fun _ _ _ f=>by cases f) (by simp only[uO];cases T a with|none=>rfl|some τ=>(dsimp only[GQ];cases Γ.hint d<;>rfl)) (b.trans c)
 | some E=>unfold uN Ub tj;rw[b,c];rfl
def Ly {a d:Nat} : xZ T Γ N F ⟨some d,.alloc a,ty,pos,af,gd⟩ ops l ws Q t h e fs=ahY (T:=T) (Γ:=Γ) (N:=N) (F:=F) (alN T e d a (Γ.nst d)) (GQ (T a) a d e (Γ.hint d)) (some d) (di ⟨some d,.alloc a,ty,pos,af,gd⟩ (ev t)) ops l ws Q t h e fs:=by
 have b:jy T Γ e ⟨some d,.alloc a,ty,pos,af,gd⟩ (ev t)=alN T e d a (Γ.nst d):=by
  unfold jy alN;grind
 cases c:alN T e d a (Γ.nst d) with
 | none=>exact mE (fun _ _ _ f=>by cases f) (by simp only[uO];cases T a with|none=>rfl|some τ=>(dsimp only[GQ];cases Γ.hint d<;>rfl)) (b.trans c)
 | some E=>unfold xZ Ub tj;rw[b,c];rfl
def E7 {a d:Nat} : uN T Γ N F ⟨some d,.makeMap a none,ty,pos,af,gd⟩ ops l ws Q t h e=EB T Γ N F (ado T (T a) a e d) (some d) ops l ws Q t h e:=gT (fun _ _ _ b=>by cases b) (by simp only[uO];first|rfl|(cases T a<;>rfl))
def Hf {a:Nat} {m i:Operand} {b:Bool} : uN T Γ N F ⟨dst,.lookup a m i b,ty,pos,af,gd⟩ ops l ws Q t h e=EB T Γ N F (I5 (T a) fun τ=>jE T τ (EH h) (ev t m) (ev t i) b) dst ops l ws Q t h e:=gT (fun _ _ _ c=>by cases c) (by simp only[uO];first|rfl|(cases T a<;>rfl))
def AS {a:Nat} {m i x:Operand} : uN T Γ N F ⟨dst,.mapUpdate a m i x,ty,pos,af,gd⟩ ops l ws Q t h e=EB T Γ N F (I5 (T a) fun τ=>eZ T τ (EH h) (ev t m) (ev t i) (ev t x)) dst ops l ws Q t h e:=gT (fun _ _ _ b=>by cases b) (by simp only[uO];first|rfl|(cases T a<;>rfl))
def W2 {a d:Nat} {x:Operand} : uN T Γ N F ⟨some d,.box a x,ty,pos,af,gd⟩ ops l ws Q t h e=EB T Γ N F (aiK (gY (EH h) (ev t x)) (EH h) a d e) (some d) ops l ws Q t h e:=gT (fun _ _ _ b=>by cases b) (by simp only[uO];first|rfl|(cases gY (EH h) (ev t x)<;>rfl))
def E5 {a b:Nat} {x:Operand} : uN T Γ N F ⟨dst,.convert a b x,ty,pos,af,gd⟩ ops l ws Q t h e=EB T Γ N F (agr (T b) (T a) (ev t x)) dst ops l ws Q t h e:=gT (fun _ _ _ c=>by cases c) rfl
def E6 {x:Nat} {i:Nat} : uN T Γ N F ⟨dst,.extract (.tmp x) i,ty,pos,af,gd⟩ ops l ws Q t h e=EB T Γ N F (ae9 (t x) i) dst ops l ws Q t h e:=gT (fun _ _ _ a=>by cases a) rfl
def E9 {x:Nat} {i:Nat} : xZ T Γ N F ⟨dst,.extract (.tmp x) i,ty,pos,af,gd⟩ ops l ws Q t h e fs=Pc T Γ N F (ae9 (t x) i) dst (di ⟨dst,.extract (.tmp x) i,ty,pos,af,gd⟩ (ev t)) ops l ws Q t h e fs:=mE (fun _ _ _ a=>by cases a) rfl
def cnL (Γ:Env) (e:Nat) (h:Nat->Option Row) (g:Nat) (a:List D):Option (Nat×(Nat->Nat->Nat->Nat->List D->List D->Option (D×List D)))->Option cH
 | some _=>wm Γ e h g a
 | none=>none
def Qt {g:Nat} {a:List D} : cnL Γ e h g a none=none:=an3
def Qu {g:Nat} {a:List D} {p:Nat×(Nat->Nat->Nat->Nat->List D->List D->Option (D×List D))} : cnL Γ e h g a (some p)=wm Γ e h g a:=an3
def aco {g:Nat} {a:List D} : Fi Γ e h (some (.fn g,a))=cnL Γ e h g a (Γ.nx.lnd g):=by
 cases c:Γ.nx.lnd g with
 | some p=>rfl
 | none =>
  show wm Γ e h g a=none;cases b:wm Γ e h g a with
  | none=>rfl
  | some E =>
   obtain⟨_,_,_,_,_,_,_,_,_,_,_,_,_,_,_,_,d,_⟩:=xj b;simp_all
def W7 {f k:Nat} {xs a:List D} : Fi Γ e h (some (.clo f k xs,a))=none:=an3
def acn {d g:Nat} {a:List D} : rQ Γ e h (some d) (some (.fn g,a))=Hw e d h a (Γ.nx.res g):=an3
def W6 {dst:Option Nat} {f k:Nat} {xs a:List D} : rQ Γ e h dst (some (.clo f k xs,a))=none:=by cases dst<;>rfl
def QQ {d:Nat} {a:List D} : Hw e d h a none=none:=an3
def QR {d:Nat} {a:List D} {p:List D->Option (Nat×Nat×Nat×Nat×Nat×List D)} : Hw e d h a (some p)=K9 p e d (b9 (EH h) a):=an3
def P7 {d:Nat} {alj:List D} {p:List D->Option (Nat×Nat×Nat×Nat×Nat×List D)} : K9 p e d (some (alj,[]))=NV e d (p alj):=an3
def La {d ty a s S n:Nat} {cs:List D} (b:d<1000000):NV e d (some (ty,a,s,S,n,cs))=some ⟨.buf d e S 0 n,[(d,some ⟨e,ty,[.nr a s (4*e+2) cs],false,true,true⟩)]⟩:=if_pos (by rw[gh];exact b)
def stC (a x y:Option cH) (dst:Option Nat) (ops l:List Oper) (ws:List W) (Q:Kt) (t:Nat->D) (h:Nat->Option Row) (e:Nat):Prop :=
 match a with
 | some E=>aay T Γ N F (some E) dst ops l ws Q t h e
 | none=>Jw T Γ N F x y dst ops l ws Q t h e
def ajB (b x y:Option cH) (dst:Option Nat) (a:List Nat) (ops l:List Oper) (ws:List W) (Q:Kt) (t:Nat->D) (h:Nat->Option Row) (e:Nat) (fs:List nA):Prop :=
 match b with
 | some E=>af2 T Γ N F (some E) dst a ops l ws Q t h e fs
 | none=>Jy T Γ N F x y dst a ops l ws Q t h e fs
def TG {x y:Option cH} : stC (T:=T) (Γ:=Γ) (N:=N) (F:=F) none x y dst ops l ws Q t h e=Jw T Γ N F x y dst ops l ws Q t h e:=an3
def Nf {x y:Option cH} {a:List Nat} : ajB (T:=T) (Γ:=Γ) (N:=N) (F:=F) none x y dst a ops l ws Q t h e fs=Jy T Γ N F x y dst a ops l ws Q t h e fs:=an3
def TH {x y:Option cH} {E:cH} : stC (T:=T) (Γ:=Γ) (N:=N) (F:=F) (some E) x y dst ops l ws Q t h e=aay T Γ N F (some E) dst ops l ws Q t h e:=an3
def QA {x:Operand} {alj:List Operand} {a:Array Nat} : uN T Γ N F ⟨dst,.call ⟨.value x,alj.toArray,a⟩,ty,pos,af,gd⟩ ops l ws Q t h e=stC (T:=T) (Γ:=Γ) (N:=N) (F:=F) (rQ Γ e h dst (some (ev t x,alj.map (ev t)))) (ki Γ (EH h) e dst (ev t x) (alj.map (ev t))) (Fi Γ e h (some (ev t x,alj.map (ev t)))) dst ops l ws Q t h e:=by
 have b:jZ (ev t) (.call ⟨.value x,alj.toArray,a⟩)=some (ev t x,alj.map (ev t)):=rfl;cases c:rQ Γ e h dst (some (ev t x,alj.map (ev t))) with
 | none=>exact Cu (fun _ _ _ d=>by cases d) rfl (by rw[b];exact c) rfl rfl
 | some E=>unfold uN Ub tj;simp only[jy,b,c];rfl
def QH {x:Operand} {alj:List Operand} {a:Array Nat} : xZ T Γ N F ⟨dst,.call ⟨.value x,alj.toArray,a⟩,ty,pos,af,gd⟩ ops l ws Q t h e fs=ajB (T:=T) (Γ:=Γ) (N:=N) (F:=F) (rQ Γ e h dst (some (ev t x,alj.map (ev t)))) (ki Γ (EH h) e dst (ev t x) (alj.map (ev t))) (Fi Γ e h (some (ev t x,alj.map (ev t)))) dst (di ⟨dst,.call ⟨.value x,alj.toArray,a⟩,ty,pos,af,gd⟩ (ev t)) ops l ws Q t h e fs:=by
 have b:jZ (ev t) (.call ⟨.value x,alj.toArray,a⟩)=some (ev t x,alj.map (ev t)):=rfl;cases c:rQ Γ e h dst (some (ev t x,alj.map (ev t))) with
 | none=>exact Cx (fun _ _ _ d=>by cases d) rfl (by rw[b];exact c) rfl rfl
 | some E=>unfold xZ Ub tj;simp only[jy,b,c];rfl
def E4 {x:Builtin} {alj:List Operand} {a:List Nat} : uN T Γ N F ⟨dst,.call ⟨.builtin x,alj.toArray,a.toArray⟩,ty,pos,af,gd⟩ ops l ws Q t h e=EB T Γ N F (fF T (EH h) e dst x a (alj.map (ev t))) dst ops l ws Q t h e:=gT (fun _ _ _ b=>by cases b) rfl
def E8 {x:Builtin} {alj:List Operand} {a:List Nat} : xZ T Γ N F ⟨dst,.call ⟨.builtin x,alj.toArray,a.toArray⟩,ty,pos,af,gd⟩ ops l ws Q t h e fs=Pc T Γ N F (fF T (EH h) e dst x a (alj.map (ev t))) dst (di ⟨dst,.call ⟨.builtin x,alj.toArray,a.toArray⟩,ty,pos,af,gd⟩ (ev t)) ops l ws Q t h e fs:=mE (fun _ _ _ b=>by cases b) rfl
def bP {o:Array Oper} {A:Prop} (a:Hp o fs=true) (b:A):Hp o fs=true∧A:=⟨a,b⟩
def ax {b:Bool} {g:Nat} {x y:Code} (a:b=true->eh T Γ N F (.code x::ws) Q .normal (cq t g (.bool true)) h e) (c:b=false->eh T Γ N F (.code y::ws) Q .normal (cq t g (.bool false)) h e):Ps T Γ N F (.bool b) g x y ws Q t h e:=by rw[aaG];exact⟨a,c⟩
def gB {b:Bool} {g:Nat} {o:Oper} (a:b=true->uN T Γ N F o ops l ws Q (cq t g (.bool true)) h e) (c:b=false->nH T Γ N F ops l ws Q (gg (cq t g (.bool false)) o.dst .skp) h e):AL T Γ N F (.bool b) g true o ops l ws Q t h e:=by rw[aaH];exact⟨a,c⟩
def bQ {b:Bool} {g:Nat} {o:Oper} (a:b=true->nH T Γ N F ops l ws Q (gg (cq t g (.bool true)) o.dst .skp) h e) (c:b=false->uN T Γ N F o ops l ws Q (cq t g (.bool false)) h e):AL T Γ N F (.bool b) g false o ops l ws Q t h e:=by rw[V1];exact⟨a,c⟩
def Gx {b:Bool} {g:Nat} {o:Oper} (a:b=true->xZ T Γ N F o ops l ws Q (cq t g (.bool true)) h e fs) (c:b=false->oR T Γ N F ops l ws Q (gg (cq t g (.bool false)) o.dst .skp) h e (fs++[⟨[],true⟩])):AM T Γ N F (.bool b) g true o ops l ws Q t h e fs:=by rw[aaI];exact⟨a,c⟩
def Dq {b:Bool} {g:Nat} {o:Oper} (a:b=true->oR T Γ N F ops l ws Q (gg (cq t g (.bool true)) o.dst .skp) h e (fs++[⟨[],true⟩])) (c:b=false->xZ T Γ N F o ops l ws Q (cq t g (.bool false)) h e fs):AM T Γ N F (.bool b) g false o ops l ws Q t h e fs:=by rw[V2];exact⟨a,c⟩
def acw (a:Mode) (T:Nat->Option Ty) (cc:Option (D×Row)) (rs:List ResultVar) (r:RK×Option Row):Kt:=fun x t h e=>ahp a T cc rs x t h e r
def Fk {a:Mode} {cc:Option (D×Row)} {rs:List ResultVar} {r:RK×Option Row} : acw a T cc rs r .normal t h e=(gG a T cc rs ⟨t,EH h,e⟩=some r):=an3
def cR {a:Mode} {cc:Option (D×Row)} {rs:List ResultVar} {r:RK×Option Row} : acw a T cc rs r .ret t h e=(gG a T cc rs ⟨t,EH h,e⟩=some r):=an3
def Xd (T:Nat->Option Ty) (ty a s:Nat) (rs:List ResultVar) (r:D×List D):Kt:=fun x t h e =>
 match x with
 | .exit _=>False
 | _=>ZA T ty a s rs ⟨t,h,e⟩=some r
def CL {ty a s:Nat} {rs:List ResultVar} {r:D×List D} : Xd T ty a s rs r .normal t h e=(ZA T ty a s rs ⟨t,h,e⟩=some r):=an3
def LR {ty a s:Nat} {rs:List ResultVar} {r:D×List D} : Xd T ty a s rs r .ret t h e=(ZA T ty a s rs ⟨t,h,e⟩=some r):=an3
def acu (rs:List ResultVar) (r:Nat×Nat×Nat×Nat×Nat×List D):Kt:=fun x t h e =>
 match x with
 | .exit _=>False
 | _=>acr rs ⟨t,h,e⟩=some r
def LQ {rs:List ResultVar} {r:Nat×Nat×Nat×Nat×Nat×List D} : acu rs r .ret t h e=(acr rs ⟨t,h,e⟩=some r):=an3
def Xf {ty a s:Nat} {rs:List ResultVar} : ZA T ty a s rs ⟨t,h,e⟩=Q1 ty a s (yy T ⟨t,EH h,e⟩ rs) (h 0):=an3
def Q3 {ty a s nv:Nat} {lst:Bool} {b cs:List D} : Q1 ty a s (some (b,[])) (some ⟨0,ty,[.nr a s nv cs],false,lst,true⟩)=some (oQ b,cs):=by
 simp[Q1,acv]
def Xc {i:Nat} : acr [.tmp i] ⟨t,h,e⟩=Xb h (t i):=an3
def LP {x v S n:Nat} : Xb h (.buf x v S 0 n)=QZ x v S n (h x):=an3
def Q0 {x v S n ty a s nv:Nat} {lst:Bool} {cs:List D} (b:x<1000000):QZ x v S n (some ⟨v,ty,[.nr a s nv cs],false,lst,true⟩)=some (ty,a,s,S,n,cs):=by
 have:x<PK:=by rw[gh];exact b
 simp[QZ,acs,this]
def Av {d:Func} {c:Code} {n ty b s o:Nat} {cs a:List D} {rs:List ResultVar} {r:D×List D} (g:d.body=some c) (h:d.ntmps=n) (i:d.results=rs.toArray) (j:eh T Γ n F [.code c] (Xd T ty b s rs r) .normal (Cj (.ptr 0 0 o::a)) (pz (jS ty b s 0 cs)) 1) (e:n<=1000000:=by exact amV rfl):xQ T Γ F d ty b s o cs a=some r:=by
 obtain⟨x,p,k,f⟩:=EL _ _ _ _ _ (show Py T Γ n F c (Cj (.ptr 0 0 o::a)) (pz (jS ty b s 0 cs)) 1 (Xd T ty b s rs r) from j);unfold xQ;simp only[g,h];rw[if_pos (by rw[gh];exact e)];have l:xN ty b s o cs a=⟨Cj (.ptr 0 0 o::a),pz (jS ty b s 0 cs),1⟩:=rfl;rw[l,k,i];cases x with
 | normal=>exact f
 | ret=>exact f
 | exit m=>exact f.elim
def aaT {b:Func} {c:Code} {n:Nat} {a:List D} {rs:List ResultVar} {r:Nat×Nat×Nat×Nat×Nat×List D} (f:b.body=some c) (g:b.ntmps=n) (h:b.results=rs.toArray) (i:eh T Γ n F [.code c] (acu rs r) .normal (Cj a) MF 0) (d:n<=1000000:=by exact amV rfl):B5 T Γ F b a=some r:=by
 obtain⟨x,l,j,e⟩:=EL _ _ _ _ _ (show Py T Γ n F c (Cj a) MF 0 (acu rs r) from i);unfold B5;simp only[f,g];rw[if_pos (by rw[gh];exact d)];have k:cP none a=⟨Cj a,MF,0⟩:=rfl;rw[k,j,h];cases x with
 | normal=>exact e
 | ret=>exact e
 | exit m=>exact e.elim
def aJ {a:Mode} {d:Func} {c:Code} {n:Nat} {rs:List ResultVar} {b:List D} {r:RK×Option Row} (g:d.body=some c) (f:d.ntmps=n) (h:d.results=rs.toArray) (i:eh T Γ n F [.code c] (acw a T none rs r) .normal (Cj b) MF 0) (e:n<=1000000:=by exact amV rfl):jx a T Γ F d none b=some r:=by
 refine We ?_ (by rw[f];exact e);unfold wpf;rw[g,f,h];exact i
def Th (r:Row) (i:Nat):pz r i=if i=0 then some r else none:=an3
def xR {a:Mode} {d:Func} {c:Code} {n:Nat} {rs:List ResultVar} {d0:D} {ty:Nat} {cells:List D} {fz lst:Bool} {b:List D} {r:RK×Option Row} (g:d.body=some c) (f:d.ntmps=n) (h:d.results=rs.toArray)
  (i:eh T Γ n F [.code c] (acw a T (some (d0,⟨0,ty,cells,fz,lst,false⟩)) rs r) .normal (Cj (d0::b)) (pz ⟨0,ty,cells,fz,lst,false⟩) 1) (e:n<=1000000:=by exact amV rfl):jx a T Γ F d (some (d0,⟨0,ty,cells,fz,lst,false⟩)) b=some r:=by
 refine We ?_ (by rw[f];exact e);unfold wpf;rw[g,f,h];exact i
end
section
variable {h:Nat->Option Row} {k x o v ty fz' nv s n e:Nat} {cs xs:List D} {fz lst:Bool}
def aa2 (a:k<2000000):EH h k=(h k).map (Gs k):=wh (by rw[gh];exact a)
def agc (a:x<1000000):EH h (NK x o)=(h x).bind fun r=>vk r o:=wg (by rw[gh];exact a)
def Nb:Gs k ⟨v,ty,cs,fz,lst,false⟩=⟨v,ty,cs,fz,lst,false⟩:=an3
def Yg {a:List eB} : Gs k ⟨v,ty,[.mpc a xs],fz,lst,true⟩=⟨v,ty,[.mpc a xs],fz,lst,true⟩:=an3
def adQ {t:Nat} : Gs k ⟨v,ty,[.nr t s nv cs],fz,lst,true⟩=⟨v,ty,cs.mapIdx (wO k s),fz,lst,true⟩:=an3
def Sv {t:Nat} : vk ⟨v,ty,[.nr t s nv cs],fz,lst,true⟩ o=IB t nv fz (cs.drop o).head?:=an3
def Su:IB ty nv fz (some (.nx n xs))=some ⟨nv,ty,xs,fz,true,false⟩:=an3
def agY (a:x<1000000):rt (NK x o)=x:=ye (by rw[gh];exact a)
def Md:nw h []=[]:=an3
def Mc {r:Option Row} {l:List (Nat×Option Row)} (a:k<2000000):nw h ((k,r)::l)=(k,Kl r)::nw (cq h k (Kl r)) l:=by
 have b:rt k=k:=jU (by rw[gh];exact a);have c:Da h k r=Kl r:=if_pos (by rw[gh];exact a);simp only[nw,b,c]
def Rb {r:Option Row} {l:List (Nat×Option Row)} (b:x<1000000):nw h ((NK x o,r)::l)=(x,(h x).map (Jb o r))::nw (cq h x ((h x).map (Jb o r))) l:=by
 have a:x<PK:=by rw[gh];exact b
 have c:rt (NK x o)=x:=ye a;have d:Da h (NK x o) r=(h x).map (Jb o r):=by
  unfold Da;rw[if_neg (by have:=jv x o;omega),yD o a,GH o a]
 simp only[nw,c,d]
def ME:Kl none=none:=an3
def ID:Kl (some ⟨v,ty,cs,fz,lst,false⟩)=some ⟨v,ty,cs,fz,lst,false⟩:=an3
def Sx {a:List eB} : Kl (some ⟨v,ty,[.mpc a xs],fz,lst,true⟩)=some ⟨v,ty,[.mpc a xs],fz,lst,true⟩:=an3
def X9 {t:Nat} {r:Option Row} : Jb o r ⟨v,ty,[.nr t s nv cs],fz,lst,true⟩=⟨v,ty,Js t s nv fz cs o r (cs.drop o).head?,fz,lst,true⟩:=an3
def Ye {t b:Nat} {a:List D} : Js t s nv fz cs o (some ⟨b,t,a,fz,true,false⟩) (some (.nx n xs))=if b=nv then [.nr t s nv (putCells cs o [.nx n a])] else [.nr t s nv (putCells cs o [.und])]:=by
 by_cases c:b=nv<;>simp[Js,S4,c]
def lvN (x v:Nat):Option Row->Option (Row×Nat×Nat×Nat×List D)
 | some r=>if r.v=v∧r.fz=false∧r.mp=true∧x<1000000 then nrO r r.cells else none
 | none=>none
def R3:iu h x v=lvN x v (h x):=by
 unfold iu lvN;rw[gh];cases h x<;>rfl
def ade {t:Nat} (a:x<1000000):lvN x v (some ⟨v,ty,[.nr t s nv cs],false,lst,true⟩)=some (⟨v,ty,[.nr t s nv cs],false,lst,true⟩,t,s,nv,cs):=by
 simp only[lvN,true_and,a,and_self,if_true,nrO]
def ahy (τ:Ty) (x o:Nat):Option (Row×Nat×Nat×Nat×List D)->Option cH
 | some (r,ty,s,nv,cs)=>OC τ x s nv o cs (cs.drop o).head?
 | none=>none
def XG {τ:Ty} : ua τ h (.ptr x v o)=ahy τ x o (iu h x v):=by
 simp only[ua,ahy]<;>cases iu h x v<;>rfl
def Mi {τ:Ty} {r:Row} {t:Nat} : ahy τ x o (some (r,t,s,nv,cs))=OC τ x s nv o cs (cs.drop o).head?:=an3
def XE {a:Ds} {b:Nat} {z:List Value} {q:Bool} : OC ⟨a,1,b,z,q⟩ x s nv o cs (some (.nx n xs))=if a.we=false then some ⟨.buf (NK x o) nv s 0 n,[]⟩ else none:=by
 simp only[OC,true_and]
def afm (τ:Ty) (o:Nat) (cs:List D):Option cH :=
 if o+τ.size<=cs.length∧((cs.drop o).take τ.size).all gN=true then okD (mf τ ((cs.drop o).take τ.size)) else none
def RW {τ:Ty} {a:IntKind} {i:Int} : OC τ x s nv o cs (some (.int a i))=afm τ o cs:=an3
def XF {τ:Ty} {a b:Bool} : OC τ x s nv o cs (some (.sl a b n xs))=afm τ o cs:=an3
def af1 (τ:Ty) (e:Nat) (h:Nat->Option Row) (x o:Nat) (d:D):Option (Row×Nat×Nat×Nat×List D)->Option cH
 | some (r,ty,s,nv,cs)=>if o+τ.size<=cs.length∧0<τ.size then KB τ e h x r ty s nv cs o d else none
 | none=>none
def Ym {τ:Ty} {d:D} : qN τ e h (.ptr x v o) d=af1 τ e h x o d (iu h x v):=by
 simp only[qN,af1]<;>cases iu h x v<;>rfl
def Nl {a:Ds} {m b:Nat} {z:List Value} {q:Bool} {d:D} {r:Row} {t:Nat} (c:0<m) (f:o+m<=cs.length):af1 ⟨a,m,b,z,q⟩ e h x o d (some (r,t,s,nv,cs))=KB ⟨a,m,b,z,q⟩ e h x r t s nv cs o d:=by
 simp only[af1,c,f,and_self,if_true]
def ahZ (x:Nat) (r:Row) (ty s:Nat) (cs:List D) (o y n:Nat) (b:Option Nat):Option Row->Option cH
 | some q=>if q.fz=false∧q.lst=true∧q.ty=ty∧q.cells.length=n*s then EC x r ty s cs o y n q b else none
 | none=>none
def Nn {c:Ds} {b y a:Nat} {z:List Value} {q:Bool} {r:Row} {t:Nat} (d:y<1000000):KB ⟨c,1,b,z,q⟩ e h x r t s nv cs o (.buf y a s 0 n)=ahZ x r t s cs o y n (bump nv e) (live h y a):=by
 have f:¬y=NK x o:=by have:=jv x o;rw[gh]at this;omega
 have g:y<PK:=by rw[gh];exact d
 simp only[KB,and_self,if_true,f,if_false,g]<;>cases live h y a<;>rfl
def Nk {r q:Row} {t a y:Nat} (b:q.fz=false∧q.lst=true∧q.ty=t∧q.cells.length=n*s):ahZ x r t s cs o y n (some a) (some q)=some ⟨.und,[(y,none),(x,some ⟨r.v,r.ty,[.nr t s a (putCells cs o [.nx n q.cells])],false,r.lst,true⟩)]⟩:=by
 simp only[ahZ,b,and_self,if_true,EC]
def TL {τ:Ty} {r:Row} {t:Nat} : KB τ e h x r t s nv cs o (.agg xs)=Pd τ x r t s nv cs o (some xs):=an3
def Nr {τ:Ty} {r:Row} {t:Nat} {a:List D} : Pd τ x r t s nv cs o (some a)=if a.length=τ.size∧a.all gN=true then some ⟨.und,[(x,some ⟨r.v,r.ty,[.nr t s nv (putCells cs o (a.map canon))],false,r.lst,true⟩)]⟩ else none:=an3
def lM (a:nv<=4*e):bump nv e=some (4*e+1):=if_pos a
def abD (a:nv=4*e+2):bump nv e=some (4*e+3):=by unfold bump;rw[if_neg (by omega),if_pos a]
def S2 {E:cH} {y:Option cH} : orE (some E) y=some E:=an3
def S1 {y:Option cH} : orE none y=y:=an3
def acX (τ:Ty) (x o:Nat):Option (Row×Nat×Nat×Nat×List D)->Option cH
 | some (r,ty,s,nv,cs)=>if r.lst=false∧o=0∧cs.length=τ.size∧1<τ.size∧cs.all (BQ s)=true then Vf x r ty s nv (qp τ.size 0 cs) (mf τ (cs.map V4)) else none
 | none=>none
def XD {τ:Ty} : y5 τ h (.ptr x v o)=orE (acX τ x o (iu h x v)) (ua τ h (.ptr x v o)):=by
 simp only[y5,tZ]<;>cases iu h x v<;>rfl
def acY {τ:Ty} {a ty:Nat} {cells:List D} {fz mp:Bool} {t:Nat} : acX τ x o (some (⟨a,ty,cells,fz,true,mp⟩,t,s,nv,cs))=none:=by simp[acX]
def acZ {τ:Ty} {a ty:Nat} {cells:List D} {fz mp:Bool} {t:Nat} : acX τ x o (some (⟨a,ty,cells,fz,false,mp⟩,t,s,nv,cs))=if o=0∧cs.length=τ.size∧1<τ.size∧cs.all (BQ s)=true then Vf x ⟨a,ty,cells,fz,false,mp⟩ t s nv (qp τ.size 0 cs) (mf τ (cs.map V4)) else none:=by
 simp only[acX,true_and]
def Mh {r:Row} {t:Nat} {d:D} : Vf x r t s nv cs (some d)=some ⟨d,[(x,some ⟨r.v,r.ty,[.nr t s nv cs],false,r.lst,true⟩)]⟩:=an3
def adY (τ:Ty) (e x o:Nat) (d:D):Option (Row×Nat×Nat×Nat×List D)->Option cH
 | some (r,ty,s,nv,cs)=>if r.lst=false∧o=0∧cs.length=τ.size then VM τ.size e x r ty s nv cs d else none
 | none=>none
def Yj {τ:Ty} {d:D} : y7 τ e h (.ptr x v o) d=orE (adY τ e x o d (iu h x v)) (qN τ e h (.ptr x v o) d):=by
 simp only[y7,ud]<;>cases iu h x v<;>rfl
def adZ {τ:Ty} {d:D} {a ty:Nat} {cells:List D} {fz mp:Bool} {t:Nat} : adY τ e x o d (some (⟨a,ty,cells,fz,true,mp⟩,t,s,nv,cs))=none:=by simp[adY]
def ad0 {τ:Ty} {d:D} {a ty:Nat} {cells:List D} {fz mp:Bool} {t:Nat} : adY τ e x o d (some (⟨a,ty,cells,fz,false,mp⟩,t,s,nv,cs))=if o=0∧cs.length=τ.size then VM τ.size e x ⟨a,ty,cells,fz,false,mp⟩ t s nv cs d else none:=by
 simp only[adY,true_and]
def TO {a t:Nat} {r:Row} : VM a e x r t s nv cs (.agg xs)=if xs.length=a then stZ x r t s (bump nv e) (wN cs xs) else none:=an3
def TN {r:Row} {t a:Nat} {b:List D} : stZ x r t s (some a) (some b)=some ⟨.und,[(x,some ⟨r.v,r.ty,[.nr t s a b],false,r.lst,true⟩)]⟩:=an3
def akg:Option D->Option (List D)->Option (List D)
 | some y,some a=>some (y::a)
 | _,_=>none
def ND {y:D} {a:List D} : akg (some y) (some a)=some (y::a):=an3
def NF:wN [] []=some []:=an3
def JU {c x:D} {cs xs:List D} : wN (c::cs) (x::xs)=akg (Ue c x) (wN cs xs):=by
 simp only[wN];cases Ue c x<;>cases wN cs xs<;>rfl
def YR:Ue (.nx n xs) (.sl true true 0 [])=some (.nx 0 []):=an3
def YQ {k a:IntKind} {i j:Int} : Ue (.int k i) (.int a j)=some (.int a j):=an3
def Ua {a b:D} : qp 2 0 [a,b]=[V4 a,V4 b]:=an3
def YJ {k:IntKind} {i:Int} : V4 (.int k i)=.int k i:=an3
def aeo:V4 (.nx n xs)=.sl false false n xs:=an3
def XZ {k:IntKind} {i:Int} : BQ s (.int k i)=true:=an3
def adv:BQ s (.nx n xs)=(xs.length==n*s):=an3
end
section
variable {Γ:Env} {g d:Nat} {p:Nat×Nat×Nat}
def Xl {f:Nat} {l:Bool} {G:Option (D×Row)->List D->Option (RK×Option Row)} : (Am.ext Γ f l G).nst g=Γ.nst g:=an3
def RN:(Am.keep d Γ).nst g=Γ.nst g:=an3
def MA:bk.nst g=none:=an3
def SI:(Am.yu d p Γ).nst g=if g=d then some p else Γ.nst g:=an3
def IG:(Am.yu d p Γ).lends g=Γ.lends g:=an3
def SK {l:Option (D×Row)} {alj:List D} : (Am.yu d p Γ).sem g l alj=Γ.sem g l alj:=an3
def SJ:(Am.yu d p Γ).own g=Γ.own g:=an3
def MI:(Am.yu d p Γ).hint g=Γ.hint g:=an3
def SH:(Am.yu d p Γ).ins g=Γ.ins g:=an3
def SG:(Am.yu d p Γ).grw g=Γ.grw g:=an3
def acy {f:Nat} {l:Bool} {G:Option (D×Row)->List D->Option (RK×Option Row)} : (Am.ext Γ f l G).nx=Γ.nx:=an3
def Xz:(Am.keep d Γ).nx=Γ.nx:=an3
def Xw {f:Nat} : (Am.Ii f p Γ).nx=Γ.nx:=an3
def XX:(Am.yu d p Γ).nx=Γ.nx:=an3
def Mz:bk.nx.lnd g=none:=an3
def MC:bk.nx.res g=none:=an3
end
section
variable {Γ:Env} {g d f:Nat} {p:Nat×(Nat->Nat->Nat->Nat->List D->List D->Option (D×List D))}
def R6:(Am.tr f p Γ).nx.lnd g=if g=f then some p else Γ.nx.lnd g:=an3
def R9:(Am.tr f p Γ).nx.res g=Γ.nx.res g:=an3
def Is:(Am.tr f p Γ).lends g=Γ.lends g:=an3
def Sa {l:Option (D×Row)} {alj:List D} : (Am.tr f p Γ).sem g l alj=Γ.sem g l alj:=an3
def R8:(Am.tr f p Γ).own g=Γ.own g:=an3
def Mn:(Am.tr f p Γ).hint g=Γ.hint g:=an3
def R5:(Am.tr f p Γ).ins g=Γ.ins g:=an3
def R4:(Am.tr f p Γ).grw g=Γ.grw g:=an3
def R7:(Am.tr f p Γ).nst g=Γ.nst g:=an3
end
section
variable {Γ:Env} {g d f:Nat} {p:List D->Option (Nat×Nat×Nat×Nat×Nat×List D)}
def SE:(Am.C4 f p Γ).nx.res g=if g=f then some p else Γ.nx.res g:=an3
def SB:(Am.C4 f p Γ).nx.lnd g=Γ.nx.lnd g:=an3
def IF:(Am.C4 f p Γ).lends g=Γ.lends g:=an3
def SF {l:Option (D×Row)} {alj:List D} : (Am.C4 f p Γ).sem g l alj=Γ.sem g l alj:=an3
def SD:(Am.C4 f p Γ).own g=Γ.own g:=an3
def MH:(Am.C4 f p Γ).hint g=Γ.hint g:=an3
def SA:(Am.C4 f p Γ).ins g=Γ.ins g:=an3
def Sz:(Am.C4 f p Γ).grw g=Γ.grw g:=an3
def SC:(Am.C4 f p Γ).nst g=Γ.nst g:=an3
end
section
variable {Γ:Env} {h:Nat->Option Row} {e x v o g:Nat} {rest:List D}
def Ux (Γ:Env) (e:Nat) (h:Nat->Option Row) (g x o:Nat) (rest:List D):Option (Row×Nat×Nat×Nat×List D)->Option cH
 | some (r,ty,s,nv,cs)=>G5 e x r ty s nv cs o (Γ.nx.lnd g) (b9 (EH h) rest)
 | none=>none
def Lb:wm Γ e h g (.ptr x v o::rest)=Ux Γ e h g x o rest (iu h x v):=by
 simp only[wm,Ux]<;>cases iu h x v<;>rfl
def EY {r:Row} {ty s nv:Nat} {cs:List D} : Ux Γ e h g x o rest (some (r,ty,s,nv,cs))=G5 e x r ty s nv cs o (Γ.nx.lnd g) (b9 (EH h) rest):=an3
def EW {r:Row} {ty s nv:Nat} {cs alj:List D} {p:Nat×(Nat->Nat->Nat->Nat->List D->List D->Option (D×List D))} : G5 e x r ty s nv cs o (some p) (some (alj,[]))=NW x r ty s o p.1 (bump nv e) (p.2 r.ty ty s o cs alj):=an3
def EX {r:Row} {ty s b k:Nat} {d:D} {a:List D} : NW x r ty s o k (some b) (some (d,a))=if ((a.drop o).take k).all (BQ s)=true then some ⟨d,[(x,some ⟨r.v,r.ty,[.nr ty s b (qp k o a)],false,r.lst,true⟩)]⟩ else none:=an3
end
end Go.Proofs.YtobnihfgnbnncaaGreat.Am
namespace Go.Proofs.YtobnihfgnbnncaaGreat.P
open Go.RowKit
def FU:Nat:=1000000000000000000000000
def sU {σ ρ:Type} (a:σ->Option (σ⊕ρ)):Nat->σ->Option ρ
 | 0,_=>none
 | n+1,s =>
  match a s with
  | some (.inl b)=>sU a n b
  | some (.inr r)=>some r
  | none=>none
def aR {σ ρ:Type} (a:σ->Option (σ⊕ρ)) (s:σ):Option ρ:=sU a FU s
def acT {σ ρ:Type} {a:σ->Option (σ⊕ρ)} (I:σ->Prop) (μ:σ->Nat) (Q:ρ->Prop)
  (b:∀s,I s->(∃c,a s=some (.inl c)∧I c∧μ c<μ s)∨(∃r,a s=some (.inr r)∧Q r)):∀(n:Nat) (s:σ),I s->μ s<n->∃r,sU a n s=some r∧Q r:=by
 intro n
 induction n with
 | zero=>intro s _ h;omega
 | succ n f =>
  intro s g k;rcases b s g with⟨c,d,e,l⟩|⟨r,d,e⟩
  ·obtain⟨r,i,j⟩:=f c e (by omega);exact⟨r,by simp only[sU,d];exact i,j⟩
  ·exact⟨r,by simp only[sU,d],e⟩
def CX {σ ρ:Type} {body:σ->Option (σ⊕ρ)} (I:σ->Prop) (μ:σ->Nat) (Q:ρ->Prop) {s:σ} (c:I s) (d:μ s<FU)
  (a:∀s,I s->(∃b,body s=some (.inl b)∧I b∧μ b<μ s)∨(∃r,body s=some (.inr r)∧Q r)):∃r,aR body s=some r∧Q r:=acT I μ Q a FU s c d
def idx {α:Type} (l:List α) (i:Int):Option α:=if 0<=i∧i<l.length then l[i.toNat]? else none
def Ge {α:Type} (l:List α) (a b:Int):Option (List α):=if 0<=a∧a<=b∧b<=l.length then some ((l.drop a.toNat).take (b.toNat-a.toNat)) else none
def JV {α:Type} (bytes:Nat) (n c:Int) (z:α):Option (List α):=if 0<=n∧n<=c∧c<=maxLen∧c.toNat*bytes<=140737488355328 then some (List.replicate n.toNat z) else none
abbrev Bd (σ ρ:Type):Type:=σ->Option (σ⊕ρ)
def nB {α:Type} (bytes:Nat) (l m:List α):Option (List α):=if l.length+m.length<=maxLen∧(l.length+m.length)*bytes<=140737488355328 then some (l++m) else none
def acR {α:Type} (bytes:Nat) (l:List α) (i:Int) (xs:List α):Option (List α):=if 0<=i∧i<=l.length∧0<xs.length∧(l.length+xs.length)*bytes<=140737488355328 then some (l.take i.toNat++(xs++l.drop i.toNat)) else none
def abV {α:Type} (l:List α) (i j:Int):Option (List α):=if 0<=i∧i<=j∧j<=l.length∧l.length<=maxLen then some (l.take i.toNat++l.drop j.toNat) else none
def SZ {α:Type} (x:Bool×α):Option α:=if x.1=true then none else some x.2
def TC {α:Type} (x:Bool×α):Option α:=if x.1=true then some x.2 else none
def L7 {α:Type} (l:List α):List (Bool×α):=l.map fun x=>(false,x)
def Zo (k:IntKind) (x y:Int):Option Int:=if y=0 then none else some (k.wrap (x.tdiv y))
def Z7 (_:IntKind) (x y:Int):Option Int:=if y=0 then none else some (x.tmod y)
def Kz (k:IntKind) (x y:Int):Option Int:=if y<0 then none else some (k.wrap (x*2 ^ (min y.toNat k.bits)))
def B1 (k:IntKind) (x y:Int):Option Int:=if y<0 then none else some (x.fdiv (2 ^ (min y.toNat k.bits)))
def nN (op:BinOp) (k:IntKind) (x y:Int):Int :=
 let a:=BitVec.ofInt k.bits x
 let b:=BitVec.ofInt k.bits y
 match op with
 | .and=>k.wrap (a &&& b).toNat
 | .or=>k.wrap (a ||| b).toNat
 | .xor=>k.wrap (a ^^^ b).toNat
 | _=>k.wrap (a &&& ~~~b).toNat
def gO {κ α:Type} [DecidableEq κ] (z:α):List (κ×α)->κ->α
 | [],_=>z
 | (k,v)::m,n=>if k=n then v else gO z m n
def qu {κ α:Type} [DecidableEq κ]:List (κ×α)->κ->Bool
 | [],_=>false
 | (k,_)::m,n=>k==n||qu m n
def uC {κ α:Type} [DecidableEq κ]:List (κ×α)->κ->α->List (κ×α)
 | [],n,v=>[(n,v)]
 | (k,x)::m,n,v=>if k=n then (k,v)::m else (k,x)::uC m n v
def sW (l:List Int):List Int:=l.mergeSort fun x y=>decide (x<=y)
def tI (l:List Int):(sW l).length=l.length:=List.length_mergeSort l
def Nd:sW []=[]:=by simp[sW]
def ae {α β:Type} {o:Option α} {f:α->Option β} {r:β} (h:o.bind f=some r):∃a,o=some a∧f a=some r:=by
 cases o with
 | none=>cases h
 | some a=>exact⟨a,rfl,h⟩
def aiV {α:Type} {b:Bool} {x y r:α} (a:b=true) (h:(if b=true then x else y)=r):x=r:=by rw[if_pos a]at h;exact h
def aiU {α:Type} {b:Bool} {x y r:α} (a:b=false) (h:(if b=true then x else y)=r):y=r:=by rw[a]at h;simpa using h
def ai {a b:Prop} (x:a) (y:b):a∧b:=⟨x,y⟩
def sp {α:Type} {b:Bool} {P1 P2 Q:Prop} {x y r:α} (k:(b=true->P1)->(b=false->P2)->Q) (h:(if b=true then x else y)=r) (h1:b=true->x=r->P1) (h2:b=false->y=r->P2):Q:=k (fun a=>h1 a (aiV a h)) fun a=>h2 a (aiU a h)
end Go.Proofs.YtobnihfgnbnncaaGreat.P
namespace Go.Proofs.YtobnihfgnbnncaaGreat.Am
open Go.RowKit Go.Proofs.YtobnihfgnbnncaaGreat.P
structure jr (α:Type) where
 cells:α->List D
 size:Nat
 len:∀x,(cells x).length=size
 pos:0<size
 inj:∀x y,cells x=cells y->x=y
def an {α:Type} (e:jr α):List α->List D
 | []=>[]
 | x::l=>e.cells x++an e l
section
variable {α β:Type} (e:jr α)
def CJ:an e []=[]:=rfl
def ch (x:α) (l:List α):an e (x::l)=e.cells x++an e l:=rfl
def jN:∀l m:List α,an e (l++m)=an e l++an e m
 | [],m=>rfl
 | x::l,m=>by rw[am7,ch,ch,jN l m,am8]
def bS:∀l:List α,(an e l).length=l.length*e.size
 | []=>by simp[an]
 | x::l=>by rw[ch,amu,bS l,e.len,ama,amY];omega
def qO:∀(l:List α) (i:Nat),(an e l).drop (i*e.size)=an e (l.drop i)
 | l,0=>by simp
 | [],i+1=>by simp[an]
 | x::l,i+1=>by
  rw[ch,am9,<- qO l i,amW,e.len,amX (by rw[e.len,amY];omega),amU];congr 1;rw[amY];omega
def ku:∀(l:List α) (i:Nat),(an e l).take (i*e.size)=an e (l.take i)
 | l,0=>by simp[an]
 | [],i+1=>by simp[an]
 | x::l,i+1=>by
  rw[ch,ana,ch,List.take_append,e.len,am4 (by rw[e.len,amY];omega),<- ku l i];congr 2;rw[amY];omega
def y8:∀l m:List α,an e l=an e m->l=m
 | [],[],_=>rfl
 | [],y::m,h=>by
  have:=congrArg List.length h;have a:=e.pos;rw[ch,amu,e.len]at this;simp[an]at this;omega
 | x::l,[],h=>by
  have:=congrArg List.length h;have a:=e.pos;rw[ch,amu,e.len]at this;simp[an]at this;omega
 | x::l,y::m,h=>by
  rw[ch,ch]at h;obtain⟨b,c⟩:=anb h (by rw[e.len,e.len]);rw[e.inj _ _ b,y8 l m c]
def QY:∀(n:Nat) (x:α),rf n (e.cells x)=an e (List.replicate n x)
 | 0,x=>by simp[rf,an]
 | n+1,x=>by rw[amg,ch,<- QY n x];simp[rf,List.replicate_succ]
end
def eI (k:IntKind):jr Int:=⟨fun n=>[.int k n],1,fun _=>rfl,by decide,fun x y h=>by simpa using h⟩
def ahm:jr ByteArray:=⟨fun n=>[.str n],1,fun _=>rfl,by decide,fun x y h=>by simpa using h⟩
def fL {α:Type} (e:jr α):jr (List α):=⟨fun l=>[.sl false false l.length (an e l)],1,fun _=>rfl,by decide,fun x y h=>by
 simp only[alO,D.sl.injEq,true_and,and_true]at h;exact y8 e _ _ h.2⟩
def nQ {α β:Type} (e:jr α) (f:jr β):jr (α×β):=⟨fun x=>e.cells x.1++f.cells x.2,e.size+f.size,fun x=>by rw[amu,e.len,f.len],alu e.pos (Nat.le_add_right _ _),fun x y h=>by
 obtain⟨a,b⟩:=anb h (by rw[e.len,e.len]);exact Prod.ext (e.inj _ _ a) (f.inj _ _ b)⟩
def Bk {α β:Type} (e:jr β) (f:α->β) (hf:∀x y,f x=f y->x=y):jr α:=⟨fun x=>e.cells (f x),e.size,fun x=>e.len _,e.pos,fun x y h=>hf _ _ (e.inj _ _ h)⟩
structure Arg (α:Type) where
 d:α->D
 inj:∀x y,d x=d y->x=y
def aI (k:IntKind):Arg Int:=⟨fun n =>.int k n,fun x y h=>by simpa using h⟩
def agm:Arg Bool:=⟨fun n =>.bool n,fun x y h=>by simpa using h⟩
def jX {α:Type} (e:jr α):Arg (List α):=⟨fun l =>.sl false false l.length (an e l),fun x y h=>by
 simp only[D.sl.injEq,true_and]at h;exact y8 e _ _ h.2⟩
def bW {α:Type} (e:jr α):Arg α:=⟨fun x =>.agg (e.cells x),fun x y h=>e.inj _ _ (by simpa using h)⟩
def aiE (k:IntKind) (n:Int):(aI k).d n=.int k n:=an3
def Wz (n:Bool):agm.d n=.bool n:=an3
def ago {α:Type} (e:jr α) (l:List α):(jX e).d l=.sl false false l.length (an e l):=an3
def abh {α:Type} (e:jr α) (x:α):(bW e).d x=.agg (e.cells x):=an3
def CA (k:IntKind) (n:Int):(eI k).cells n=[.int k n]:=an3
def DH {α:Type} (e:jr α) (l:List α):(fL e).cells l=[.sl false false l.length (an e l)]:=an3
structure kM (α:Type) where
 ds:α->List D
 inj:∀x y,ds x=ds y->x=y
def as0:kM Unit:=⟨fun _=>[],fun _ _ _=>rfl⟩
def dM {α:Type} (a:Arg α):kM α:=⟨fun x=>[a.d x],fun x y h=>a.inj _ _ (by simpa using h)⟩
def gj {α β:Type} (a:Arg α) (b:kM β):kM (α×β):=⟨fun x=>a.d x.1::b.ds x.2,fun x y h=>by
 simp only[alO]at h;exact Prod.ext (a.inj _ _ h.1) (b.inj _ _ h.2)⟩
def ej {α β:Type} (A:kM α) (F:α->Option β) (R:β->RK):Option (D×Row)->List D->Option (RK×Option Row):=fun cc b =>
 match cc with
 | none=>open Classical in if h:∃a,A.ds a=b then (F (Classical.choose h)).map fun r=>(R r,none) else none
 | some _=>none
def cF {α β:Type} (A:kM α) (F:α->Option β) (R:β->RK) (a:α):ej A F R none (A.ds a)=(F a).map fun r=>(R r,none):=by
 have h:∃b,A.ds b=A.ds a:=⟨a,rfl⟩;simp only[ej];rw[dif_pos h,A.inj _ _ (Classical.choose_spec h)]
def wC {α β:Type} {A:kM α} {F:α->Option β} {R:β->RK} {cc:Option (D×Row)} {c:List D} {d:RK} {b:Option Row} (h:ej A F R cc c=some (d,b)):cc=none∧b=none∧∃a r,c=A.ds a∧F a=some r∧d=R r:=by
 unfold ej at h;split at h
 ·split at h
  ·rename_i f;rw[alo]at h;obtain⟨r,g,e⟩:=h;simp only[Prod.mk.injEq]at e;obtain⟨rfl,rfl⟩:=e;exact⟨rfl,rfl,_,r,(Classical.choose_spec f).symm,g,rfl⟩
  ·cases h
 ·cases h
structure ck (P:Program) (f:FuncId) (G:Option (D×Row)->List D->Option (RK×Option Row)):Prop where
 calls:∀cc alj rk out,G cc alj=some (rk,out)->vB P f cc alj rk out
 callable:fl P f
def ck.of {P:Program} {T:Nat->Option Ty} {Γ:Env} (i:ke P T) (j:bV P Γ) (k:P.follows .mixedOrders=true) {α β:Type} {A:kM α} {F:α->Option β} {R:β->RK} {d:Mode} {f:FuncId} {b:Func} (g:P.funcs[f]? = some b) (e:(match b.body with|some c=>codeOk c|none=>true)=true)
  (l:(b.name == "runtime.NumGoroutine")=false∧b.body.isNone=false) (m:∀a,(A.ds a).length<=b.ntmps) (h:∀a r,F a=some r->jx d T Γ FU b none (A.ds a)=some (R r,none)):ck P f (ej A F R) where
 calls cc alj rk out n:=by
  obtain⟨rfl,rfl,a,r,rfl,o,rfl⟩:=wC n;exact mw i j k g e (m a) rfl (h a r o)
 callable:=⟨b,g,l⟩
def bV.add {P:Program} {Γ:Env} (a:bV P Γ) {f:Nat} {G:Option (D×Row)->List D->Option (RK×Option Row)} (h:ck P f G) (l:Bool):bV P (Am.ext Γ f l G):=a.ext h.calls h.callable
section
variable {T:Nat->Option Ty} {Γ:Env} {N e:Nat} {ws:List W} {Q:Kt} {t:Nat->D} {h:Nat->Option Row}
def LK {σ ρ:Type} (b:σ->(Nat->D)->(Nat->Option Row)->Nat->Prop) (a:ρ->Ex->(Nat->D)->(Nat->Option Row)->Nat->Prop) (c:σ⊕ρ):Kt:=fun x t h e =>
 match x with
 | .normal=>∃d,c=.inl d∧b d t h e
 | x=>∃o,c=.inr o∧a o x t h e
def iD {σ ρ:Type} {a:σ->(Nat->D)->(Nat->Option Row)->Nat->Prop} {b:ρ->Ex->(Nat->D)->(Nat->Option Row)->Nat->Prop} {c:σ} (k:a c t h e):LK a b (.inl c) .normal t h e:=⟨c,rfl,k⟩
def kf {σ ρ:Type} {b:σ->(Nat->D)->(Nat->Option Row)->Nat->Prop} {a:ρ->Ex->(Nat->D)->(Nat->Option Row)->Nat->Prop} {o:ρ} {n:Nat} (k:a o (.exit n) t h e):LK b a (.inr o) (.exit n) t h e:=⟨o,rfl,k⟩
def uq {σ ρ:Type} {b:σ->(Nat->D)->(Nat->Option Row)->Nat->Prop} {a:ρ->Ex->(Nat->D)->(Nat->Option Row)->Nat->Prop} {o:ρ} (k:a o .ret t h e):LK b a (.inr o) .ret t h e:=⟨o,rfl,k⟩
def az {σ ρ:Type} {a:σ->Option (σ⊕ρ)} {b:Code} (d:σ->(Nat->D)->(Nat->Option Row)->Nat->Prop) (f:ρ->Ex->(Nat->D)->(Nat->Option Row)->Nat->Prop) {q:σ} {j:ρ} (w:aR a q=some j) (y:d q t h e)
  (k:∀s t h e,d s t h e->∀c,a s=some c->eh T Γ N FU [.code b] (LK d f c) .normal t h e)
  (g:∀x t h e,f j x t h e->eh T Γ N FU ws Q x t h e):Yc T Γ N FU b ws Q t h e:=by
 have key:∀(n:Nat) (s:σ) (t:Nat->D) (h:Nat->Option Row) (e:Nat),d s t h e->sU a n s=some j->∃x l,iter (iF T Γ N FU b) n ⟨t,h,e⟩=some (x,l)∧eh T Γ N FU ws Q x l.t l.h l.e:=by
  intro n
  induction n with
  | zero=>intro s t h e _ i;cases i
  | succ n z =>
   intro s t h e A i;simp only[sU]at i;cases r:a s with
   | none=>rw[r]at i;cases i
   | some c =>
    rw[r]at i;obtain⟨x,u,B,v⟩:=EL _ _ _ _ _ (show Py T Γ N FU b t h e (LK d f c) from k s t h e A c r);simp only[iter,B];cases x with
    | normal =>
     obtain⟨l,rfl,p⟩:=v;exact z l u.t u.h u.e p i
    | exit m =>
     obtain⟨o,rfl,p⟩:=v;simp only[alz]at i;subst i;exact⟨_,_,rfl,g _ _ _ _ p⟩
    | ret =>
     obtain⟨o,rfl,p⟩:=v;simp only[alz]at i;subst i;exact⟨_,_,rfl,g _ _ _ _ p⟩
 exact key FU q t h e y w
def Dr {d:D} {g:Nat} {A B A' B':(Nat->D)->Prop} (a:Wc d t g A B) (h1:∀t,A t->A' t) (h2:∀t,B t->B' t):Wc d t g A' B':=by
 cases d with
 | bool b=>exact⟨fun c=>h1 _ (a.1 c),fun c=>h2 _ (a.2 c)⟩
 | _=>exact a
def JR {d:D} {g:Nat} {A B S A' B' S':(Nat->D)->Prop} (a:wpS d t g A B S) (b:∀t,A t->A' t) (c:∀t,B t->B' t) (e:∀t,S t->S' t):wpS d t g A' B' S':=by
 unfold wpS at a ⊢;split at a
 ·exact e _ a
 ·exact Dr a b c
def IJ {α:Type} {x:Option α} {K K':α->Prop} (b:wE x K) (c:∀a,K a->K' a):wE x K':=by
 cases x with
 | none=>exact b
 | some a=>exact c a b
def Uc {ops:List Oper} {gd:Option (Nat×Bool)} {A B A' B':(Nat->D)->Prop} (b:wpG ops t gd A B) (c:∀t,A t->A' t) (d:∀t,B t->B' t):wpG ops t gd A' B':=by
 unfold wpG at b ⊢;split
 ·exact c _ b
 ·rename_i j a;refine IJ b fun g e=>JR e ?_ ?_ d
  ·intro t f;cases a<;>simp_all
  ·intro t f;cases a<;>simp_all
def Du {o:Oper} {K K':(Nat->D)->cH->Prop} (d:Ub T Γ e o t h K) (h1:∀t E,K t E->K' t E):Ub T Γ e o t h K':=by
 unfold Ub at d ⊢;split
 ·rename_i f;rw[f]at d;exact Dr d (fun _ h=>h1 _ _ h) (fun _ h=>h1 _ _ h)
 ·rename_i g;split at d
  ·rename_i c a b f;exact absurd f (g _ _ _)
  ·exact IJ d (fun _ h=>h1 _ _ h)
def Ar {ops:List Oper} {K K':(Nat->D)->(Nat->Option Row)->Prop} (h1:∀t h,K t h->K' t h):∀(l:List Oper) (t:Nat->D) (h:Nat->Option Row),Jm T Γ N e ops l t h K->Jm T Γ N e ops l t h K'
 | [],t,h,hk=>h1 _ _ hk
 | o::l,t,h,hk=>by
  unfold Jm at hk ⊢;exact⟨hk.1,Uc hk.2 (fun t a=>Du a fun t E b=>Ar h1 l _ _ b) (fun t a=>Ar h1 l _ _ a)⟩
def Ao {ops:List Oper} {K K':(Nat->D)->(Nat->Option Row)->List nA->Prop} (h1:∀t h fs,K t h fs->K' t h fs):∀(l:List Oper) (t:Nat->D) (h:Nat->Option Row) (fs:List nA),runK T Γ N e ops l t h fs K->runK T Γ N e ops l t h fs K'
 | [],t,h,fs,hk=>h1 _ _ _ hk
 | o::l,t,h,fs,hk=>by
  unfold runK at hk ⊢;exact⟨hk.1,Uc hk.2 (fun t a=>Du a fun t E b=>Ao h1 l _ _ _ b) (fun t a=>Ao h1 l _ _ _ a)⟩
def aeB {ops:Array Oper} {a:Bool} {K K':(Nat->D)->(Nat->Option Row)->Prop} (b:wpR T Γ N ops a t h e K) (c:∀t h,K t h->K' t h):wpR T Γ N ops a t h e K':=by
 unfold wpR at b ⊢;cases a with
 | true=>exact Ao (fun t h fs d=>⟨d.1,c _ _ d.2⟩) _ _ _ _ b
 | false=>exact Ar c _ _ _ b
def aaV {F:Nat} : ∀(c:Code) (t:Nat->D) (h:Nat->Option Row) (e:Nat) (K K':Kt),Py T Γ N F c t h e K->(∀x t h e,K x t h e->K' x t h e)->Py T Γ N F c t h e K':=by
 intro c
 induction c with
 | skip=>intro t h e K K' d hm;exact hm _ _ _ _ d
 | region i ops draw=>intro t h e K K' d hm;exact aeB d fun t h p=>hm _ _ _ _ p
 | seq a b j k =>
  intro t h e K K' d hm;refine j _ _ _ _ _ d fun x t h e f =>?_;cases x with
  | normal=>exact k _ _ _ _ _ f hm
  | exit n=>exact hm _ _ _ _ f
  | ret=>exact hm _ _ _ _ f
 | cond c x y ihx ihy =>
  intro t h e K K' d hm;unfold Py at d ⊢;cases c with
  | tmp g=>exact Dr d (fun t l=>ihx _ _ _ _ _ l hm) (fun t l=>ihy _ _ _ _ _ l hm)
  | const v =>
   cases v with
   | bool b =>
    cases b with
    | true=>exact ihx _ _ _ _ _ d hm
    | false=>exact ihy _ _ _ _ _ d hm
   | _=>exact d
  | _=>exact d
 | block id b o =>
  intro t h e K K' d hm;refine o _ _ _ _ _ d fun x t h e f =>?_;cases x with
  | normal=>exact hm _ _ _ _ f
  | ret=>exact hm _ _ _ _ f
  | exit n =>
   unfold abA at f ⊢;simp only at f ⊢;split at f
   ·rename_i m;rw[if_pos m];exact hm _ _ _ _ f
   ·rename_i m;rw[if_neg m];exact hm _ _ _ _ f
 | loop b o =>
  intro t h e K K' d hm;obtain⟨x,s,q,r⟩:=d;exact⟨x,s,q,hm _ _ _ _ r⟩
 | exit id=>intro t h e K K' d hm;exact hm _ _ _ _ d
 | ret=>intro t h e K K' d hm;exact hm _ _ _ _ d
 | _=>intro t h e K K' d;exact d.elim
def CK {σ:Type} (J:σ->(Nat->D)->(Nat->Option Row)->Nat->Prop) (P:σ->Prop) (R:Kt):Kt:=fun x t h e =>
 match x with
 | .normal=>∃s,P s∧J s t h e
 | x=>R x t h e
def aF {σ:Type} {J:σ->(Nat->D)->(Nat->Option Row)->Nat->Prop} {P:σ->Prop} {R:Kt} : CK J P R .normal t h e = ∃s,P s∧J s t h e:=an3
end
section
variable {h:Nat->Option Row}
def Ld {k:IntKind} {n:Int} : canon (.int k n)=.int k n:=an3
def Le {b:ByteArray} : canon (.str b)=.str b:=an3
def Qd {a b:Bool} {n:Nat} {xs:List D} : canon (.sl a b n xs)=.sl false false n xs:=an3
def G6 {xs:List D} : kp (.agg xs)=.agg (xs.map canon):=an3
def clB (x s o n:Nat):Option Row->Option (D×List Nat)
 | some r=>if o+n*s<=r.cells.length then some (.sl false false n ((r.cells.drop o).take (n*s)),[x]) else none
 | none=>none
def Qm {x s o n:Nat} {r:Row} : clB x s o n (some r)=if o+n*s<=r.cells.length then some (.sl false false n ((r.cells.drop o).take (n*s)),[x]) else none:=an3
def clP (x o:Nat):Option Row->Option (D×List Nat)
 | some r=>if o<=r.cells.length then some (.ip (r.cells.drop o),[x]) else none
 | none=>none
def Qq {x o:Nat} {r:Row} : clP x o (some r)=if o<=r.cells.length then some (.ip (r.cells.drop o),[x]) else none:=an3
def Qi {k:IntKind} {n:Int} : cZ h (.int k n)=some (.int k n,[]):=an3
def Lg {b:Bool} : cZ h (.bool b)=some (.bool b,[]):=an3
def WV {a b:Bool} {n:Nat} {xs:List D} : cZ h (.sl a b n xs)=some (.sl false false n xs,[]):=an3
def Qf {xs:List D} : cZ h (.agg xs)=some (.agg (xs.map canon),[]):=an3
def WU {xs:List D} : cZ h (.ip xs)=some (.ip xs,[]):=an3
def WT {f:Nat} : cZ h (.fn f)=some (.fn f,[]):=an3
def Qg {x v s o n:Nat} : cZ h (.buf x v s o n)=clB x s o n (live h x v):=by
 simp only[cZ,bX,eY];cases live h x v with
 | none=>rfl
 | some r=>by_cases a:o+n*s<=r.cells.length<;>simp[clB,a,canon]
def Qj {x v o:Nat} : cZ h (.ptr x v o)=clP x o (live h x v):=by
 simp only[cZ,bX];cases live h x v with
 | none=>rfl
 | some r=>simp only[clP]
def abT {k:IntKind} {n:Int} : gY h (.int k n)=some ([.int k n],[]):=an3
def abU {b:ByteArray} : gY h (.str b)=some ([.str b],[]):=an3
def ags {a b:Bool} {n:Nat} {xs:List D} : gY h (.sl a b n xs)=some ([.sl a b n xs],[]):=an3
def abR {xs:List D} : gY h (.agg xs)=some (xs,[]):=an3
def cvB:Option (D×List Nat)->Option (List D×List Nat)
 | some (d,fr)=>some ([d],fr)
 | none=>none
def Qx {d:D} {fr:List Nat} : cvB (some (d,fr))=some ([d],fr):=an3
def abS {x v s o n:Nat} : gY h (.buf x v s o n)=cvB (clB x s o n (live h x v)):=by
 simp only[gY,eY];cases live h x v with
 | none=>rfl
 | some r=>by_cases a:o+n*s<=r.cells.length<;>simp[clB,cvB,a]
def clF (h:Nat->Option Row):Option (D×List Nat)->Option cH
 | some (d,fr)=>some ⟨d,lh h fr⟩
 | none=>none
def Qo {d:D} {fr:List Nat} : clF h (some (d,fr))=some ⟨d,lh h fr⟩:=an3
def WB {x v s o n:Nat} : pO h (.buf x v s o n)=clF h (clB x s o n (live h x v)):=by
 simp only[pO,tU,eY];cases live h x v with
 | none=>rfl
 | some r=>by_cases a:o+n*s<=r.cells.length<;>simp[clB,clF,a,canon,kp]
variable {Γ:Env} {f g e:Nat} {l:Bool} {G:Option (D×Row)->List D->Option (RK×Option Row)} {cc:Option (D×Row)} {alj:List D} {dst:Option Nat} {fr:List Nat}
def L3:(Am.ext Γ f l G).lends g=if g=f then l else Γ.lends g:=an3
def Xn:(Am.ext Γ f l G).sem g cc alj=if g=f then G cc alj else Γ.sem g cc alj:=an3
def Xm {d:Nat} : (Am.ext Γ f l G).own d=Γ.own d:=an3
def MB {d:Nat} : bk.own d=true:=an3
def RO {d i:Nat} : (Am.keep d Γ).own i=(i != d&&Γ.own i):=an3
def Ik {d i:Nat} : (Am.keep d Γ).lends i=Γ.lends i:=an3
def RQ {d i:Nat} : (Am.keep d Γ).sem i cc alj=Γ.sem i cc alj:=an3
def FV (b:Bool) (Γ:Env) (h:Nat->Option Row) (e:Nat) (dst:Option Nat) (g:Nat) (a:List D):Option cH :=
 if b then
  match a with
  | .buf x v s o n::rest=>tT Γ h e dst g x v (.buf 0 0 s o n) rest
  | .ptr x v o::rest=>tT Γ h e dst g x v (.ptr 0 0 o) rest
  | .mp x v::rest=>tT Γ h e dst g x v (.mp 0 0) rest
  | _=>none
 else yI Γ h e dst g a
def aeX (p:Option (Nat×Nat×Nat)) (Γ:Env) (h:Nat->Option Row) (e:Nat) (dst:Option Nat) (g:Nat) (a:List D):Option cH :=
 match p with
 | some p=>xX h e dst p a
 | none =>
  match Γ.grw g with
  | some p=>AO h p a
  | none=>FV (Γ.lends g) Γ h e dst g a
def aiM (p:Option Grow) (Γ:Env) (h:Nat->Option Row) (e:Nat) (dst:Option Nat) (g:Nat) (a:List D):Option cH :=
 match p with
 | some p=>AO h p a
 | none=>FV (Γ.lends g) Γ h e dst g a
def K6 {a:List D} : aeX none Γ h e dst g a=aiM (Γ.grw g) Γ h e dst g a:=an3
def K5 {a:List D} : aiM none Γ h e dst g a=FV (Γ.lends g) Γ h e dst g a:=an3
def Xj {f:Nat} {l:Bool} {G:Option (D×Row)->List D->Option (RK×Option Row)} : (Am.ext Γ f l G).grw g=Γ.grw g:=an3
def RL {d:Nat} : (Am.keep d Γ).grw g=Γ.grw g:=an3
def RF {f:Nat} {p:Nat×Nat×Nat} : (Am.Ii f p Γ).grw g=Γ.grw g:=an3
def Mx:bk.grw g=none:=an3
def K7 {p:Nat×Nat×Nat} {a:List D} : aeX (some p) Γ h e dst g a=xX h e dst p a:=an3
def Xk {f:Nat} {l:Bool} {G:Option (D×Row)->List D->Option (RK×Option Row)} : (Am.ext Γ f l G).ins g=Γ.ins g:=an3
def RM {d:Nat} : (Am.keep d Γ).ins g=Γ.ins g:=an3
def My:bk.ins g=none:=an3
def RG {f:Nat} {p:Nat×Nat×Nat} : (Am.Ii f p Γ).ins g=if g=f then some p else Γ.ins g:=an3
def Ij {f:Nat} {p:Nat×Nat×Nat} : (Am.Ii f p Γ).lends g=Γ.lends g:=an3
def RI {f:Nat} {p:Nat×Nat×Nat} {l:Option (D×Row)} {alj:List D} : (Am.Ii f p Γ).sem g l alj=Γ.sem g l alj:=an3
def RH {f:Nat} {p:Nat×Nat×Nat} {d:Nat} : (Am.Ii f p Γ).own d=Γ.own d:=an3
def abF (ty k b x y s c o f n m:Nat) (i:Int) (e:Nat) (d:Nat):Option Row->Option Row->Option cH
 | some r,some a =>
   if r.fz=false∧a.fz=false∧r.lst=true∧a.lst=true∧x≠y∧s=k∧c=k∧r.ty=ty∧a.ty=ty∧o=0∧f=0∧r.cells.length=n*k∧a.cells.length=m*k∧0<=i∧i<=n∧0<m∧(n+m)*b<=140737488355328 then
    some ⟨.buf d e k 0 (n+m),[(y,none),(x,none),(d,some ⟨e,ty,r.cells.take (i.toNat*k)++(a.cells++r.cells.drop (i.toNat*k)),false,true,false⟩)]⟩
   else none
 | _,_=>none
def WN {ty k a x v s o n y b c f m d:Nat} {i:Int} : xX h e (some d) (ty,k,a) [.buf x v s o n,.int .i64 i,.buf y b c f m]=abF ty k a x y s c o f n m i e d (live h x v) (live h y b):=by
 simp only[xX,abF];cases live h x v with
 | none=>rfl
 | some r=>cases live h y b<;>rfl
def GZ {ty k b x y s c o f n m : Nat} {i : Int} {d : Nat} {r a : Row} : abF ty k b x y s c o f n m i e d (some r) (some a) = if r.fz = false ∧ a.fz = false ∧ r.lst = true ∧ a.lst = true ∧ x ≠ y ∧ s = k ∧ c = k ∧ r.ty = ty ∧ a.ty = ty ∧ o = 0 ∧ f = 0 ∧ r.cells.length = n * k ∧ a.cells.length = m * k ∧ 0 <= i ∧ i <= n ∧ 0 < m ∧ (n + m) * b <= 140737488355328 then
        some ⟨.buf d e k 0 (n + m), [(y, none), (x, none), (d, some ⟨e, ty, r.cells.take (i.toNat * k) ++ (a.cells ++ r.cells.drop (i.toNat * k)), false, true, false⟩)]⟩
      else none := Eq.trans rfl rfl
def WR {a:List D} : ki Γ h e dst (.fn g) a=aeX (Γ.ins g) Γ h e dst g a:=by
 simp only[ki,aeX,FV];cases Γ.ins g with
 | none=>cases Γ.grw g<;>rfl
 | some p=>rfl
def Y5 (h:Nat->Option Row) (e:Nat) (dst:Option Nat) (fr:List Nat):Option (RK×Option Row)->Option cH
 | some (.clean r,_)=>some ⟨r,if kv r then [] else lh h fr⟩
 | some (.fresh ty s n cells,_) =>
  match dst with
  | some d=>if fr.contains d=false then some ⟨.buf d e s 0 n,(if uf cells then [] else lh h fr)++[(d,some ⟨e,ty,cells,false,true,false⟩)]⟩ else none
  | none=>none
 | _=>none
def aeW (Γ:Env) (h:Nat->Option Row) (e:Nat) (dst:Option Nat) (g:Nat):Option (List D×List Nat)->Option cH
 | some (alj,fr)=>Y5 h e dst fr (Γ.sem g none alj)
 | none=>none
def K8 {a:List D} : FV false Γ h e dst g a=aeW Γ h e dst g (b9 h a):=by
 simp only[FV,alY,if_false,yI,aeW];cases b9 h a with
 | none=>rfl
 | some p =>
  obtain⟨alj,fr⟩:=p;simp only;cases c:Γ.sem g none alj with
  | none=>rfl
  | some q =>
   obtain⟨b,o⟩:=q;cases b<;>rfl
def K4:aeW Γ h e dst g (some (alj,fr))=Y5 h e dst fr (Γ.sem g none alj):=an3
def acE (h:Nat->Option Row) (fr:List Nat):Bool->List (Nat×Option Row)
 | true=>[]
 | false=>lh h fr
def Me:acE h fr true=[]:=an3
def HO:acE h fr false=lh h fr:=an3
def Rh {b:Bool} : acE h [] b=[]:=by cases b<;>rfl
def G2 {r:D} {o:Option Row} : Y5 h e dst fr (some (.clean r,o))=some ⟨r,acE h fr (kv r)⟩:=by
 simp only[Y5]<;>cases kv r<;>rfl
def Xp:lh h []=[]:=an3
def Ri {x:Nat} : lh h (x::fr)=(x,(h x).map ym)::lh h fr:=an3
def Lh:b9 h []=some ([],[]):=an3
def caC (p:Option (D×List Nat)) (q:Option (List D×List Nat)):Option (List D×List Nat) :=
 match p,q with
 | some (c,fr),some (a,b)=>some (c::a,fr++b)
 | _,_=>none
def PX {d:D} {fr a:List Nat} {b:List D} : caC (some (d,fr)) (some (b,a))=some (d::b,fr++a):=an3
def G7 {d:D} {a:List D} : b9 h (d::a)=caC (cZ h d) (b9 h a):=by
 simp only[b9];cases cZ h d with
 | none=>rfl
 | some p=>cases b9 h a<;>rfl
variable {T:Nat->Option Ty} {s:St} {rs:List ResultVar} {r:ResultVar}
def Tf:yy T s []=some ([],[]):=an3
def MX:yy T s (r::rs)=caC (Td T s r) (yy T s rs):=by
 simp only[yy];cases Td T s r with
 | none=>rfl
 | some p=>cases yy T s rs<;>rfl
def Te {t:Nat->D} {i:Nat} : Td T ⟨t,h,e⟩ (.tmp i)=cZ h (t i):=an3
def ahQ (T:Nat->Option Ty) (h:Nat->Option Row) (d:D) (τ:Option Ty):Option (D×List Nat) :=
 match τ,d with
 | some τ,.ptr x v o=>match fW τ h (.ptr x v o) with|some E=>some (kp E.val,[])|none=>none
 | _,_=>none
def MV {t:Nat->D} {i ty:Nat} : Td T ⟨t,h,e⟩ (.cell i ty)=ahQ T h (t i) (T ty):=an3
def ahR:Option cH->Option (D×List Nat)
 | some E=>some (kp E.val,[])
 | none=>none
def MW {d:D} {w:List (Nat×Option Row)} : ahR (some ⟨d,w⟩)=some (kp d,[]):=an3
def Tc {τ:Ty} {x v o:Nat} : ahQ T h (.ptr x v o) (some τ)=ahR (fW τ h (.ptr x v o)):=by
 simp only[ahQ,ahR]
def aho (p:Option (List D×List Nat)):Option (RK×Option Row) :=
 match p with
 | some (ds,_)=>some (.clean (oQ ds),none)
 | none=>none
def LO {a:List D} {fr:List Nat} : aho (some (a,fr))=some (.clean (oQ a),none):=an3
def HE:gG .clean T none rs s=aho (yy T s rs):=by
 simp only[gG,ue,ov,adu,aho]<;>cases yy T s rs<;>rfl
def G3 {ty a n d:Nat} {cells:List D} {o:Option Row} : Y5 h e (some d) fr (some (.fresh ty a n cells,o))=if fr.contains d=false then some ⟨.buf d e a 0 n,acE h fr (uf cells)++[(d,some ⟨e,ty,cells,false,true,false⟩)]⟩ else none:=by
 simp only[Y5]<;>cases uf cells<;>rfl
def DK {k:IntKind} : ∀l:List Int,uf (an (eI k) l)=true
 | []=>rfl
 | x::l=>by
  have:=DK (k:=k) l;simp only[ch,CA,List.cons_append,List.nil_append,uf,kv,this,Bool.and_self]
def HF {ty a i:Nat} {t:Nat->D} : gG (.fresh ty a) T none [.tmp i] ⟨t,h,e⟩=tF ty a h (t i):=an3
def W9 {ty a x v o n:Nat} : tF ty a h (.buf x v a o n)=Ag ty a o n (live h x v):=by simp[tF]
def QU {ty a o n:Nat} {r:Row} : Ag ty a o n (some r)=if r.fz=false∧r.ty=ty∧o+n*a<=r.cells.length then some (.fresh ty a n ((r.cells.drop o).take (n*a)),none) else none:=an3
def Jf {d:D} : oQ [d]=d:=an3
def Jg {d a:D} {b:List D} : oQ (d::a::b)=.tup (d::a::b):=an3
end
def W8 (k:IntKind):(eI k).size=1:=an3
def QT {α:Type} (e:jr α):(fL e).size=1:=an3
section
variable {α:Type} (E:jr α) {l m:List α} {x x' z:α} {i a b n c:Int} {B:Nat}
def oK (h:P.idx l i=some x):0<=i∧i<l.length:=by
 unfold P.idx at h;split at h
 ·assumption
 ·cases h
def Oy (h:P.idx l i=some x):l[i.toNat]? = some x:=by
 unfold P.idx at h;split at h
 ·exact h
 ·cases h
def Ai (h:P.idx l i=some x):(an E l).drop (i.toNat*E.size)=E.cells x++an E (l.drop (i.toNat+1)):=by
 have h':=Oy h;obtain⟨a,rfl⟩:=alT.1 h';rw[qO,anc a];rfl
def ma (a:Nat) (h:P.idx l i=some x):(an E l).drop (i.toNat*E.size+a)=(E.cells x++an E (l.drop (i.toNat+1))).drop a:=by
 rw[<- am0,Ai E h]
def kR (h:P.idx l i=some x):i.toNat*E.size+E.size<=l.length*E.size:=by
 have h':=oK h;have:i.toNat+1<=l.length:=by omega
 have:=al8 E.size this
 rwa [amY]at this
def bz (h:P.idx l i=some x):(0<=i∧i<l.length)∧(an E l).drop (i.toNat*E.size)=E.cells x++an E (l.drop (i.toNat+1))∧i.toNat*E.size+E.size<=l.length*E.size:=⟨oK h,Ai E h,kR E h⟩
def lj (a s:Nat) (b:a+s<=E.size) (h:P.idx l i=some x):i.toNat*E.size+a+s<=l.length*E.size:=by
 have:=kR E h;omega
def VD:∀(l:List α) (i:Nat) (x:α),l[i]? = some x->∀x',an E (l.set i x')=(an E l).take (i*E.size)++E.cells x'++(an E l).drop (i*E.size+E.size)
 | [],i,x,h,x'=>by simp at h
 | y::l,0,x,h,x'=>by
  rw[List.set_cons_zero,ch,ch,am2,ane,amU,amr,amW,E.len,amx,am3,amX (by rw[E.len];exact alq _),amU]
 | y::l,i+1,x,h,x'=>by
  have b:=VD l i x (by simpa using h) x';rw[List.set_cons_succ,ch,ch,b,amY];have a:=E.len y;have c:(E.cells y++an E l).take (i*E.size+E.size)=E.cells y++(an E l).take (i*E.size):=by rw[List.take_append,a,am4 (by omega),amZ]
  have d:(E.cells y++an E l).drop (i*E.size+E.size+E.size)=(an E l).drop (i*E.size+E.size):=by
   rw[amW,a,amX (by omega),amU,amZ]
  rw[c,d];simp only[am8]
def fE (fo:Nat) (cs:List D) (h:P.idx l i=some x) (d:E.cells x'=putCells (E.cells x) fo cs) (e:fo+cs.length<=E.size):putCells (an E l) (i.toNat*E.size+fo) cs=an E (l.set i.toNat x'):=by
 have h':=Oy h;rw[VD E l i.toNat x h' x',d];have b:=Ai E h;have o:=kR E h;have q:=bS E l;have f:=E.len x;have a:an E l=(an E l).take (i.toNat*E.size)++(E.cells x++(an E l).drop (i.toNat*E.size+E.size)):=by
  have g:=am1 (i.toNat*E.size) (an E l);have j:(an E l).drop (i.toNat*E.size+E.size)=an E (l.drop (i.toNat+1)):=by
   rw[<- am0,b,amW,f,amx,am3,amX (by omega),amU]
  rw[j,<- b,g]
 generalize (an E l).drop (i.toNat*E.size+E.size)=r at *;generalize k:(an E l).take (i.toNat*E.size)=p at *;have c:p.length=i.toNat*E.size:=by rw[<- k];simp;omega
 unfold putCells;rw[a];have m:(p++(E.cells x++r)).take (i.toNat*E.size+fo)=p++(E.cells x).take fo:=by
  rw[List.take_append,c,am4 (by omega),anf,ang (by omega)]
 have n:(p++(E.cells x++r)).drop (i.toNat*E.size+fo+cs.length)=(E.cells x).drop (fo+cs.length)++r:=by
  rw[alK,amW,c,amX (by omega),anf,amU,anh (by omega)]
 rw[m,n];simp only[am8]
def adE (h:P.idx l i=some x):putCells (an E l) (i.toNat*E.size) (E.cells x')=an E (l.set i.toNat x'):=by
 have:=fE E (x':=x') 0 (E.cells x') h (by unfold putCells;simp[E.len]) (by rw[E.len];omega);simpa using this
def adn (h:JV B n c z=some m):m=List.replicate n.toNat z∧0<=n∧n<=c∧c<=maxLen∧c.toNat*B<=140737488355328:=by
 unfold JV at h;split at h
 ·cases h;exact⟨rfl,by assumption⟩
 ·cases h
def mk_one (h:JV B n n z=some m):0<=n∧n.toNat=m.length∧m.length<=maxLen∧rf m.length (E.cells z)=an E m∧m.length*B<=140737488355328:=by
 obtain⟨rfl,a,_,c,b⟩:=adn h;refine⟨a,by simp,by simp;omega,by rw[QY];simp,by simpa using b⟩
def Ez (h:Ge l a b=some m):0<=a∧0<=b∧a.toNat<=b.toNat∧b.toNat<=l.length∧b.toNat-a.toNat=m.length∧(List.take (m.length*E.size) (List.drop (a.toNat*E.size) (an E l))=an E m):=by
 unfold Ge at h;split at h
 ·rename_i d;cases h;have c:((l.drop a.toNat).take (b.toNat-a.toNat)).length=b.toNat-a.toNat:=by simp;omega
  refine⟨d.1,by omega,by omega,by omega,c.symm,?_⟩;rw[c,qO,ku]
 ·cases h
def ahX (h:Ge l a b=some m):0<=a∧0<=b∧(a.toNat<=b.toNat∧b.toNat<=l.length)∧b.toNat-a.toNat=m.length∧(List.take (m.length*E.size) (List.drop (a.toNat*E.size) (an E l))=an E m):=by
 obtain⟨c,d,e,f,g,i⟩:=Ez E h;exact⟨c,d,⟨e,f⟩,g,i⟩
def VH (h:Ge l a (l.length:Int)=some m):0<=a∧0<=a∧a.toNat<=l.length∧l.length-a.toNat=m.length∧(List.take (m.length*E.size) (List.drop (a.toNat*E.size) (an E l))=an E m):=by
 obtain⟨b,f,c,g,d,e⟩:=Ez E h;simp only[Int.toNat_natCast]at c d;exact⟨b,b,c,d,e⟩
def VI (h:Ge l 0 b=some m):0<=b∧0<=b∧m.length<=l.length∧b.toNat=m.length∧(List.take (m.length*E.size) (an E l)=an E m):=by
 obtain⟨f,c,g,i,d,e⟩:=Ez E h;have a:b.toNat=m.length:=by simpa using d
 refine⟨c,c,by omega,a,by simpa using e⟩
def KO {n:List α} (h:nB B l m=some n):n=l++m∧n.length<=maxLen∧n.length*B<=140737488355328:=by
 unfold nB at h;split at h
 ·rename_i a;cases h;exact⟨rfl,by rw[amu];exact a.1,by rw[amu];exact a.2⟩
 ·cases h
def js {n:List α} (h:nB B l [x]=some n):l.length+1=n.length∧an E l++E.cells x=an E n∧n.length<=maxLen∧n.length*B<=140737488355328:=by
 obtain⟨rfl,a,b⟩:=KO h;exact⟨by simp,by rw[jN];simp[an],a,b⟩
def s7 {n:List α} (h:nB B [] l=some n):n=l∧l.length<=maxLen∧l.length*B<=140737488355328:=by
 obtain⟨rfl,a,b⟩:=KO h;exact⟨rfl,a,b⟩
end
def W0 {k:IntKind} {x y z:Int} (h:Zo k x y=some z):¬y=0∧k.wrap (x.tdiv y)=z:=by
 unfold Zo at h;split at h
 ·cases h
 ·cases h;exact⟨by assumption,rfl⟩
def XS {k:IntKind} {x y z:Int} (h:Z7 k x y=some z):¬y=0∧x.tmod y=z:=by
 unfold Z7 at h;split at h
 ·cases h
 ·cases h;exact⟨by assumption,rfl⟩
def Gr {k:IntKind} {x y z:Int} (h:Kz k x y=some z):¬y<0∧k.wrap (x*2 ^ (min y.toNat k.bits))=z:=by
 unfold Kz at h;split at h
 ·cases h
 ·cases h;exact⟨by assumption,rfl⟩
def xM {k:IntKind} {x y z:Int} (h:B1 k x y=some z):¬y<0∧x.fdiv (2 ^ (min y.toNat k.bits))=z:=by
 unfold B1 at h;split at h
 ·cases h
 ·cases h;exact⟨by assumption,rfl⟩
def WK (op:BinOp) (k:IntKind) (x y:Int):GY op k x y=nN op k x y:=an3
def vB.emp {P:Program} {f:FuncId} {i:RK} {a:Option Row} (v:vB P f none [.sl true true 0 []] i a) (x:vB P f none [.sl true false 0 []] i a):vB P f none [.sl false false 0 []] i a:=by
 intro w M vs k b;have l:=b.2 0 _ rfl;generalize m:vs.getD 0 undef=u at l;cases l with
 | sl A c nl tight n xs o p q y g z r s t =>
  cases A with
  | none =>
   refine v w M vs k ⟨b.1,fun j d e =>?_,b.tab⟩;cases j with
   | zero=>cases e;rw[m];exact .sl none c true true 0 [] o p q (fun _=>⟨fun _=>⟨rfl,(g rfl).2⟩,fun h=>by cases h⟩) g (fun _=>(g rfl).2) r s t
   | succ j=>simp at e
  | some A =>
   refine x w M vs k ⟨b.1,fun j d e =>?_,b.tab⟩;cases j with
   | zero=>cases e;rw[m];exact .sl (some A) c true false 0 [] o p q (fun _=>⟨(fun h=>by cases h),fun _ h=>by cases h⟩) g (fun h=>by cases h) r s t
   | succ j=>simp at e
def ck.ac8 {P:Program} {T:Nat->Option Ty} {Γ:Env} (e:ke P T) (g:bV P Γ) (h:P.follows .mixedOrders=true) {α β:Type} {E:jr α} {F:List α->Option β} {R:β->RK} {mode:Mode} {f:FuncId} {a:Func} (d:P.funcs[f]? = some a) (b:(match a.body with|some c=>codeOk c|none=>true)=true)
  (k:(a.name == "runtime.NumGoroutine")=false∧a.body.isNone=false) (i:1<=a.ntmps)
  (m:∀r,F []=some r->jx mode T Γ FU a none [.sl true true 0 []]=some (R r,none))
  (n:∀r,F []=some r->jx mode T Γ FU a none [.sl true false 0 []]=some (R r,none))
  (o:∀l r,0<l.length->F l=some r->jx mode T Γ FU a none [.sl false false l.length (an E l)]=some (R r,none)):ck P f (ej (dM (jX E)) F R) where
 calls cc alj rk out p:=by
  obtain⟨rfl,rfl,l,r,rfl,j,rfl⟩:=wC p;cases l with
  | nil=>exact vB.emp (mw e g h d b i rfl (m r j)) (mw e g h d b i rfl (n r j))
  | cons x l=>exact mw e g h d b i rfl (o (x::l) r (by simp) j)
 callable:=⟨a,d,k⟩
def afi {α:Type} (E:jr α) {B:Nat} {l n:List α} {i:Int} {x:α} (h:acR B l i [x]=some n):0<=i∧i<=(l.length:Int)∧l.length+1=n.length∧n.length*B<=140737488355328 ∧
  (an E l).take (i.toNat*E.size)++(E.cells x++(an E l).drop (i.toNat*E.size))=an E n:=by
 unfold acR at h;split at h
 ·rename_i b;cases h;obtain⟨c,d,-,e⟩:=b;have a:l.length+1=(l.take i.toNat++([x]++l.drop i.toNat)).length:=by simp;omega
  refine⟨c,d,a,by rw[<- a];exact e,?_⟩;rw[jN,jN,ku,qO];simp[an]
 ·cases h
def Un {w:World} {M:Nat->Prop} {k:IntKind} {n:Int} {u:Value} (h:RP w M (.int k n) u):u=.int k n:=by cases h;rfl
def aes {vs:Array Value} (h:vs.size=1):vs = #[vs.getD 0 undef]:=by
 apply amz
 ·simp[h]
 ·intro i a b;have:i=0:=by omega
  subst this;simp[amy a]
def iR (b:Nat) {ty:Nat} {fr:Nat×Nat} : ∀(vs:List Value) (o:Nat) (w:World) (a:Array Value),w.heap[b]? = some (.cells a ty fr)->o+vs.length<=a.size ->
  (w.setCells b o vs).os=w.os∧(w.setCells b o vs).tape=w.tape∧(w.setCells b o vs).output=w.output∧(w.setCells b o vs).heap.size=w.heap.size∧(∀k,k≠b->(w.setCells b o vs).heap[k]? = w.heap[k]?) ∧
  ∃c,(w.setCells b o vs).heap[b]? = some (.cells c ty fr)∧c.size=a.size∧∀j,c[j]? = if o<=j∧j<o+vs.length then vs[j-o]? else a[j]?
 | [],o,w,a,h,_=>⟨rfl,rfl,rfl,rfl,fun k _=>rfl,a,h,rfl,fun j=>by rw[if_neg (by simp)]⟩
 | v::r,o,w,a,h,g=>by
  simp only[List.length_cons]at g;have d:(w.setCell ⟨b,o,none⟩ v).heap[b]? = some (.cells (a.setIfInBounds o v) ty fr):=by
   simp[World.setCell,alA,h]
  obtain⟨i,l,m,n,p,c,q,s,t⟩:=iR b r (o+1) (w.setCell ⟨b,o,none⟩ v) _ d (by simp;omega);refine⟨i,l,m,n.trans (by simp[World.setCell]),fun k e=>(p k e).trans (by simp[World.setCell,alA,Ne.symm e]),c,q,by simpa using s,fun j =>?_⟩;rw[t j,ani];simp only[List.length_cons]
  by_cases d:o+1<=j∧j<o+1+r.length
  ·rw[if_pos d,if_pos (by omega)];have:j-o=(j-(o+1))+1:=by omega
   rw[this,amq]
  ·rw[if_neg d]
   by_cases f:o=j
   ·subst f;rw[if_pos rfl,if_pos (by omega),if_pos (by omega),amx];rfl
   ·rw[if_neg f,if_neg (by omega)]
def vm1:=ai @M6<|ai @Tn<|ai @Tl<|ai @M4<|ai @Jn<|ai @M5<|ai @bd<|ai @zH<|ai @yf<|ai @bj<|ai @A3<|ai @FG<|ai @Jp<|ai @M3<|ai @Ny<|ai @JH<|ai @Ti<|ai @MZ<|ai @Jk<|ai @Nz<|ai @JI<|ai @JJ<|ai @FO<|ai @Tj<|ai @M0<|ai @Jl<|ai @NA<|ai @JK<|ai @JL<|ai @FP<|ai @TI<|ai @TM<|ai @Yl<|ai @Yo<|ai @I8<|ai @FB<|ai @I9<|ai @FC<|ai @QF<|ai @QL<|ai @QD<|ai @QK<|ai @He<|ai @Hg<|ai @Ls<|ai @LA<|ai @QG<|ai @QM<|ai @QB<|@QI
def vm2:=ai @Lx<|ai @LG<|ai @Cw<|ai @Cy<|ai @AP<|ai @AT<|ai @AQ<|ai @AU<|ai @Lu<|ai @Lv<|ai @Lt<|ai @LC<|ai @yU<|ai @yV<|ai @AR<|ai @AV<|ai @Lr<|ai @Ly<|ai @W2<|ai @E5<|ai @E6<|ai @E9<|ai @QA<|ai @QH<|ai @E4<|ai @E8<|ai @SL<|ai @SY<|ai @KY<|ai @ER<|ai @Ll<|ai @Q7<|ai @Hn<|ai @Hm<|ai @Ic<|ai @Ib<|ai @cL<|ai @Fk<|ai @cR<|ai @YL<|ai @KQ<|ai @KP<|@L5
def vm3:=ai @L6<|ai @FL<|ai @JG<|ai @JF<|ai @FN<|ai @zO<|ai @yh<|ai @yi<|ai @yj<|ai @FK<|ai @A6<|ai @FM<|ai @wK<|ai @JE<|ai @A5<|ai @Dn<|ai @XW<|ai @Sw<|ai @MU<|ai @MT<|ai @Mj<|ai @WE<|ai @PT<|ai @abz<|ai @WH<|ai @Gk<|ai @WD<|ai @KT<|ai @GU<|ai @WG<|ai @KU<|ai @Ld<|ai @Le<|ai @Qd<|ai @G6<|@Qm
def vm4:=ai @Qq<|ai @Qi<|ai @Lg<|ai @WV<|ai @Qf<|ai @WU<|ai @WT<|ai @Qg<|ai @Qj<|ai @abT<|ai @abU<|ai @ags<|ai @abR<|ai @abS<|ai @Qx<|ai @L3<|ai @Xn<|ai @WR<|ai @K8<|ai @K4<|ai @G2<|ai @Me<|ai @HO<|ai @Rh<|ai @Xp<|ai @Ri<|ai @Lh<|ai @G7<|ai @PX<|ai @Tf<|ai @MX<|ai @Te<|ai @MV<|ai @Tc<|ai @MW<|ai @HE<|ai @LO<|ai @G3<|ai @DK<|ai @HF<|ai @W9<|ai @QU<|ai @Jf<|ai @Jg<|ai @WK<|ai @CJ<|@ch
def vmk:=ai @TY<|@T0
def vmc:=ai @true_and<|ai @and_true<|ai @alY<|ai @alw<|ai @amb<|ai @am9<|ai @am3<|ai @ana<|ai @ane<|ai @ama<|ai @amv<|ai @List.contains_nil.{0}<|ai @amU<|ai @am7<|ai @am6<|ai @alQ<|ai @amq<|ai @decide_true<|ai @beq_self_eq_true.{0}<|ai @List.isEmpty_nil.{0}<|ai @List.isEmpty_cons.{0}<|ai @Option.map_none.{0,0}<|ai @aly<|ai @List.all_cons.{0}<|ai @List.all_nil.{0}<|ai @anj<|ai @Bool.and_true<|ai @amD<|ai @ank<|ai @Bool.and_self<|ai @and_self<|ai @amr<|ai @alZ<|ai @am2<|ai @Nat.sub_zero<|ai @alr<|ai @alq<|ai @alz<|ai @anl<|ai @Bool.or_self<|@anm
def vm5:=ai @Jo<|ai @agq<|ai @KV<|ai @GV<|ai @abj<|ai @WB<|ai @Qo<|ai @Xm<|ai @MB<|ai @RO<|ai @Ik<|@RQ
def vmu:=ai @BO.eq_1<|ai @BO.eq_2<|ai @ev.eq_1<|ai @ev.eq_2<|ai @ev.eq_4<|ai @rH.eq_1<|ai @rH.eq_2<|ai @rH.eq_3<|ai @rH.eq_4<|ai @gg.eq_1<|ai @gg.eq_2<|ai @GX.eq_1<|ai @GX.eq_3<|ai @ou.eq_1<|ai @ou.eq_2<|ai @ou.eq_3<|ai @j0.eq_1<|ai @j0.eq_2<|ai @j0.eq_3<|ai @j0.eq_4<|ai @j0.eq_5<|ai @j0.eq_6<|ai @j0.eq_7<|ai @j0.eq_10<|ai @j0.eq_11<|ai @j0.eq_12<|ai @j0.eq_13<|ai @j0.eq_14<|ai @j0.eq_15<|ai @unD.eq_1<|ai @unD.eq_4<|ai @afA.eq_1<|ai @aZ.eq_1<|ai @aZ.eq_2<|ai @ia.eq_1<|ai @ia.eq_3<|ai @fW.eq_1<|ai @fW.eq_2<|ai @live.eq_1<|ai @mf.eq_1<|ai @mf.eq_2<|ai @Ds.we.eq_1<|ai @Ds.we.eq_3<|ai @fF.eq_1<|ai @fF.eq_2<|ai @fF.eq_5<|ai @kv.eq_1<|ai @kv.eq_2<|ai @kv.eq_4<|ai @kv.eq_5<|ai @kv.eq_6<|ai @uf.eq_1<|ai @uf.eq_2<|ai @F3.eq_2<|ai @F3.eq_3<|ai @F3.eq_4<|ai @alive.eq_3<|ai @nm.eq_2<|ai @kj.eq_1<|ai @kj.eq_5<|ai @kj.eq_6<|ai @ji.eq_1<|ai @vp.eq_1<|ai @qM.eq_1<|ai @df.eq_1<|ai @df.eq_2<|ai @nR.eq_1<|ai @jg.eq_3<|ai @jf.eq_1<|ai @kK.eq_1<|ai @kK.eq_2<|ai @fieldAt.eq_1<|ai @fu.eq_1<|ai @u9.eq_1<|ai @lx.eq_1<|ai @content.eq_1<|ai @content.eq_2<|ai @putCells.eq_1<|ai @eqD.eq_2<|ai @B0.eq_1<|ai @B0.eq_2<|ai @bE.eq_1<|ai @bE.eq_3<|ai @bE.eq_4<|ai @ur.eq_1<|ai @Bf.eq_2<|ai @Bf.eq_3<|@Bf.eq_4
def aj8:=ai @K6<|ai @K5<|ai @Xj<|ai @RL<|ai @RF<|ai @Mx<|ai @K7<|ai @Xk<|ai @RM<|ai @My<|ai @RG<|ai @Ij<|ai @RI<|ai @RH<|ai @WN<|@GZ
section
variable {T:Nat->Option Ty} {Γ:Env} {N F e:Nat} {Q Q':Kt} {t:Nat->D} {h:Nat->Option Row}
def kF (hm:∀x t h e,Q x t h e->Q' x t h e):∀(ws:List W) (x:Ex) (t:Nat->D) (h:Nat->Option Row) (e:Nat),eh T Γ N F ws Q x t h e->eh T Γ N F ws Q' x t h e
 | [],x,t,h,e,hk=>hm _ _ _ _ hk
 | .code c::ws,x,t,h,e,hk=>by
  unfold eh at hk ⊢;cases x with
  | normal=>exact aaV c t h e _ _ hk (fun x t h e b=>kF hm ws x t h e b)
  | exit n=>exact kF hm ws _ t h e hk
  | ret=>exact kF hm ws _ t h e hk
 | .blk id::ws,x,t,h,e,hk=>by
  unfold eh abA at hk ⊢;cases x with
  | normal=>exact kF hm ws _ t h e hk
  | exit n =>
   simp only at hk ⊢;split at hk
   ·rename_i a;rw[if_pos a];exact kF hm ws _ t h e hk
   ·rename_i a;rw[if_neg a];exact kF hm ws _ t h e hk
  | ret=>exact kF hm ws _ t h e hk
def uI:∀(ws:List W) (k:Nat),eh T Γ N F ws Q=eh T Γ N F (ws.take k) (eh T Γ N F (ws.drop k) Q)
 | ws,0=>by simp[eh]
 | [],k+1=>by simp[eh]
 | .code c::ws,k+1=>by
  rw[ana,am9];funext x t h e;unfold eh;rw[uI ws k]
 | .blk id::ws,k+1=>by
  rw[ana,am9];funext x t h e;unfold eh;rw[uI ws k]
variable {σ:Type} {ops l:List Oper} {ws:List W} {dst:Option Nat} {fs:List nA} {d:D} {g:Nat}
def xV {J:σ->(Nat->D)->(Nat->Option Row)->Nat->Prop} {P:σ->Prop} {R:Kt} (a:∀s t h e,J s t h e->P s->R .normal t h e):∀x t h e,CK J P R x t h e->R x t h e:=by
 intro x t h e b;cases x with
 | normal=>obtain⟨s,c,d⟩:=b;exact a s t h e d c
 | exit n=>exact b
 | ret=>exact b
def Ap (a:∀x t h e,Q x t h e->Q' x t h e) (b:nH T Γ N F ops l ws Q t h e):nH T Γ N F ops l ws Q' t h e:=Ar (fun t h c=>kF a ws _ _ _ _ c) _ _ _ b
def Aq (b:∀x t h e,Q x t h e->Q' x t h e) (c:oR T Γ N F ops l ws Q t h e fs):oR T Γ N F ops l ws Q' t h e fs:=Ao (fun t h fs a=>⟨a.1,kF b ws _ _ _ _ a.2⟩) _ _ _ _ c
def xI (k:Nat):nH T Γ N F ops l ws Q t h e=nH T Γ N F ops l (ws.take k) (eh T Γ N F (ws.drop k) Q) t h e:=by unfold nH;rw[uI ws k]
def xJ (k:Nat):oR T Γ N F ops l ws Q t h e fs=oR T Γ N F ops l (ws.take k) (eh T Γ N F (ws.drop k) Q) t h e fs:=by unfold oR;rw[uI ws k]
def Lw (k:Nat) {o:Oper} : uN T Γ N F o ops l ws Q t h e=uN T Γ N F o ops l (ws.take k) (eh T Γ N F (ws.drop k) Q) t h e:=by
 unfold uN;congr 1;funext t E;rw[xI k]
def LD (k:Nat) {o:Oper} : xZ T Γ N F o ops l ws Q t h e fs=xZ T Γ N F o ops l (ws.take k) (eh T Γ N F (ws.drop k) Q) t h e fs:=by
 unfold xZ;congr 1;funext t E;rw[xJ k]
def QC {o:Oper} (a:∀x t h e,Q x t h e->Q' x t h e) (b:uN T Γ N F o ops l ws Q t h e):uN T Γ N F o ops l ws Q' t h e:=Du b fun _ _ c=>Ap a c
def QJ {o:Oper} (a:∀x t h e,Q x t h e->Q' x t h e) (b:xZ T Γ N F o ops l ws Q t h e fs):xZ T Γ N F o ops l ws Q' t h e fs:=Du b fun _ _ c=>Aq a c
variable (k:Nat) (J:σ->(Nat->D)->(Nat->Option Row)->Nat->Prop) (P:σ->Prop)
def qn {x y:Code} (a:∀s t h e,J s t h e->P s->eh T Γ N F (ws.drop k) Q .normal t h e) (f:Ps T Γ N F d g x y (ws.take k) (CK J P (eh T Γ N F (ws.drop k) Q)) t h e):Ps T Γ N F d g x y ws Q t h e:=by
 unfold Ps at f ⊢;have i:∀c:Code,eh T Γ N F (.code c::ws) Q=eh T Γ N F (.code c::ws.take k) (eh T Γ N F (ws.drop k) Q):=fun c=>uI (.code c::ws) (k+1);rw[i,i];exact Dr f (fun _ b=>kF (xV a) _ _ _ _ _ b) (fun _ b=>kF (xV a) _ _ _ _ _ b)
def cQ {b:Bool} {o:Oper} (a:∀s t h e,J s t h e->P s->eh T Γ N F (ws.drop k) Q .normal t h e) (f:AL T Γ N F d g b o ops l (ws.take k) (CK J P (eh T Γ N F (ws.drop k) Q)) t h e):AL T Γ N F d g b o ops l ws Q t h e:=by
 unfold AL at f ⊢;refine JR f (fun t c =>?_) (fun t c =>?_) (fun t c =>?_)
 ·cases b
  ·simp only[alY,if_false]at c ⊢;rw[xI k];exact Ap (xV a) c
  ·simp only[if_true]at c ⊢;rw[Lw k];exact QC (xV a) c
 ·cases b
  ·simp only[alY,if_false]at c ⊢;rw[Lw k];exact QC (xV a) c
  ·simp only[if_true]at c ⊢;rw[xI k];exact Ap (xV a) c
 ·rw[xI k];exact Ap (xV a) c
def TZ {b:Bool} {o:Oper} (a:∀s t h e,J s t h e->P s->eh T Γ N F (ws.drop k) Q .normal t h e) (f:AM T Γ N F d g b o ops l (ws.take k) (CK J P (eh T Γ N F (ws.drop k) Q)) t h e fs):AM T Γ N F d g b o ops l ws Q t h e fs:=by
 unfold AM at f ⊢;refine JR f (fun t c =>?_) (fun t c =>?_) (fun t c =>?_)
 ·cases b
  ·simp only[alY,if_false]at c ⊢;rw[xJ k];exact Aq (xV a) c
  ·simp only[if_true]at c ⊢;rw[LD k];exact QJ (xV a) c
 ·cases b
  ·simp only[alY,if_false]at c ⊢;rw[LD k];exact QJ (xV a) c
  ·simp only[if_true]at c ⊢;rw[xJ k];exact Aq (xV a) c
 ·rw[xJ k];exact Aq (xV a) c
end
def mkW {α β γ:Type} (ty:Nat) (E:jr γ) (A:kM α) (F:List γ->α->Option (List γ×β)) (R:β->RK):Option (D×Row)->List D->Option (RK×Option Row):=fun cc a =>
 match cc with
 | some (.buf 0 0 s o n,⟨0,ty',cells,false,true,false⟩)=>open Classical in
  if h:ty'=ty∧s=E.size∧∃p:List D×List γ×List D×α,cells=p.1++(an E p.2.1++p.2.2.1)∧o=p.1.length∧n=p.2.1.length∧a=A.ds p.2.2.2 then
   (F (Classical.choose h.2.2).2.1 (Classical.choose h.2.2).2.2.2).map fun r=>(R r.2,some ⟨0,ty,(Classical.choose h.2.2).1++(an E r.1++(Classical.choose h.2.2).2.2.1),false,true,false⟩)
  else none
 | _=>none
def YN {γ:Type} {E:jr γ} {p a q c:List D} {l b:List γ} (h:p++(an E l++q)=a++(an E b++c)) (d:p.length=a.length) (e:l.length=b.length):p=a∧l=b∧q=c:=by
 obtain⟨f,g⟩:=anb h d;obtain⟨i,j⟩:=anb g (by rw[bS,bS,e]);exact⟨f,y8 E _ _ i,j⟩
def Vm {α β γ:Type} (ty:Nat) (E:jr γ) (A:kM α) (F:List γ->α->Option (List γ×β)) (R:β->RK) (c b:List D) (l:List γ) (a:α) :
  mkW ty E A F R (some (.buf 0 0 E.size c.length l.length,⟨0,ty,c++(an E l++b),false,true,false⟩)) (A.ds a)=(F l a).map fun r=>(R r.2,some ⟨0,ty,c++(an E r.1++b),false,true,false⟩):=by
 have h:ty=ty∧E.size=E.size∧∃p:List D×List γ×List D×α,c++(an E l++b)=p.1++(an E p.2.1++p.2.2.1)∧c.length=p.1.length∧l.length=p.2.1.length∧A.ds a=A.ds p.2.2.2:=⟨rfl,rfl,(c,l,b,a),rfl,rfl,rfl,rfl⟩;simp only[mkW];rw[dif_pos h];obtain⟨d,e,f,g⟩:=Classical.choose_spec h.2.2;obtain⟨i,j,k⟩:=YN d e f;rw[<- A.inj _ _ g,<- i,<- j,<- k]
def Sn {α β γ:Type} {ty:Nat} {E:jr γ} {A:kM α} {F:List γ->α->Option (List γ×β)} {R:β->RK} {cc:Option (D×Row)} {e:List D} {f:RK} {d:Option Row} (h:mkW ty E A F R cc e=some (f,d)) :
  ∃c l b a g r,cc=some (.buf 0 0 E.size c.length l.length,⟨0,ty,c++(an E l++b),false,true,false⟩)∧e=A.ds a∧F l a=some (g,r)∧f=R r∧d=some ⟨0,ty,c++(an E g++b),false,true,false⟩:=by
 unfold mkW at h;split at h
 ·split at h
  ·rename_i i;obtain⟨rfl,rfl,i⟩:=i;rw[alo]at h;grind
  ·cases h
 ·cases h
def ck.agN {P:Program} {T:Nat->Option Ty} {Γ:Env} (k:ke P T) (m:bV P Γ) (n:P.follows .mixedOrders=true) {α β γ:Type} {ty:Nat} {E:jr γ} {A:kM α} {F:List γ->α->Option (List γ×β)} {R:β->RK} {mode:Mode} {f:FuncId} {e:Func} (j:P.funcs[f]? = some e) (i:(match e.body with|some c=>codeOk c|none=>true)=true)
  (o:(e.name == "runtime.NumGoroutine")=false∧e.body.isNone=false) (p:∀a,(A.ds a).length+1<=e.ntmps)
  (h:∀d b l a g r,F l a=some (g,r)->jx mode T Γ FU e (some (.buf 0 0 E.size d.length l.length,⟨0,ty,d++(an E l++b),false,true,false⟩)) (A.ds a)=some (R r,some ⟨0,ty,d++(an E g++b),false,true,false⟩)):ck P f (mkW ty E A F R) where
 calls cc alj rk out q:=by
  obtain⟨d,l,b,a,g,r,rfl,rfl,s,rfl,rfl⟩:=Sn q;exact mw k m n j i (p a) rfl (h d b l a g r s)
 callable:=⟨e,j,o⟩
def mkE {α γ:Type} (ty:Nat) (E:jr γ) (A:kM α) (F:List γ->α->Option (List γ)):Option (D×Row)->List D->Option (RK×Option Row):=fun cc a =>
 match cc with
 | some (.buf 0 0 s o n,⟨0,ty',cells,false,true,false⟩)=>open Classical in
  if h:ty'=ty∧s=E.size∧∃p:List D×List γ×List D×α,cells=p.1++(an E p.2.1++p.2.2.1)∧o=p.1.length∧n=p.2.1.length∧a=A.ds p.2.2.2 then
   (F (Classical.choose h.2.2).2.1 (Classical.choose h.2.2).2.2.2).map fun r=>(.fresh ty E.size r.length (an E r),none)
  else none
 | _=>none
def Vl {α γ:Type} (ty:Nat) (E:jr γ) (A:kM α) (F:List γ->α->Option (List γ)) (b c:List D) (l:List γ) (a:α) :
  mkE ty E A F (some (.buf 0 0 E.size b.length l.length,⟨0,ty,b++(an E l++c),false,true,false⟩)) (A.ds a)=(F l a).map fun r=>(.fresh ty E.size r.length (an E r),none):=by
 have h:ty=ty∧E.size=E.size∧∃p:List D×List γ×List D×α,b++(an E l++c)=p.1++(an E p.2.1++p.2.2.1)∧b.length=p.1.length∧l.length=p.2.1.length∧A.ds a=A.ds p.2.2.2:=⟨rfl,rfl,(b,l,c,a),rfl,rfl,rfl,rfl⟩;simp only[mkE];rw[dif_pos h];obtain⟨d,e,f,g⟩:=Classical.choose_spec h.2.2;obtain⟨j,i,k⟩:=YN d e f;rw[<- A.inj _ _ g,<- i]
def Sm {α γ:Type} {ty:Nat} {E:jr γ} {A:kM α} {F:List γ->α->Option (List γ)} {cc:Option (D×Row)} {e:List D} {f:RK} {b:Option Row} (h:mkE ty E A F cc e=some (f,b)) :
  ∃c l d a r,cc=some (.buf 0 0 E.size c.length l.length,⟨0,ty,c++(an E l++d),false,true,false⟩)∧e=A.ds a∧F l a=some r∧f=.fresh ty E.size r.length (an E r)∧b=none:=by
 unfold mkE at h;split at h
 ·split at h
  ·rename_i g;obtain⟨rfl,rfl,g⟩:=g;rw[alo]at h;grind
  ·cases h
 ·cases h
end Go.Proofs.YtobnihfgnbnncaaGreat.Am
