import Derived.Test.YtobnihfgnbnncaaGreatKb
set_option linter.unusedSimpArgs false
set_option linter.unusedVariables false
set_option linter.defProp false
noncomputable section
open Go.Proofs.Tryz
namespace Go.Proofs.YtobnihfgnbnncaaGreat.Am
open Go.RowKit
section
variable {T:Nat->Option Ty} {h h':Nat->Option Row} {e:Nat} {o:Oper} {Γ:Env}
def qL {x v:Nat} (a:h x=h' x):gW h x v=gW h' x v:=by simp[gW,a]
def oQ {x v:Nat} {q:Row×Nat×Nat×Nat×List D} (a:gW h x v=some q):x<PK:=by
 obtain⟨r,ty,s,nv,cs⟩:=q;exact (jE a).2.2.2.2.1
def DS:∀(l:List (Nat×Option Row)) {h h':Nat->Option Row},(∀p∈l,h (rt p.1)=h' (rt p.1))->mB h l=mB h' l
 | [],_,_,_=>rfl
 | (k,r)::l,h,h',c=>by
  have d:h (rt k)=h' (rt k):=c (k,r) (by simp);have e:BQ h k r=BQ h' k r:=by
   unfold BQ;split
   ·rfl
   ·rename_i a;have:rt k=k % PK:=by unfold rt;rw[if_neg a]
    rw[<- this,d]
  unfold mB;rw[e];congr 1;refine DS l fun p f =>?_
  by_cases b:rt p.1=rt k
  ·rw[b,ay,ay]
  ·rw[az _ _ b,az _ _ b];grind
def DT:∀(l:List (Nat×Option Row)) {h:Nat->Option Row},∀p∈mB h l,∃q∈l,p.1=rt q.1
 | [],_,p,a=>by simp[mB]at a
 | (k,r)::l,h,p,a=>by
  unfold mB at a;rcases aju.1 a with rfl|a
  ·simp_all
  ·obtain⟨q,b,c⟩:=DT l p a;grind
def YA {τ:Ty} {p d:D} {E:cr} (a:pP τ e h p d=some E):∀q∈E.hw,q.1<PK∧(q.1∈nm p∨q.1∈nm d):=by
 unfold pP at a;split at a<;>try (cases a;done)
 rename_i f k g;split at a<;>try (cases a;done)
 rename_i r ty s nv cs n;have i:=oQ n;split at a<;>try (cases a;done)
 have one:∀ {l:Option Row} (q:Nat×Option Row),q∈[(f,l)]->q.1<PK∧(q.1∈nm (.ptr f k g)∨q.1∈nm d):=by
  intro l q c;simp only[ajI]at c;subst c;exact⟨i,.inl (by simp[nm,jM])⟩
 have b:∀ {m:Option (List D)},Nl τ f r ty s nv cs g m=some E->∀q∈E.hw,q.1<PK∧(q.1∈nm (.ptr f k g)∨q.1∈nm d):=by
  intro m a;unfold Nl at a;grind
 unfold I2 at a;split at a
 ·rename_i o t u v w;split at a<;>try (cases a;done)
  split at a
  ·split at a<;>try (cases a;done)
   unfold Nj at a;grind
  ·split at a<;>try (cases a;done)
   rename_i j;split at a<;>try (cases a;done)
   split at a<;>try (cases a;done)
   unfold C9 at a;split at a<;>try (cases a;done)
   cases a;intro q c;rcases aju.1 c with rfl|c
   ·exact⟨j,.inr (by simp[nm,jM])⟩
   ·exact one q c
 ·exact b a
def XV {τ:Ty} {p:D} {E:cr} (a:sO τ h p=some E):∀q∈E.hw,q.1<PK∧q.1∈nm p:=by
 unfold sO at a;split at a<;>try (cases a;done)
 rename_i e f g;split at a<;>try (cases a;done)
 rename_i r ty s nv cs d;have b:=oQ d;split at a<;>try (cases a;done)
 unfold Tx at a;split at a<;>try (cases a;done)
 cases a;intro q c;simp only[ajI]at c;subst c;exact⟨b,by simp[nm,jM]⟩
def YC {τ:Ty} {p d:D} {E:cr} (a:sS τ e h p d=some E):∀q∈E.hw,q.1<PK∧(q.1∈nm p∨q.1∈nm d):=by
 unfold sS at a;split at a<;>try (cases a;done)
 rename_i g i j;split at a<;>try (cases a;done)
 rename_i r ty s nv cs f;have b:=oQ f;split at a<;>try (cases a;done)
 unfold T4 at a;split at a<;>try (cases a;done)
 split at a<;>try (cases a;done)
 unfold stZ at a;split at a<;>try (cases a;done)
 cases a;intro q c;simp only[ajI]at c;subst c;exact⟨b,.inl (by simp[nm,jM])⟩
def XU {τ:Ty} {d:D} (b:∀x∈nm d,x<2*PK->h x=h' x):sO τ h d=sO τ h' d:=by
 unfold sO;split
 ·rename_i x v o
  by_cases c:x<2*PK
  ·rw[qL (b x (by simp[nm,jM]) c)]
  ·have a:∀h:Nat->Option Row,gW h x v=none:=by
    intro h;cases e:gW h x v with
    | none=>rfl
    | some q=>have:=oQ e;omega
   rw[a,a]
 ·rfl
def YB {τ:Ty} {p d:D} (c:∀x∈nm p,x<2*PK->h x=h' x):sS τ e h p d=sS τ e h' p d:=by
 unfold sS;split
 ·rename_i x v o
  by_cases a:x<2*PK
  ·rw[qL (c x (by simp[nm,jM]) a)]
  ·have b:∀h:Nat->Option Row,gW h x v=none:=by
    intro h;cases f:gW h x v with
    | none=>rfl
    | some q=>have:=oQ f;omega
   rw[b,b]
 ·rfl
def XW {τ:Ty} {d:D} (b:∀x∈nm d,x<2*PK->h x=h' x):sP τ h d=sP τ h' d:=by
 unfold sP;split
 ·rename_i x v o
  by_cases c:x<2*PK
  ·rw[qL (b x (by simp[nm,jM]) c)]
  ·have a:∀h:Nat->Option Row,gW h x v=none:=by
    intro h;cases e:gW h x v with
    | none=>rfl
    | some q=>have:=oQ e;omega
   rw[a,a]
 ·rfl
def Yz {τ:Ty} {p d:D} (f:∀x∈nm p,x<2*PK->h x=h' x) (g:∀x∈nm d,x<2*PK->h x=h' x):pP τ e h p d=pP τ e h' p d:=by
 unfold pP;split
 ·rename_i x v o
  by_cases a:x<2*PK
  rotate_left
  ·have c:∀h:Nat->Option Row,gW h x v=none:=by
    intro h;cases i:gW h x v with
    | none=>rfl
    | some q=>have:=oQ i;omega
   rw[c,c]
  rw[qL (f x (by simp[nm,jM]) a)];split
  ·split
   ·unfold I2;split
    ·rename_i y j k l n
     by_cases b:y<2*PK
     ·rw[dw (g y (by simp[nm,jM]) b)]
     grind
    ·rfl
   ·rfl
  ·rfl
 ·rfl
def gz {vs:Operand->D} {x:Nat} (a:x∈iO o vs):rt x∈cW o vs:=ajn.2 ⟨x,a,rfl⟩
def qU {vs:Operand->D} {y:Operand} (d:y∈o.op.operands.toList) (e:∀a b c,o.op ≠ .pick a b c) (f:∀a,o.op ≠ .move a) (g:∀a b c,o.op ≠ .makeFunc a b c) {x:Nat} (h:x∈nm (vs y)):x∈iO o vs:=by
 unfold iO;grind
def JA {vs:Operand->D} {q:D} {a:List D} (j:jA vs o.op=some (q,a)) (k:∀x∈cW o vs,h x=h' x):∀d∈a,∀x∈nm d,h (rt x)=h' (rt x):=by
 obtain⟨c,f,e,g,_,b⟩:=qB j;subst b;intro d l x i;obtain⟨y,m,rfl⟩:=ajn.1 l;exact k _ (gz (qU (y:=y) (by simp[e,Op.operands,Call.operands,g];simp_all) (by simp[e]) (by simp[e]) (by simp[e]) i))
def On {g:Nat} {a:List D} (i:∀d∈a,∀x∈nm d,h (rt x)=h' (rt x)):uR Γ e h g a=uR Γ e h' g a:=by
 unfold uR;split
 ·rename_i x v c rest;have b:bS (EH h) rest=bS (EH h') rest:=kp fun d k x f=>fa (i d (akK _ k) x f)
  by_cases l:x<2*PK
  ·have:=i _ akJ x (by simp[nm,jM]);rw[jv l]at this;rw[qL this,b]
  ·have j:∀h:Nat->Option Row,gW h x v=none:=by
    intro h;cases m:gW h x v with
    | none=>rfl
    | some q=>have:=oQ m;omega
   rw[j,j]
 ·rfl
def Pe {vs:Operand->D} (f:∀x∈cW o vs,h x=h' x):qE Γ e h o.dst (jA vs o.op)=qE Γ e h' o.dst (jA vs o.op):=by
 unfold qE;split
 ·rename_i d g b c i;unfold F0;split
  ·rw[kp fun d c x a=>fa (JA i f d c x a)]
  ·rfl
 ·rfl
def S7 {vs:Operand->D} (i:∀x∈cW o vs,h x=h' x):xK T Γ e o vs h=xK T Γ e o vs h':=by
 unfold xK;split
 ·rename_i ty p a;split
  ·have d:∀x∈nm (vs p),x<2*PK->h x=h' x:=fun x b f=>by
    have:=i _ (gz (qU (y:=p) (by simp[a,Op.operands]) (by simp[a]) (by simp[a]) (by simp[a]) b))
    rwa [jv f]at this
   unfold xJ;rw[XW d,XU d]
  ·rfl
 ·rename_i ty p x a;split
  ·have d:∀x∈nm (vs p),x<2*PK->h x=h' x:=fun y b f=>by
    have:=i _ (gz (qU (y:=p) (by simp[a,Op.operands]) (by simp[a]) (by simp[a]) (by simp[a]) b))
    rwa [jv f]at this
   unfold xL;rw[Yz d (fun y b f=>by
    have:=i _ (gz (qU (y:=x) (by simp[a,Op.operands]) (by simp[a]) (by simp[a]) (by simp[a]) b))
    rwa [jv f]at this),YB d]
  ·rfl
 ·rename_i c a;unfold DN;split
  ·rename_i g j k;exact On (JA (by rw[a];exact k) i)
  ·rfl
 ·rfl
def S2 {vs:Operand->D} (hx:∀x∈cW o vs,h x=h' x):rR T Γ e o vs h=rR T Γ e o vs h':=by
 have b:tx T Γ e o vs (EH h)=tx T Γ e o vs (EH h'):=XA fun x a=>fa (hx _ (gz a));unfold rR;rw[b,S7 hx,Pe hx];split
 ·rfl
 split
 ·rfl
 ·cases c:tx T Γ e o vs (EH h') with
  | none=>rfl
  | some E =>
   simp only[or2];rw[DS E.hw fun p d=>hx _ (gz (J1 c p d))]
def S3 {vs:Operand->D} {E:cr} (b:rR T Γ e o vs h=some E):∀p∈E.hw,p.1∈cW o vs:=by
 unfold rR at b;split at b
 ·rename_i G a;simp only[ajw]at b;subst b;unfold iX at a;split at a<;>try (cases a;done)
  rotate_left
  ·rename_i ty i;split at a<;>try (cases a;done)
   rename_i d n;split at a<;>try (cases a;done)
   split at a<;>try (cases a;done)
   unfold mkA at a;split at a<;>try (cases a;done)
   rename_i t;cases a;intro p k;simp only[ajI]at k;subst k;have A:d∈iO o vs:=by
    unfold iO;simp_all
   have:=gz A
   rwa [jv (by omega)]at this
  rename_i ty l c i;split at a<;>try (cases a;done)
  rename_i d n;split at a<;>try (cases a;done)
  split at a<;>try (cases a;done)
  unfold rn at a;split at a<;>try (cases a;done)
  split at a<;>try (cases a;done)
  split at a<;>try (cases a;done)
  rename_i t;cases a;intro p k;simp only[ajI]at k;subst k;have A:d∈iO o vs:=by
   unfold iO;simp_all
  have:=gz A
  rwa [jv (by omega)]at this
 split at b
 ·rename_i G j;simp only[ajw]at b;subst b;unfold qE at j;split at j<;>try (cases j;done)
  rename_i d g B n u;obtain⟨c,f,C,F,m,w⟩:=qB u;unfold F0 at j;split at j<;>try (cases j;done)
  obtain⟨_,_,_,_,_,_,_,_,_,L,rfl⟩:=z7 j;intro p k;simp only[ajI]at k;subst k;have A:d∈iO o vs:=by
   unfold iO;simp_all
  have:=gz A
  rwa [jv (by omega)]at this
 ·unfold or2 at b;split at b
  ·rename_i X M N;simp only[ajw]at b;subst b;intro p k;obtain⟨q,O,P⟩:=DT M p k;rw[P];exact gz (J1 N q O)
  ·unfold xK at b;split at b
   ·rename_i ty p i;split at b<;>try (cases b;done)
    unfold xJ orE at b;split at b
    ·rename_i G H;simp only[ajw]at b;subst b;intro q m;obtain⟨Q,z⟩:=XV H q m;have:q.1∈iO o vs:=qU (y:=p) (by simp[i,Op.operands]) (by simp[i]) (by simp[i]) (by simp[i]) z;have:=gz this
     rwa [jv (by omega)]at this
    rw[J0 b];simp_all
   ·rename_i ty p x i;split at b<;>try (cases b;done)
    intro q m;have I:q.1<PK∧(q.1∈nm (vs p)∨q.1∈nm (vs x)):=by
     unfold xL orE at b;split at b
     ·rename_i G H;simp only[ajw]at b;subst b;exact YC H q m
     ·exact YA b q m
    obtain⟨Q,z⟩:=I;have:q.1∈iO o vs:=by
     rcases z with z|z
     ·exact qU (y:=p) (by simp[i,Op.operands]) (by simp[i]) (by simp[i]) (by simp[i]) z
     ·exact qU (y:=x) (by simp[i,Op.operands]) (by simp[i]) (by simp[i]) (by simp[i]) z
    have:=gz this
    rwa [jv (by omega)]at this
   ·rename_i c i;unfold DN at b;split at b<;>try (cases b;done)
    rename_i g B u;obtain⟨Y,f,C,F,m,w⟩:=qB u;cases C;obtain⟨x,v,K,rest,r,ty,s,nv,cs,p,ajj,R,d,S,U,V,_,_,_,_,_,rfl⟩:=vN b;have W:=oQ V;intro q m;simp only[ajI]at m;subst m;obtain⟨y,Z,J⟩:∃y∈c.args.toList,vs y=.ptr x v K:=by
     have:(.ptr x v K:D)∈c.args.toList.map vs:=by grind
     simp_all
    have:x∈iO o vs:=qU (y:=y) (by simp[i,Op.operands,Call.operands,F];simp_all) (by simp[i]) (by simp[i]) (by simp[i]) (by rw[J];simp[nm,jM]);have:=gz this
    rwa [jv (by omega)]at this
   ·cases b
def ac6 {vs a:Operand->D} (hx:∀y∈o.op.operands.toList,vs y=a y):rR T Γ e o vs h=rR T Γ e o a h∧cW o vs=cW o a:=by
 obtain⟨i,j⟩:=afk (T:=T) (Γ:=Γ) (e:=e) (h:=EH h) hx;have k:iX T Γ e o vs=iX T Γ e o a:=by
  unfold iX;split
  ·rename_i ty l c b;rw[hx l (by simp[b,Op.operands]),hx c (by simp[b,Op.operands])]
  ·rfl
  ·rfl
 have g:∀c,o.op=.call c->jA vs (.call c)=jA a (.call c):=by
  intro c b;unfold jA;simp only;split
  ·rename_i f d;rw[hx f (by simp[b,Op.operands,Call.operands,d]),akM fun y m=>hx y (by simp[b,Op.operands,Call.operands,d];simp_all)]
  ·rfl
 have n:xK T Γ e o vs h=xK T Γ e o a h:=by
  unfold xK;split
  ·rename_i ty p b;rw[hx p (by simp[b,Op.operands])]
  ·rename_i ty p x b;rw[hx p (by simp[b,Op.operands]),hx x (by simp[b,Op.operands])]
  ·simp_all
  ·rfl
 have q:jA vs o.op=jA a o.op:=by
  by_cases r:∃c,o.op=.call c
  ·grind
  ·unfold jA;simp_all
 unfold rR cW;simp_all
end
structure mE where
 tc:List Nat
 q:Bool
def xZ (ops:Array Oper) (t:Nat->D) (o:Oper):Option Bool :=
 match o.guard with
 | none=>some true
 | some (j,a) =>
  match (ops[j]?).bind (·.dst) with
  | some g=>match t g with | .bool b=>some (b==a) | .skp=>some false|_=>none
  | none=>none
def fP (t:Nat->D) (dst:Option Nat) (d:D):Nat->D :=
 match dst with
 | none=>t
 | some i=>b8 t i d
def fits (N:Nat) (dst:Option Nat):Bool :=
 match dst with
 | none=>true
 | some i=>decide (i<N)
def step1 (T:Nat->Option Ty) (Γ:Env) (N e:Nat) (ops:Array Oper) (o:Oper) (t:Nat->D) (h:Nat->Option Row):Option ((Nat->D)×(Nat->Option Row)×mE) :=
 if fits N o.dst then
  match xZ ops t o with
  | some true =>
   match rR T Γ e o (ev t) h with
   | some E=>some (fP t o.dst E.val,aS h E.hw,⟨cW o (ev t),E.hw.isEmpty⟩)
   | none=>none
  | some false=>some (fP t o.dst .skp,h,⟨[],true⟩)
  | none=>none
 else none
section
variable {P:Program} {T:Nat->Option Ty} {N:Nat} {M:Nat->Prop} {L:kQ} {w0:World} {blk:Nat->Option (Nat×Nat)} {t:Nat->D} {h:Nat->Option Row} {a:Act} {w:World} {e:Nat} {o:Oper} {Γ:Env} {ops:Array Oper}
def BA {V:Nat->Nat->Prop} (p:Inv N M L w0 blk V t h a w) {b:Bool} (c:xZ ops t o=some b):Region.wanted o (yielded ops a.tmps)=b:=by
 unfold xZ at c;split at c
 ·rename_i i;simp only[ajw]at c;subst c;simp[Region.wanted,i]
 ·rename_i j e i;split at c
  ·rename_i g l;split at c
   ·rename_i q m;simp only[ajw]at c;subst c;have f:=p.slots g;rw[m]at f;have d:=yK f;have r:a.tmps[g]? = some (.bool q):=by
     simp only[ajs]at d;cases k:a.tmps[g]? with
     | none=>rw[k]at d;cases d
     | some v=>simp_all
    have n:yielded ops a.tmps j=some q:=by
     unfold yielded;simp_all
    simp only[Region.wanted,i,n];simp_all
   ·rename_i m;simp only[ajw]at c;subst c;have f:=p.slots g;rw[m]at f;have d:a.tmps.getD g undef=undef:=f;have n:yielded ops a.tmps j=none:=by
     unfold yielded;rw[l];simp only[ajs]at d;cases k:a.tmps[g]? with
     | none=>simp_all
     | some v=>rw[k]at d;simp only[Option.getD_some]at d;subst d;simp only[Option.bind_some,k];rfl
    simp only[Region.wanted,i,n]<;>cases e<;>rfl
   ·cases c
  ·cases c
def Inv.afM {V:Nat->Nat->Prop} (b:Inv N M L w0 blk V t h a w) (c:fits N o.dst=true) {d:D} {v:Value} (e:RT w (Own M h blk) h blk V d v):Inv N M L w0 blk V (fP t o.dst d) h (a.put o.dst v) w:=by
 cases f:o.dst with
 | none=>simpa [fP,Act.put] using b
 | some i =>
  rw[f]at c;exact b.put (by simpa [fits] using c) e
def Nn (u:jH P T) (y:bV P Γ) {done:List Nat} {q:Nat->D} {h':Nat->Option Row} {f:mE} {K:Act->World->Prop} {Q:Exit->Act->World->Prop} (i:vx N M L w0 blk e done t h a w)
  (b:step1 T Γ N e ops o t h=some (q,h',f)) (z:∀d,o.dst=some d->d∉done) (r:∀s m c,vx N M L w0 c e (o.dst.toList++done) q h' s m->K s m) :
  if Region.wanted o (yielded ops a.tmps) then o.wp P a w K Q∨(o.asks P a w∧LetsOut Q) else K (a.put o.dst undef) w:=by
 unfold step1 at b;split at b
 ·rename_i l;split at b
  ·rename_i p;rw[BA i.inv p];simp only[if_true];split at b
   ·rename_i E A;simp only[ajw,Prod.mk.injEq]at b;obtain⟨rfl,rfl,_⟩:=b;have:=S4 u y i (fun d j=>⟨z d j,by rw[j]at l;simpa [fits] using l⟩) A;refine .inl (this.wp fun v m B =>?_);obtain⟨c,k,C⟩:=B;exact r _ _ c ⟨k.inv.afM l C,k.nv⟩
   ·cases b
  ·rename_i p;rw[BA i.inv p];simp only[ajT,if_false];simp only[ajw,Prod.mk.injEq]at b;obtain⟨rfl,rfl,_⟩:=b;have g:∀x,x∈done->x∈o.dst.toList++done:=fun x hx=>ajC _ hx;exact r _ _ blk ⟨(i.inv.afM l (d := .skp) (v:=undef) rfl).weaken fun x n hx=>hx.step (.refl e h) g,i.nv.step (.refl e h) g⟩
  ·cases b
 ·cases b
def gE {x:Nat} : ∀ {l:List (Nat×Option Row)} {h:Nat->Option Row},(∀p∈l,p.1≠x)->aS h l x=h x
 | [],_,_=>rfl
 | (y,r)::l,h,hn=>by
  simp only[aS];rw[gE (fun p a=>hn p (by simp[a]))];exact az _ _ (fun e=>hn (y,r) (by simp) e.symm)
def Ca {x:Nat} : ∀ {l:List (Nat×Option Row)} {h h':Nat->Option Row},(∃p∈l,p.1=x)->aS h l x=aS h' l x
 | [],_,_,he=>by simp_all
 | (y,r)::l,h,h',he=>by
  simp only[aS]
  by_cases hl:∃p∈l,p.1=x
  ·exact Ca hl
  ·have c:∀p∈l,p.1≠x:=fun p b a=>hl ⟨p,b,a⟩;rw[gE c,gE c];obtain⟨p,b,a⟩:=he;rcases aju.1 b with rfl|b
   ·simp only at a;subst a;rw[ay,ay]
   grind
def N5 {l l':List (Nat×Option Row)} {h:Nat->Option Row} (hd:∀p∈l,∀q∈l',p.1≠q.1):aS (aS h l) l'=aS (aS h l') l:=by
 funext x
 by_cases h1:∃p∈l,p.1=x
 ·obtain⟨p,b,rfl⟩:=h1;rw[gE (fun q f e=>hd p b q f e.symm)];exact Ca ⟨p,b,rfl⟩
 ·have d:∀p∈l,p.1≠x:=fun p b a=>h1 ⟨p,b,a⟩;rw[gE d]
  by_cases h2:∃p∈l',p.1=x
  ·exact Ca h2
  ·have c:∀p∈l',p.1≠x:=fun p b a=>h2 ⟨p,b,a⟩;rw[gE c,gE c,gE d]
def Yh {t:Nat->D} {x y:Option Nat} {v u:D} (hne:∀d,x=some d->y≠some d):fP (fP t x v) y u=fP (fP t y u) x v:=by
 cases x with
 | none=>rfl
 | some i =>
  cases y with
  | none=>rfl
  | some j=>exact acs t v u (fun e=>hne i rfl (by rw[e]))
def Wk {t:Nat->D} {x:Option Nat} {v:D} {s:Nat} (hne:x≠some s):fP t x v s=t s:=by
 cases x with
 | none=>rfl
 | some i=>exact az _ _ (fun e=>hne (by rw[e]))
def R5 {t t1:Nat->D} {h m:Nat->Option Row} {f:mE} (b:step1 T Γ N e ops o t h=some (t1,m,f)) :
  ∃v hw,t1=fP t o.dst v∧m=aS h hw∧(∀p∈hw,p.1∈f.tc)∧(f.q=true->hw=[]) ∧
   ∀a h',(∀s∈o.looksAt ops,t s=a s)->(∀x∈f.tc,h x=h' x)->step1 T Γ N e ops o a h'=some (fP a o.dst v,aS h' hw,f):=by
 have k:∀a:Nat->D,(∀s∈o.looksAt ops,t s=a s)->xZ ops t o=xZ ops a o:=by
  intro a c;unfold xZ;split
  ·rfl
  ·rename_i j n r;split
   ·rename_i g d;rw[c g (by simp[Oper.looksAt,r,d])]
   ·rfl
 have l:∀a:Nat->D,(∀s∈o.looksAt ops,t s=a s)->∀y∈o.op.operands.toList,ev t y=ev a y:=by
  intro a c y F;cases y with
  | tmp i=>exact c i (by unfold Oper.looksAt;grind)
  | const v=>rfl
  | global g=>rfl
  | func f=>rfl
 unfold step1 at b;split at b
 ·rename_i u;split at b
  ·rename_i d;split at b
   ·rename_i E q;simp only[ajw,Prod.mk.injEq]at b;obtain⟨rfl,rfl,rfl⟩:=b;refine⟨E.val,E.hw,rfl,rfl,S3 q,fun w=>by simpa using w,fun a h' c hh =>?_⟩;obtain⟨z,A⟩:=ac6 (T:=T) (Γ:=Γ) (e:=e) (h:=h) (l a c);have G:rR T Γ e o (ev a) h'=some E:=by
     rw[<- q,z];exact (S2 (fun x B=>hh x (by rw[A];exact B))).symm
    unfold step1;grind
   ·cases b
  ·rename_i d;simp only[ajw,Prod.mk.injEq]at b;obtain⟨rfl,rfl,rfl⟩:=b;refine⟨.skp,[],rfl,rfl,fun p C=>by simp at C,fun _=>rfl,fun a h' c hh =>?_⟩;unfold step1;rw[if_pos u,<- k a c,d];rfl
  ·cases b
 ·cases b
def SB (T:Nat->Option Ty) (Γ:Env) (N e:Nat) (ops:Array Oper) (F:Nat->mE):List Nat->(Nat->D)->(Nat->Option Row)->(Nat->D)->(Nat->Option Row)->Prop
 | [],t,h,a,h'=>t=a∧h=h'
 | i::L,t,h,a,h'=>∃o t1 b,ops[i]? = some o∧step1 T Γ N e ops o t h=some (t1,b,F i)∧SB T Γ N e ops F L t1 b a h'
def ac2 (l a:List Nat):Bool:=l.all fun x => !a.contains x
structure UB (ops:Array Oper) (F:Nat->mE) (j i:Nat):Prop where
 apart:∀oj oi,ops[j]? = some oj->ops[i]? = some oi->oj.apart ops oi=true
 foot:((F j).q&&(F i).q||ac2 (F j).tc (F i).tc)=true
def swap {F:Nat->mE} {i j:Nat} {L:List Nat} {t H:Nat->D} {h h':Nat->Option Row} (K:SB T Γ N e ops F (j::i::L) t h H h') (I:UB ops F j i):SB T Γ N e ops F (i::j::L) t h H h':=by
 obtain⟨v,t1,h1,c,w,u,t2,P,f,z,b⟩:=K;obtain⟨a1,a2,a3⟩:=Oper.apart_spec (I.apart v u c f);obtain⟨Q,J,rfl,rfl,R,S,g⟩:=R5 w;obtain⟨vi,A,rfl,rfl,M,U,k⟩:=R5 z;have a:=I.foot;simp only[Bool.or_eq_true,ajV]at a;have d1:∀x∈(F i).tc,∀p∈J,p.1≠x:=by
  intro x m p B C;rcases a with⟨h1,_⟩|h1
  ·simp_all
  ·simp only[ac2,ajy]at h1;grind
 have d2:∀x∈(F j).tc,∀p∈A,p.1≠x:=by
  intro x m p B C;rcases a with⟨_,h1⟩|h1
  ·simp_all
  ·simp only[ac2,ajy]at h1;grind
 have n:=k t h (fun s E=>Wk (fun o=>a1 s o E)) (fun x m=>gE (d1 x m));have r:=g (fP t u.dst vi) (aS h A) (fun s E=>(Wk (fun o=>a3 s o E)).symm) (fun x m=>(gE (d2 x m)).symm);refine⟨u,_,_,f,n,v,_,_,c,r,?_⟩;rw[Yh (x:=u.dst) (y:=v.dst) (fun d o G=>a2 d G o),N5 (l:=A) (l':=J) (fun p B q O C=>d1 p.1 (M p B) q O C.symm)];exact b
def front {F:Nat->mE} {i:Nat} {a:List Nat} : ∀ {pre:List Nat} {t c:Nat->D} {h h':Nat->Option Row},SB T Γ N e ops F (pre++i::a) t h c h'->(∀j∈pre,UB ops F j i)->SB T Γ N e ops F (i::(pre++a)) t h c h'
 | [],_,_,_,_,hr,_=>hr
 | j::pre,t,c,h,h',hr,hi=>by
  obtain⟨g,t1,l,d,f,b⟩:=hr;have m:=front (pre:=pre) b (fun k n=>hi k (by simp[n]));exact swap ⟨g,t1,l,d,f,m⟩ (hi j (by simp))
def direct (o:Oper):List Nat:=(o.after.toList.filter (Region.binds .any)).map (·.on)
def yS:List Oper->List (List Nat)->List (List Nat)
 | [],acc=>acc
 | o::l,acc=>yS l (acc++[direct o++(direct o).flatMap fun k=>acc.getD k []])
def afg (ops:Array Oper):List (List Nat):=yS ops.toList []
def FB (S:Nat->Prop):∀(l:List Oper) (acc:List (List Nat)) (k:Nat),k=acc.length->(∀i j,j∈acc.getD i []->i<k->(∀m o,ops[m]? = some o->S m->∀d∈direct o,S d)->(∀o,ops[i]? = some o->∀d∈direct o,S d)->S j) ->
  (∀j,l[j]? = ops[k+j]?)->∀i j,j∈(yS l acc).getD i []->(∀m o,ops[m]? = some o->S m->∀d∈direct o,S d)->(∀o,ops[i]? = some o->∀d∈direct o,S d)->S j
 | [],acc,k,hk,a,e,i,j,b,g,h=>by
  simp only[yS]at b;grind
 | o::l,acc,k,hk,a,e,i,j,b,g,h=>by
  simp only[yS]at b;refine FB S l _ (k+1) (by simp[hk]) ?_ (fun j=>by have:=e (j+1);grind) i j b g h;intro c s f n p q
  by_cases r:c<k
  ·grind
  ·obtain rfl:c=k:=by omega
   have:(acc++[direct o++(direct o).flatMap fun k=>acc.getD k []]).getD c []=direct o++(direct o).flatMap fun k=>acc.getD k []:=by
    simp_all
   rw[this]at f;have t:ops[c]? = some o:=by have:=e 0;simp_all
   grind
def acY {S:Nat->Prop} {i j:Nat} (a:j∈(afg ops).getD i []) (b:∀m o,ops[m]? = some o->S m->∀d∈direct o,S d) (c:∀o,ops[i]? = some o->∀d∈direct o,S d):S j :=
 FB S ops.toList [] 0 rfl (fun i j a _ _ _=>by simp at a) (fun j=>by simp) i j a b c
def aac (acc:List Nat):List Nat->Nat
 | []=>0
 | k::l=>(2 ^ k ||| acc.getD k 0) ||| aac acc l
def FC:List Oper->List Nat->List Nat
 | [],acc=>acc
 | o::l,acc=>FC l (acc++[aac acc (direct o)])
def Va (ops:Array Oper):List Nat:=FC ops.toList []
def Vc {a:List Nat} {j:Nat} : ∀ {l:List Nat},(aac a l).testBit j=true->j∈l∨∃k∈l,(a.getD k 0).testBit j=true
 | [],h=>by simp[aac]at h
 | k::l,h=>by
  simp only[aac,Nat.testBit_or,Bool.or_eq_true,Nat.testBit_two_pow,decide_eq_true_eq]at h;rcases h with (rfl|h)|h
  ·simp_all
  ·simp_all
  ·rcases Vc h with h|⟨b,c,d⟩
   ·simp_all
   grind
def Dz:∀(l:List Oper) (a:List Nat) (c:List (List Nat)),a.length=c.length->(∀i j,(a.getD i 0).testBit j=true->j∈c.getD i [])->∀i j,((FC l a).getD i 0).testBit j=true->j∈(yS l c).getD i []
 | [],_,_,_,h,i,j,d=>h i j d
 | o::l,a,c,e,h,i,j,d=>by
  refine Dz l _ _ (by simp[e]) (fun f n b =>?_) i j d
  by_cases g:f<a.length
  ·rw[ajW,akb g,<- ajW]at b;grind
  ·by_cases m:f=a.length
   ·subst m;rw[ajW,akd (ajo _),akq]at b;simp only[List.getElem?_cons_zero,Option.getD_some]at b;rw[e,ajW,akd (ajo _),akq];simp only[List.getElem?_cons_zero,Option.getD_some,akI,akH];rcases Vc b with b|⟨k,p,b⟩
    ·exact .inl b
    grind
   grind
def ZZ {i j:Nat} (h:((Va ops).getD i 0).testBit j=true):j∈(afg ops).getD i [] :=
 Dz ops.toList [] [] rfl (fun i j h=>by simp at h) i j h
def UI (ops:Array Oper) (F:Nat->mE):Prop:=∀j i,j<i->i<ops.size->j∈(afg ops).getD i []∨UB ops F j i
def YV (hT:jH P T) (hΓ:bV P Γ) {F:Nat->mE} {Q:Exit->Act->World->Prop} {t':Nat->D} {h':Nat->Option Row} (hp:UI ops F) (q:∀i o,ops[i]? = some o->∀d∈direct o,d<i)
  (ag:∀(i j:Nat) (oi oj:Oper) (d:Nat),ops[i]? = some oi->ops[j]? = some oj->oi.dst=some d->oj.dst=some d->i=j) (hQ:∀G H f done,vx N M L w0 f e done t' h' G H->Q .normal G H) :
  ∀(n:Nat) (LL:List Nat) (listed:Array Bool) (t:Nat->D) (h:Nat->Option Row) (a:Act) (w:World) (blk:Nat->Option (Nat×Nat)) (done:List Nat),LL.length=n->(∀i,i∈LL↔listed.getD i true=false)->LL.Pairwise (· < ·)->(∀i∈LL,i<ops.size)->listed.size=ops.size ->
   (∀i o,ops[i]? = some o->listed.getD i false=true->∀d∈direct o,listed.getD d false=true)->(∀d∈done,∃i o,ops[i]? = some o∧o.dst=some d∧listed.getD i false=true) ->
   SB T Γ N e ops F LL t h t' h'->vx N M L w0 blk e done t h a w->wpAny P .any ops Q n listed a w:=by
 intro n
 induction n with
 | zero =>
  intro LL listed t h a w blk done U V W hlt x hdown g I X;have:LL=[]:=aku U;subst this;obtain⟨rfl,rfl⟩:=I;refine⟨?_,hQ a w blk done X⟩;refine List.eq_nil_iff_forall_not_mem.2 fun i Y =>?_;have:=(mem_ready.1 Y).1;grind
 | succ n ih =>
  intro LL listed t h a w blk done U V W hlt x hdown g I X;refine⟨fun J =>?_,fun i Y =>?_⟩
  ·cases LL with
   | nil=>simp at U
   | cons i LL =>
    obtain⟨o,t1,h1,y,_⟩:=I;have K:i∈Region.ready .any ops listed:=by
     refine mem_ready.2 ⟨(V i).1 (by simp),o,y,fun O z hb =>?_⟩;have b:O.on∈direct o:=ajn.2 ⟨O,akP.2 ⟨by simpa using z,hb⟩,rfl⟩;have ah:=q i o y _ b
     by_cases hm:O.on∈i::LL
     ·rcases aju.1 hm with hm|hm
      ·omega
      ·have:=(akQ.1 W).1 _ hm;omega
     grind
    grind
  ·obtain⟨Z,o,y,R⟩:=mem_ready.1 Y;have A:i∈LL:=(V i).2 Z;obtain⟨p,l,rfl⟩:=List.append_of_mem A;have B:i<listed.size:=by grind
   have C:∀d∈direct o,listed.getD d false=true:=by
    intro d b;obtain⟨O,z,rfl⟩:=ajn.1 b;grind
   have E:∀j∈p,UB ops F j i:=by
    intro j hj;have aa:j<i:=by
     grind
    rcases hp j i aa (hlt i A) with hc|hc
    ·have aj:listed.getD j false=true:=acY (S:=fun m=>listed.getD m false=true) hc (fun m om hm ab d b=>hdown m om hm ab d b) (fun o' r d b=>by
      grind)
     grind
    ·exact hc
   obtain⟨o',t1,h1,r,s,u⟩:=front I E;rw[y]at r;cases r;unfold wpOp;simp only[y];refine Nn hT hΓ X s (fun d b al =>?_) (fun G H f ad =>?_)
   ·grind
   ·have ai:∀k,(listed.setIfInBounds i true).getD k false=true↔k=i∨listed.getD k false=true:=by
     intro k
     by_cases c:k=i
     ·subst c;simp[B]
     ·rw[getD_set_ne false (Ne.symm c)];simp[c]
    have v:∀k,(listed.setIfInBounds i true).getD k true=false↔k≠i∧listed.getD k true=false:=by
     intro k
     by_cases c:k=i
     ·grind
     ·rw[getD_set_ne true (Ne.symm c)];simp[c]
    have an:(p++i::l).Nodup:=W.imp (fun h=>Nat.ne_of_lt h);refine ih (p++l) (listed.setIfInBounds i true) t1 h1 G H f _ (by grind) (fun k =>?_) ?_ (fun k hk=>hlt k (by grind)) (by simpa using x) (fun k ok hk ae d b =>?_) (fun d b =>?_) u ad
    ·rw[v];constructor
     ·intro hk;have ao:k∈p++i::l:=by grind
      grind
     grind
    ·grind
    ·grind
    ·rcases akI.1 b with b|b
     ·grind
     ·obtain⟨k,ok,hk,aq,ae⟩:=g d b;grind
end
def C4 (T:Nat->Option Ty) (Γ:Env) (N e:Nat) (ops:Array Oper):List Oper->(Nat->D)->(Nat->Option Row)->Option ((Nat->D)×(Nat->Option Row)×List mE)
 | [],t,h=>some (t,h,[])
 | o::l,t,h =>
  match step1 T Γ N e ops o t h with
  | some (t1,a,f) =>
   match C4 T Γ N e ops l t1 a with
   | some (t2,h2,fs)=>some (t2,h2,f::fs)
   | none=>none
  | none=>none
def MR:List Nat->Bool
 | []=>true
 | x::l => !l.contains x&&MR l
def aas (ops:Array Oper):Bool:=MR (ops.toList.filterMap (·.dst))
def UU (ops:Array Oper) (j i:Nat):Bool :=
 match ops[j]?,ops[i]? with
 | some oj,some oi=>oj.apart ops oi
 | _,_=>true
def S1 (ops:Array Oper):Bool :=
 (ops.toList.zipIdx.all fun p=>(direct p.1).all fun d=>decide (d<p.2)) &&
 ((List.range ops.size).all fun i=>(List.range i).all fun j=>((Va ops).getD i 0).testBit j||UU ops j i)
def KZ (ops:Array Oper):List (Nat×Nat):=(List.range ops.size).flatMap fun i=>((List.range i).filter fun j => !((Va ops).getD i 0).testBit j).map fun j=>(j,i)
def abF (fs:List mE) (p:Nat×Nat):Bool :=
 match fs[p.1]?,fs[p.2]? with
 | some f,some g=>f.q&&g.q||ac2 f.tc g.tc
 | _,_=>false
def FR (ops:Array Oper) (fs:List mE):Bool:=(KZ ops).all (abF fs)
inductive Ex where
 | normal
 | exit (n:Nat)
 | ret
structure St where
 t:Nat->D
 h:Nat->Option Row
 e:Nat
def iter (f:St->Option (Ex×St)):Nat->St->Option (Ex×St)
 | 0,_=>none
 | n+1,s =>
  match f s with
  | some (.normal,s1)=>iter f n s1
  | r=>r
def zh (T:Nat->Option Ty) (Γ:Env) (N:Nat) (ops:Array Oper) (a:Bool) (s:St):Option (Ex×St) :=
 match C4 T Γ N s.e ops ops.toList s.t s.h with
 | some (t,h,fs)=>if !a||FR ops fs then some (.normal,⟨t,h,s.e+1⟩) else none
 | none=>none
def Si (d:D) (x y:Option (Ex×St)):Option (Ex×St) :=
 match d with
 | .bool b=>if b then x else y
 | _=>none
def agi (r:Option (Ex×St)) (k:St->Option (Ex×St)):Option (Ex×St) :=
 match r with
 | some (.normal,s)=>k s
 | r=>r
def Us (id:Nat) (r:Option (Ex×St)):Option (Ex×St) :=
 match r with
 | some (.exit n,s)=>if n=id then some (.normal,s) else some (.exit n,s)
 | r=>r
def ib (T:Nat->Option Ty) (Γ:Env) (N F:Nat):Code->St->Option (Ex×St)
 | .skip,s=>some (.normal,s)
 | .region _ ops draw,s=>zh T Γ N ops draw s
 | .seq a b,s=>agi (ib T Γ N F a s) (ib T Γ N F b)
 | .cond c x y,s=>Si (ev s.t c) (ib T Γ N F x s) (ib T Γ N F y s)
 | .block id b,s=>Us id (ib T Γ N F b s)
 | .loop b,s=>iter (ib T Γ N F b) F s
 | .exit id,s=>some (.exit id,s)
 | .ret,s=>some (.ret,s)
 | _,_=>none
def codeOk:Code->Bool
 | .region _ ops draw=>aas ops&&(!draw||S1 ops)
 | .seq a b=>codeOk a&&codeOk b
 | .cond _ x y=>codeOk x&&codeOk y
 | .block _ b=>codeOk b
 | .loop b=>codeOk b
 | _=>true
section
variable {P:Program} {T:Nat->Option Ty} {N:Nat} {M:Nat->Prop} {L:kQ} {w0:World} {blk:Nat->Option (Nat×Nat)} {t:Nat->D} {h:Nat->Option Row} {a:Act} {w:World} {e:Nat} {o:Oper} {Γ:Env} {ops:Array Oper}
def KU:∀ {l:List Nat},MR l=true->l.Nodup
 | [],_=>List.nodup_nil
 | x::l,h=>by
  simp only[MR,ajV,Bool.not_eq_true',List.contains_eq_mem,decide_eq_false_iff_not]at h;exact List.nodup_cons.2 ⟨h.1,KU h.2⟩
def Iz:∀ {l:List Oper} {done:List Nat},(l.filterMap (·.dst)).Nodup->(∀o∈l,∀d,o.dst=some d->d∉done)->∀o a,l=o::a->(a.filterMap (·.dst)).Nodup∧∀b∈a,∀d,b.dst=some d->d∉o.dst.toList++done:=by
 grind
def AR (s:jH P T) (u:bV P Γ) {Q:Exit->Act->World->Prop} : ∀ {l:List Oper} {t g:Nat->D} {h h':Nat->Option Row} {fs:List mE} {a:Act} {w:World} {blk:Nat->Option (Nat×Nat)} {done:List Nat},
  C4 T Γ N e ops l t h=some (g,h',fs)->(l.filterMap (·.dst)).Nodup->(∀o∈l,∀d,o.dst=some d->d∉done)->vx N M L w0 blk e done t h a w ->
  (∀i j c done,vx N M L w0 c e done g h' i j->Q .normal i j)->wpList P ops Q l a w
 | [],t,g,h,h',fs,a,w,blk,done,b,_,_,k,m=>by
  simp only[C4,ajw,Prod.mk.injEq]at b;obtain⟨rfl,rfl,_⟩:=b;exact m a w blk done k
 | o::l,t,g,h,h',fs,a,w,blk,done,b,x,v,k,m=>by
  simp only[C4]at b;split at b
  ·rename_i t1 A f y;split at b
   ·rename_i t2 B z n;simp only[ajw,Prod.mk.injEq]at b;obtain⟨rfl,rfl,_⟩:=b;obtain⟨p,q⟩:=Iz x v o l rfl;have:=Nn (K:=wpList P ops Q l) (Q:=Q) s u k y (v o (by simp)) (fun i j c r=>AR s u n p q r m);unfold wpList;exact this
   ·cases b
  ·cases b
def BS {F:Nat->mE} : ∀ {l:List Oper} {k:Nat} {t b:Nat->D} {h h':Nat->Option Row} {fs:List mE},C4 T Γ N e ops l t h=some (b,h',fs)->(∀j,l[j]? = ops[k+j]?)->(∀j f,fs[j]? = some f->F (k+j)=f) ->
  fs.length=l.length∧SB T Γ N e ops F (List.range' k l.length) t h b h'
 | [],k,t,b,h,h',fs,a,_,_=>by
  simp only[C4,ajw,Prod.mk.injEq]at a;obtain⟨rfl,rfl,rfl⟩:=a;exact⟨rfl,rfl,rfl⟩
 | o::l,k,t,b,h,h',fs,a,d,g=>by
  simp only[C4]at a;split at a
  ·rename_i t1 i f s;split at a
   ·rename_i t2 u m c;simp only[ajw,Prod.mk.injEq]at a;obtain⟨rfl,rfl,rfl⟩:=a;obtain⟨n,p⟩:=BS (k:=k+1) c (fun j=>by have:=d (j+1);grind) (fun j q r=>by have:=g (j+1) q (by simpa using r);rwa [show k+(j+1)=k+1+j by omega]at this);refine⟨by simp[n],o,t1,i,by have:=d 0;simp_all,?_,p⟩;have:=g 0 f rfl;simp_all
   ·cases a
  ·cases a
def Holds (N:Nat) (M:Nat->Prop) (L:kQ) (w0:World) (s:St) (a:Act) (w:World):Prop:=∃blk,vx N M L w0 blk s.e [] s.t s.h a w
def I6 (Z:jH P T) (hΓ:bV P Γ) (hm:P.follows .mixedOrders=true) {id:Nat} {b:Bool} {s:St} {x:Ex} {s':St} {Q:Exit->Act->World->Prop} (z:zh T Γ N ops b s=some (x,s')) (g:(aas ops&&(!b||S1 ops))=true)
  (hH:Holds N M L w0 s a w) (hQ:∀A B,Holds N M L w0 s' A B->Q .normal A B):x=.normal∧(Code.region id ops b).wp P Q a w:=by
 unfold zh at z;split at z
 ·rename_i t h fs n;split at z
  ·rename_i c;simp only[ajw,Prod.mk.injEq]at z;obtain⟨rfl,rfl⟩:=z;refine⟨rfl,?_⟩;simp only[ajV]at g;have E:(ops.toList.filterMap (·.dst)).Nodup:=KU g.1;obtain⟨blk,K⟩:=hH;have p:∀A B e done,vx N M L w0 e s.e done t h A B->Q .normal A B:=by
    intro A B e done G;refine hQ A B ⟨e,G.inv.weaken fun x v O =>?_,fun x r ty s nv cs k1 k2 k3 k4 =>?_⟩
    ·rcases O with⟨J,O|⟨O,_⟩⟩|⟨J,R,h3,h4⟩
     ·exact .inl ⟨J,.inl (by simp only;omega)⟩
     ·exact .inl ⟨J,.inl (by simp only;omega)⟩
     ·exact .inr ⟨J,by simp only;omega,fun _=>by simp only;omega,h4⟩
    ·have:=G.nv x r ty s nv cs k1 k2 k3 k4;grind
   cases b with
   | false =>
    apply wp_region_list;exact AR Z hΓ n E (done:=[]) (fun o _ d _=>by simp) K p
   | true =>
    simp only[akE,akh]at c g;apply wp_region_any hm;have C:=g.2;simp only[S1,ajV]at C
    let F:Nat->mE:=fun i=>fs.getD i ⟨[],true⟩
    obtain⟨aa,q⟩:=BS (F:=F) (k:=0) n (fun j=>by simp) (fun j f hj=>by grind);have D:∀i o,ops[i]? = some o->∀d∈direct o,d<i:=by
     intro i o ho d hd;have h1:=C.1;rw[ajy]at h1;have u:(o,i)∈ops.toList.zipIdx:=by
      grind
     grind
    have H:∀(i j:Nat) (oi oj:Oper) (d:Nat),ops[i]? = some oi->ops[j]? = some oj->oi.dst=some d->oj.dst=some d->i=j:=by
     have key:∀(l:List Oper),(l.filterMap (·.dst)).Nodup->∀(i j:Nat) (oi oj:Oper) (d:Nat),l[i]? = some oi->l[j]? = some oj->oi.dst=some d->oj.dst=some d->i=j:=by
      intro l
      induction l with
      | nil=>simp_all
      | cons o l ih =>
       grind
     intro i j oi oj d y hj;exact key ops.toList E i j oi oj d (by simpa using y) (by simpa using hj)
    have m:UI ops F:=by
     intro j i I y
     by_cases S:((Va ops).getD i 0).testBit j=true
     ·exact .inl (ZZ S)
     ·refine .inr ⟨fun oj oi U V =>?_,?_⟩
      ·have R:=C.2;rw[ajy]at R;have:=R i (akR.2 y);rw[ajy]at this;have:=this j (akR.2 I);simp only[Bool.or_eq_true]at this;rcases this with h'|h'
       ·exact absurd h' S
       ·simpa [UU,U,V] using h'
      ·rw[FR,ajy]at c;have u:(j,i)∈KZ ops:=by
        refine akH.2 ⟨i,akR.2 y,ajn.2 ⟨j,akP.2 ⟨akR.2 I,?_⟩,rfl⟩⟩;simpa using S
       have:=c _ u;have W:i<fs.length:=by grind
       have X:j<fs.length:=by omega
       simp only[abF,ajA X,ajA W]at this;grind
    rw[ajX,<- List.range_eq_range']at q;have ab:∀i,(Array.replicate ops.size false).getD i false=false:=by
     intro i
     by_cases y:i<ops.size
     ·simp[Array.getD,y]
     grind
    have Y:∀i,(Array.replicate ops.size false).getD i true=false↔i<ops.size:=by
     grind
    exact YV Z hΓ m D H p ops.size (List.range ops.size) (Array.replicate ops.size false) s.t s.h a _ blk [] (by simp) (fun i=>by grind) akS (fun i y=>akR.1 y) (by simp)
     (fun i o _ hl=>by grind) (fun d hd=>by simp at hd) q ⟨K.inv.drew,K.nv⟩
  ·cases z
 ·cases z
def Gc:Ex->Exit
 | .normal =>.normal
 | .exit n =>.exit n
 | .ret =>.ret
def kb (E:jH P T) (G:bV P Γ) (H:P.follows .mixedOrders=true) {F:Nat} : ∀(c:Code) (s:St) (x:Ex) (i:St) (Q:Exit->Act->World->Prop) (a:Act) (w:World),ib T Γ N F c s=some (x,i)->codeOk c=true->Holds N M L w0 s a w ->
  (∀j k,Holds N M L w0 i j k->Q (Gc x) j k)->c.wp P Q a w:=by
 intro c
 induction c with
 | skip =>
  intro s x i Q a w e _ l h;simp only[ib,ajw,Prod.mk.injEq]at e;obtain⟨rfl,rfl⟩:=e;exact wp_skip (h a w l)
 | region id ops draw =>
  intro s x i Q a w e f l h;simp only[ib]at e;have I:x=.normal:=by
   unfold zh at e;grind
  subst I;exact (I6 E G H e f l h).2
 | seq b c m ihc =>
  intro s x i Q a w e f l h;simp only[codeOk,ajV]at f;simp only[ib,agi]at e;apply wp_seq;split at e
  ·rename_i p o;exact m s .normal p _ a w o f.1 l (fun j k g=>ihc p x i Q j k e f.2 g h)
  ·rename_i r q;refine m s x i _ a w e f.1 l (fun j k g =>?_);cases x with
   | normal=>simp_all
   | exit n=>exact h j k g
   | ret=>exact h j k g
 | cond c b d m y =>
  intro s x i Q a w e f l h;simp only[codeOk,ajV]at f;simp only[ib]at e;unfold Si at e;split at e
  ·rename_i B J;obtain⟨blk,z⟩:=l;have C:=z.inv.ev c;rw[J]at C;refine wp_cond (t:=B) (yK C) ?_;cases B with
   | true=>exact m s x i Q a w e f.1 ⟨blk,z⟩ h
   | false=>exact y s x i Q a w e f.2 ⟨blk,z⟩ h
  ·cases e
 | block id b u =>
  intro s x i Q a w e f l h;simp only[ib]at e;apply wp_block;unfold Us at e;split at e
  ·rename_i n p o;refine u s (.exit n) p _ a w o f l (fun j k g =>?_);split at e
   ·rename_i A;simp only[ajw,Prod.mk.injEq]at e;obtain⟨rfl,rfl⟩:=e;simp only[Gc,Exit.inBlock,A,if_true];exact h j k g
   ·rename_i A;simp only[ajw,Prod.mk.injEq]at e;obtain⟨rfl,rfl⟩:=e;simp only[Gc,Exit.inBlock,A,if_false];exact h j k g
  ·rename_i r q;refine u s x i _ a w e f l (fun j k g =>?_);cases x with
   | normal=>exact h j k g
   | exit n=>simp_all
   | ret=>exact h j k g
 | loop b u =>
  intro s x i Q a w e f l h;simp only[ib]at e;refine wp_loop_ghost (fun n a w=>∃s,Holds N M L w0 s a w∧iter (ib T Γ N F b) n s=some (x,i)) F ⟨s,l,e⟩ ?_;intro n a w ⟨p,v,o⟩;cases n with
  | zero=>simp[iter]at o
  | succ n =>
   simp only[iter]at o;split at o
   ·rename_i D K;exact u p .normal D _ a w K f v (fun j k g=>⟨n,by omega,D,g,o⟩)
   ·rename_i r q;refine u p x i _ a w o f v (fun j k g =>?_);cases x with
    | normal=>simp_all
    | exit n=>exact h j k g
    | ret=>exact h j k g
 | exit id =>
  intro s x i Q a w e _ l h;simp only[ib,ajw,Prod.mk.injEq]at e;obtain⟨rfl,rfl⟩:=e;exact wp_exit (h a w l)
 | ret =>
  intro s x i Q a w e _ l h;simp only[ib,ajw,Prod.mk.injEq]at e;obtain⟨rfl,rfl⟩:=e;exact wp_ret (h a w l)
 | _=>intro s x i Q a w e;simp[ib]at e
end
def Rs (T:Nat->Option Ty) (s:St):ResultVar->Option (D×List Nat)
 | .tmp i=>cO s.h (s.t i)
 | .cell i ty =>
  match T ty,s.t i with
  | some τ,.ptr x v o=>match fK τ s.h (.ptr x v o) with|some E=>some (jP E.val,[])|none=>none
  | _,_=>none
def xc (T:Nat->Option Ty) (s:St):List ResultVar->Option (List D×List Nat)
 | []=>some ([],[])
 | r::rs =>
  match Rs T s r with
  | some (d,fr)=>match xc T s rs with
   | some (ds,a)=>some (d::ds,fr++a)
   | none=>none
  | none=>none
def nR:List D->D
 | [d]=>d
 | ds =>.tup ds
inductive Mode where
 | clean|same|tight
 | fresh (ty s:Nat)
def cB:Option (D×Row)->List D->St
 | none,args=>⟨fun i=>args.getD i .und,fun _=>none,0⟩
 | some (d0,r),args=>⟨fun i=>(d0::args).getD i .und,fun x=>if x=0 then some { r with v:=0 } else none,1⟩
def nD:Option (D×Row)->St->Option (Option Row)
 | none,_=>some none
 | some (_,r),s =>
  match s.h 0 with
  | some a=>if a.v=0∧a.fz=false∧a.ty=r.ty∧(a.mp=r.mp∧w8 a=true) then some (some a) else none
  | none=>none
def abz:Option (D×Row)->List Nat->Bool
 | none,_=>true
 | some _,fr => !fr.contains 0
def sU (T:Nat->Option Ty) (lent:Option (D×Row)) (rs:List ResultVar) (s:St):Option (RK×Option Row) :=
 match xc T s rs,nD lent s with
 | some (a,fr),some o=>if abz lent fr then some (.clean (nR a),o) else none
 | _,_=>none
def Mp (lent:Option (D×Row)) (rs:List ResultVar) (s:St):Option (RK×Option Row) :=
 match rs with
 | [.tmp i] =>
  match s.t i,nD lent s with
  | .buf 0 0 sz o n,some (some r)=>some (.same sz o n,some r)
  | _,_=>none
 | _=>none
def J8:D->Option (RK×Option Row)
 | .sl nl a n xs=>some (.clean (.sl nl a n xs),none)
 | _=>none
def Ga (lent:Option (D×Row)) (rs:List ResultVar) (s:St):Option (RK×Option Row) :=
 match lent,rs with
 | none,[.tmp i]=>J8 (s.t i)
 | _,_=>none
def yX (ty s o n:Nat):Option Row->Option (RK×Option Row)
 | some r=>if r.fz=false∧r.ty=ty∧o+n*s<=r.cells.length then some (.fresh ty s n ((r.cells.drop o).take (n*s)),none) else none
 | none=>none
def sg (ty s:Nat) (h:Nat->Option Row):D->Option (RK×Option Row)
 | .buf x v a o n=>if a=s then yX ty s o n (live h x v) else none
 | .sl _ b 0 _=>if b=true then some (.fresh ty s 0 [],none) else none
 | _=>none
def uW (ty s:Nat) (rs:List ResultVar) (a:St):Option (RK×Option Row) :=
 match rs with
 | [.tmp i]=>sg ty s a.h (a.t i)
 | _=>none
def gu (a:Mode) (T:Nat->Option Ty) (lent:Option (D×Row)) (rs:List ResultVar) (s:St):Option (RK×Option Row) :=
 match a with
 | .clean=>sU T lent rs s
 | .same=>Mp lent rs s
 | .tight=>Ga lent rs s
 | .fresh ty sz=>uW ty sz rs s
def kD (a:Mode) (T:Nat->Option Ty) (Γ:Env) (F:Nat) (d:Func) (lent:Option (D×Row)) (b:List D):Option (RK×Option Row) :=
 match d.body with
 | some c =>
  if d.ntmps<=PK then
   match ib T Γ d.ntmps F c (cB lent b) with
   | some (.exit _,_)=>none
   | some (_,s)=>gu a T lent d.results.toList ⟨s.t,EH s.h,s.e⟩
   | none=>none
  else none
 | none=>none
def G9:Option (D×Row)->Bool
 | none=>true
 | some (.buf 0 0 _ _ _,_)=>true
 | some (.ptr 0 0 _,_)=>true
 | some (.mp 0 0,_)=>true
 | _=>false
def GX:Option (D×Row)->List D->Nat
 | none,ajj=>ajj.length
 | some _,ajj=>ajj.length+1
section
variable {P:Program} {T:Nat->Option Ty} {N:Nat} {M:Nat->Prop} {L:kQ} {w0:World} {blk:Nat->Option (Nat×Nat)} {a:Act} {w:World} {Γ:Env}
def Inv.aeN {V:Nat->Nat->Prop} {t:Nat->D} {h:Nat->Option Row} (d:Inv N M L w0 blk V t h a w) (fr:List Nat):rK M h blk fr M where
 le b c := .inl c
 no x i r g e f c:=d.notM e f c
def C3 (a:Array Value):ResultVar->Sem Value
 | .tmp t=>pure (a.getD t undef)
 | .cell b t=>do loadVar t (<- asAddr (a.getD b undef))
def HH (a:Func) (b:Array Value):results a b=(do
  let vs <- a.results.mapM (C3 b)
  pure (if h:vs.size=1 then vs[0] else .tuple vs)):=by
 unfold results;congr 1
def Yk (l:jH P T) {f:Nat->Prop} {ty:Nat} {τ:Ty} {g c:Nat} {xs:List D} {d:D} (m:T ty=some τ) (b:At w f g c xs) (n:xs.length=τ.size) (e:lA τ xs=some d) :
  ∃u,(loadVar ty ⟨g,c,none⟩).run P w=.ok u w∧RP w f d u:=by
 obtain⟨h,i,o,p,q⟩:=b.De;have j:τ.ds.uO=false->xs.length=1∧xs=[d]:=by
  intro k;simp only[lA,k,ajT,if_false]at e;grind
 have a:=mw (l ty τ m) w g c h (by rw[i,n]) o (fun k=>by simp_all);refine⟨_,a,?_⟩;cases r:τ.ds.uO with
 | true =>
  simp only[lA,r,if_true,ajw]at e;subst e;exact .agg xs h i p q
 | false =>
  grind
def abP (y:jH P T) {q:Nat->Prop} {V:Nat->Nat->Prop} {s:St} (j:Inv N M L w0 blk V s.t s.h a w) {r:ResultVar} {d:D} {fr:List Nat} (c:Rs T s r=some (d,fr)) (hl:rK M s.h blk fr q):∃u,(C3 a.tmps r).run P w=.ok u w∧RP w q d u:=by
 cases r with
 | tmp i =>
  simp only[Rs]at c;exact⟨a.tmps.getD i undef,rfl,j.cO c hl (j.slots i)⟩
 | cell i ty =>
  simp only[Rs]at c;split at c
  ·rename_i τ x v o z A;split at c
   ·rename_i E e;simp only[ajw,Prod.mk.injEq]at c;obtain⟨rfl,_⟩:=c;have f:=j.slots i;rw[A]at f;simp only[fK]at e;split at e
    ·rename_i B h;obtain⟨t,C⟩:=cM h;split at e
     ·rename_i F;split at e
      ·rename_i I k;simp only[ajw]at e;subst e;obtain⟨g,G,l⟩:=f.2 B t C;have m:=((j.rowAt t G (js h)).drop o).take τ.size;obtain⟨u,n,p⟩:=Yk y z m (by simp;omega) k;refine⟨u,?_,(p.less fun b H=>hl.le b H).jP⟩;simp only[C3,l,asAddr,ajR,Sem.run_pure,Result.andThen_ok,n]
      ·cases e
     ·cases e
    ·cases e
   ·cases c
  ·cases c
def RH (g:jH P T) {i:Nat->Prop} {V:Nat->Nat->Prop} {s:St} (k:Inv N M L w0 blk V s.t s.h a w):∀(rs:List ResultVar) (b:List D) (fr:List Nat),xc T s rs=some (b,fr)->rK M s.h blk fr i ->
  ∃c:List Value,(rs.mapM (C3 a.tmps)).run P w=.ok c w∧c.length=b.length∧∀j d,b[j]? = some d->RP w i d (c.getD j undef)
 | [],b,fr,h,_=>by
  simp only[xc,ajw,Prod.mk.injEq]at h;simp_all
 | r::rs,b,fr,h,l=>by
  simp only[xc]at h;split at h
  ·rename_i d m n;split at h
   ·rename_i e f o;simp only[ajw,Prod.mk.injEq]at h;obtain⟨rfl,rfl⟩:=h;obtain⟨c,v,p,x⟩:=RH g k rs e f o l.right;obtain⟨u,q,t⟩:=abP (P:=P) g k n l.left;refine⟨u::c,?_,by simp[p],fun j d y =>?_⟩
    ·simp_all
    grind
   ·cases h
  ·cases h
def uc (k:jH P T) {i:Nat->Prop} {V:Nat->Nat->Prop} {s:St} (l:Inv N M L w0 blk V s.t s.h a w) {f:Func} {b:List D} {fr:List Nat} (h:xc T s f.results.toList=some (b,fr)) (m:rK M s.h blk fr i) :
  ∃v,(results f a.tmps).run P w=.ok v w∧RP w i (nR b) v:=by
 obtain⟨e,n,g,c⟩:=RH (P:=P) k l _ b fr h m;have o:(f.results.mapM (C3 a.tmps)).run P w=.ok e.toArray w:=by
  rw[aj7,Sem.run_map,n];rfl
 rw[HH];simp only[ajR,o,Result.andThen_ok,Sem.run_pure];refine⟨_,rfl,?_⟩
 match e,b,g,c with
 | [u],[d],_,c=>simpa [nR] using c 0 d rfl
 | [],[],_,_=>exact .tup [] [] rfl (fun j x p=>by simp at p)
 | q::r::e,d1::d2::b,g,c =>
  have:¬(q::r::e).toArray.size=1:=by simp
  rw[dif_neg this];exact .tup _ _ (by simpa using g) c
def qS {a:Func} {b:Array Value} {i:Nat} (h:a.results.toList=[.tmp i]):(results a b).run P w=.ok (b.getD i undef) w:=by
 have c:a.results = #[.tmp i]:=by rw[<- h]
 rw[HH,c];simp[C3]
def Inv.uW {V:Nat->Nat->Prop} {s:St} {q Q:Nat} (t:Inv N M L w0 blk V s.t s.h a w) {G:Func} {y:RK} {out:Option Row} (e:Am.uW q Q G.results.toList s=some (y,out)) :
  out=none∧∃v ty p n cells,y=.fresh ty p n cells∧(results G a.tmps).run P w=.ok v w∧xh w0 w M (LB L) v y:=by
 unfold Am.uW at e;split at e
 ·rename_i i k;have f:=t.slots i;unfold sg at e;split at e
  ·rename_i x v p o n z;rw[z]at f;split at e
   ·rename_i B;subst B;unfold yX at e;split at e
    ·rename_i r l;split at e
     ·rename_i h;obtain⟨R,S,T⟩:=h;simp only[ajw,Prod.mk.injEq]at e;obtain⟨rfl,rfl⟩:=e;refine⟨rfl,a.tmps.getD i undef,_,_,_,_,rfl,qS k,?_⟩;obtain⟨H,hv⟩:=cM l;have U:((r.cells.drop o).take (n*p)).length=n*p:=by simp;omega
      rcases t.A2 l f with⟨g,o',c,cs,C,I,J,D,g4,W,g7,K⟩|⟨C,rfl,J,A,D⟩
      ·by_cases X:0<c∨o=0
       ·obtain⟨Y,Z⟩:=W X;subst Y;refine .inl ⟨(g.1,g.2+o),c,cs,I,(show w0.heap.size<=g.1∨LB L g.1 from t.base H C),by simp_all,J,D,Z,by omega,fun j d m =>?_⟩;rw[eA]at m;split at m
        ·rw[ajG];refine⟨(K _ _ m).1,(K _ _ m).2.less fun b E =>?_⟩;rcases E with E|rfl
         ·exact .inl E
         ·exact .inr ⟨x,r,g,H,R,C,rfl⟩
        ·cases m
       ·have hn:n=0:=by omega
        have F:c=0:=by omega
        subst hn F;exact .inr ⟨rfl,by simp,_,I⟩
      ·exact .inr ⟨rfl,by simp,A,D⟩
     ·cases e
    ·cases e
   ·cases e
  ·rename_i O tg xs z;rw[z]at f;split at e
   ·rename_i aa;simp only[ajw,Prod.mk.injEq]at e;obtain⟨rfl,rfl⟩:=e;refine⟨rfl,a.tmps.getD i undef,_,_,_,_,rfl,qS k,.inr ⟨rfl,rfl,?_⟩⟩;have hr:RP w (Own M s.h blk) (.sl O tg 0 xs) (a.tmps.getD i undef):=f;generalize a.tmps.getD i undef=u at *;cases hr with
    | sl A c O tight n xs us h1 h2 h3 h4 h5 h6 h7 h8 =>
     simp_all
   ·cases e
  ·cases e
 ·cases e
def yt {args:List D} {vs:Array Value} {n i:Nat} (a:vs.size=args.length):(vs++Array.replicate (n-vs.size) undef).getD i undef=vs.getD i undef∨args.getD i .und=.und:=by
 by_cases b:i<args.length
 ·left;have:i<vs.size:=by omega
  simp[ajs,akT this]
 simp_all
def Xa {h:Nat->Option Row} (d:∀k r,h k=some r->k<2*PK∧w8 r=true):EH h=h:=by
 funext k
 by_cases e:k<2*PK
 ·rw[uQ e];cases a:h k with
  | none=>rfl
  | some r =>
   simp only[Option.map_some,EY];split
   ·rename_i c;obtain⟨f,vs,b⟩:=BI (d k r a).2 c;cases r;simp only at b;subst b;rfl
   ·rfl
 ·have g:h k=none:=by
   cases a:h k with
   | none=>rfl
   | some r=>simp_all
  rw[g];unfold EH;rw[if_neg e];cases a:h (k % PK) with
  | none=>rfl
  | some r =>
   simp only[Option.bind_some,tV];split
   ·rename_i c;obtain⟨f,vs,b⟩:=BI (d _ r a).2 c;rw[b];rfl
   ·rfl
def E5 {h:Nat->Option Row} (b:∀k r,h k=some r->k<2*PK∧r.mp=false):EH h=h:=by
 funext k
 by_cases c:k<2*PK
 ·rw[uQ c];cases a:h k with
  | none=>rfl
  | some r =>
   simp only[Option.map_some,EY,(b k r a).2];rfl
 ·have d:h k=none:=by
   cases a:h k with
   | none=>rfl
   | some r=>simp_all
  rw[d];unfold EH;rw[if_neg c];cases a:h (k % PK) with
  | none=>rfl
  | some r =>
   simp only[Option.bind_some,tV,(b _ r a).2];rfl
def lN (hT:jH P T) (hΓ:bV P Γ) (hm:P.follows .mixedOrders=true) {K:Mode} {f:FuncId} {A:Func} {F:Nat} {lent:Option (D×Row)} {a:List D} {rk:RK} {ad:Option Row} (hf:P.funcs[f]? = some A)
  (V:(match A.body with|some c=>codeOk c|none=>true)=true) (hn:GX lent a<=A.ntmps) (W:G9 lent=true)
  (d:kD K T Γ F A lent a=some (rk,ad)):uh P f lent a rk ad:=by
 unfold kD at d;split at d<;>try (cases d;done)
 rename_i c hc;rw[hc]at V;simp only at V;split at d<;>try (cases d;done)
 rename_i aa;split at d<;>try (cases d;done)
 rename_i x s az hv;cases lent with
 | none =>
  intro w M vs hM h;have hI:Inv A.ntmps M none w (fun _=>none) (fun x v=>x<A.ntmps∧v<0) (cB none a).t (cB none a).h { tmps:=vs++Array.replicate (A.ntmps-vs.size) undef,defers:=[] } w:={
   tab:=fun b e=>(h.tab b e).less fun b e=>by
    rcases e with e|⟨x,r,g,l,_⟩
    ·exact e
    ·cases l
   below:=eH.refl _ _
   mlt:=hM
   lent:=fun b e=>absurd e tI
   pin:=fun B I=>by cases I
   defers:=rfl
   tsz:=by have:=h.1;simp only[GX]at hn;simp;omega
   slots:=fun i=>by
    simp only[cB];rcases yt (n:=A.ntmps) (i:=i) h.1 with he|he
    ·rw[he]
     by_cases hi:i<a.length
     ·have C:=h.2 i _ (ajA hi);have L:a.getD i .und=a[i]:=by simp_all
      rw[L];exact bT (C.less fun b e=>by
       rcases e with e|⟨x,r,g,l,_⟩
       ·exact e
       ·cases l)
     ·have L:a.getD i .und=.und:=by simp_all
      rw[L];trivial
    ·rw[he];trivial
   rows:=fun x r l=>by cases l
   inj:=fun x y r s g g' l=>by cases l
   big:=aa
   pha:=fun y r g J=>by cases J
   ali:=fun y r g J=>by cases J }
  apply calls_of_wp hf hc;refine kb hT hΓ hm c (cB none a) x s _ _ _ hv V ⟨_,⟨(by rw[E5 (fun k r X=>by cases X)];exact hI.weaken fun x v l=>absurd l.2 (Nat.not_lt_zero _)),fun x r ty s nv cs l=>by cases l⟩⟩ (fun U w' hH =>?_);obtain⟨q,ae⟩:=hH;obtain⟨sE,N⟩:∃sE:St,sE=⟨s.t,EH s.h,s.e⟩:=⟨_,rfl⟩;have hI':Inv A.ntmps M none w q (VE A.ntmps s.e [] s.h) sE.t sE.h U w':=by rw[N];exact ae.inv
  rw[<- N]at d;have t:Below w.heap.size w w':=hI'.below.below (fun b e=>absurd e tI);have u:U.defers=[]∧∃v,(results A U.tmps).run P w'=.ok v w'∧(∃v',Ending.returned v=.returned v'∧Below w.heap.size w w'∧xh w w' M (fun _=>False) v' rk):=by
   refine⟨hI'.defers,?_⟩;cases K with
   | clean =>
    simp only[gu,sU,nD]at d;split at d<;>try (cases d;done)
    rename_i ds fr o O ho;split at d<;>try (cases d;done)
    simp only[ajw,Prod.mk.injEq]at d;obtain⟨rfl,_⟩:=d;obtain⟨v,E,z⟩:=uc (P:=P) hT hI' O (hI'.aeN fr);exact⟨v,E,v,rfl,t,z⟩
   | same =>
    simp only[gu,Mp,nD]at d;grind
   | tight =>
    simp only[gu,Ga]at d;split at d<;>try (cases d;done)
    rename_i i _ ag;have Y:=hI'.slots i;generalize sE.t i=dd at *;unfold J8 at d;split at d<;>try (cases d;done)
    rename_i nl tg n xs;simp only[ajw,Prod.mk.injEq]at d;obtain⟨rfl,_⟩:=d;have ao:RP w' (Own M sE.h q) (.sl nl tg n xs) (U.tmps.getD i undef):=Y;exact⟨U.tmps.getD i undef,qS ag,_,rfl,t,ao.less fun b e =>.inl e⟩
   | fresh au s0 =>
    obtain⟨rfl,v,ty,sz,n,cells,rfl,E,z⟩:=hI'.uW (P:=P) d;refine⟨v,E,v,rfl,t,?_⟩;rcases z with⟨g,k1,cs,k2,k3,k4⟩|z
    ·exact .inl ⟨g,k1,cs,k2,k3.imp id (fun e=>absurd e tI),k4⟩
    ·exact .inr z
  cases x with
  | normal=>exact u
  | ret=>exact u
  | exit n=>simp_all
 | some p =>
  obtain⟨d0,r⟩:=p;intro w M B u0 vs hM hgoM hz ah ab ai h;have Q:∀b,Own M (cB (some (d0,r)) a).h (fun x=>if x=0 then B else none) b↔(M b∨wG B b):=by
   intro b;constructor
   ·rintro (e|⟨x,R,g,l,_,I,he⟩)
    ·exact .inl e
    ·simp only[cB]at l;split at l
     ·rename_i h0;subst h0;simp only[if_true]at I;exact .inr ⟨g,I,he.symm⟩
     ·cases l
   ·rintro (e|⟨g,I,he⟩)
    ·exact .inl e
    ·exact .inr ⟨0,{ r with v:=0 },g,rfl,hz,by simpa using I,he.symm⟩
  have hI:Inv A.ntmps M (MJ B) w (fun x=>if x=0 then B else none) (fun x v=>x<A.ntmps∧v<1) (cB (some (d0,r)) a).t (cB (some (d0,r)) a).h { tmps:=(#[u0]++vs)++Array.replicate (A.ntmps-(#[u0]++vs).size) undef,defers:=[] } w:={
   tab:=fun b e=>(h.tab b e).less fun b e=>(Q b).1 e
   below:=eH.refl _ _
   mlt:=hM
   lent:=fun b e=>hgoM b (LY.1 e)
   pin:=fun aA I=>by
    cases I;exact⟨⟨by simp only[GX]at hn;omega,akU⟩,fun R _ _=>⟨rfl,fun g _=>rfl⟩⟩
   defers:=rfl
   tsz:=by have:=h.1;simp only[GX]at hn;simp;omega
   slots:=fun i=>by
    simp only[cB];rcases yt (args:=d0::a) (vs:=#[u0]++vs) (n:=A.ntmps) (i:=i) (by simp[h.1];omega) with he|he
    ·rw[he];cases i with
     | zero =>
      have L:(#[u0]++vs).getD 0 undef=u0:=by simp[Array.getElem?_append]
      rw[L];simp only[aki];cases d0 with
      | buf x v sz o n =>
       have S:x=0∧v=0:=by
        simp only[G9]at W;grind
       obtain⟨rfl,rfl⟩:=S;exact⟨⟨by simp only[GX]at hn;omega,akU⟩,fun R C h2=>by simpa using ai.2 ⟨0,0,[],false,false,false⟩ rfl rfl⟩
      | ptr x v o =>
       have S:x=0∧v=0:=by
        simp only[G9]at W;grind
       obtain⟨rfl,rfl⟩:=S;exact⟨⟨by simp only[GX]at hn;omega,akU⟩,fun R C h2=>by simpa using ai.2 ⟨0,0,[],false,false,false⟩ rfl rfl⟩
      | mp x v =>
       have S:x=0∧v=0:=by
        simp only[G9]at W;grind
       obtain⟨rfl,rfl⟩:=S;exact⟨⟨by simp only[GX]at hn;omega,akU⟩,fun R C h2=>by simpa using ai.2 ⟨0,0,[],false,false,false⟩ rfl rfl⟩
      | _=>simp[G9]at W
     | succ i =>
      have L:(#[u0]++vs).getD (i+1) undef=vs.getD i undef:=by
       simp only[ajs];rw[Array.getElem?_append_right (by simp)];simp
      rw[L];simp only[akj]
      by_cases hi:i<a.length
      ·have C:=h.2 i _ (ajA hi);have L:a.getD i .und=a[i]:=by simp_all
       rw[L];exact bT (C.less fun b e=>(Q b).1 e)
      ·have L:a.getD i .und=.und:=by simp_all
       rw[L];trivial
    ·rw[he];trivial
   rows:=fun x R l=>by
    simp only[cB]at l;split at l
    ·rename_i h0;subst h0;simp only[ajw]at l;subst l;refine⟨fun hn=>⟨hn,akU⟩,?_⟩;simp only[if_true];cases B with
     | none=>exact ab
     | some g =>
      exact⟨.inr (LY.2 ⟨g,rfl,rfl⟩),eU.keep (r':={ r with v:=0 }) ab rfl rfl rfl rfl (fun b C h2=>⟨C,fun e=>h2 ((Q b).1 e),rfl⟩)⟩
    ·cases l
   inj:=fun x y m r2 g g' l J _ _ _=>by
    simp_all
   big:=aa
   pha:=fun y m g J hm _ j x s n hj=>by
    simp only[cB]at J;split at J
    ·simp only[ajw]at J;subst J;obtain⟨ks,av,hc⟩:=BI ah hm;grind
    ·cases J
   ali:=fun y m g J aB=>by
    simp only[cB]at J;grind }
  have Z:EH (cB (some (d0,r)) a).h=(cB (some (d0,r)) a).h:=by
   refine Xa fun k R X =>?_;simp only[cB]at X;split at X
   ·rename_i h0;subst h0;simp only[ajw]at X;subst X;exact⟨(by have:=du;omega),by simpa [w8] using ah⟩
   ·cases X
  have aq:Is (cB (some (d0,r)) a).e [] (cB (some (d0,r)) a).h:=by
   intro x R ty s nv cs l aw;simp only[cB]at l;split at l
   ·simp only[ajw]at l;subst l;intro aC;obtain⟨ks,av,hc⟩:=BI ah aw;simp_all
   ·cases l
  apply calls_of_wp hf hc;refine kb hT hΓ hm c (cB (some (d0,r)) a) x s _ _ _ hv V ⟨_,⟨(by rw[Z];exact hI.weaken fun x v l =>.inl ⟨l.1,.inl l.2⟩),aq⟩⟩ (fun U w' hH =>?_);obtain⟨q,ae⟩:=hH;obtain⟨sE,N⟩:∃sE:St,sE=⟨s.t,EH s.h,s.e⟩:=⟨_,rfl⟩;have hI':Inv A.ntmps M (MJ B) w q (VE A.ntmps s.e [] s.h) sE.t sE.h U w':=by rw[N];exact ae.inv
  rw[<- N]at d;have t:eH (wG B) w w':=⟨hI'.below.os,hI'.below.tape,hI'.below.output,hI'.below.size,fun k X hn=>hI'.below.block k X (fun e=>hn (LY.1 e))⟩;have G:∀m,nD (some (d0,r)) sE=some (some m)->sE.h 0=some m∧m.v=0∧m.fz=false∧(m.ty=r.ty∧(m.mp=r.mp∧w8 m=true))∧q 0=B∧(∀g,B=some g->w'.shape? g.1=w.shape? g.1)∧(∀b,(M b∨wG B b)->Own M sE.h q b):=by
   intro m hl;simp only[nD]at hl;split at hl<;>try (cases hl;done)
   rename_i r2 h2;split at hl<;>try (cases hl;done)
   rename_i aj;simp only[ajw]at hl;subst hl;obtain⟨c1,c2,c3⟩:=aj;obtain⟨_,k2⟩:=hI'.pin _ rfl;obtain⟨k3,k4⟩:=k2 r2 h2 c1;refine⟨h2,c1,c2,c3,k3,k4,?_⟩;rintro b (e|⟨g,I,he⟩)
   ·exact .inl e
   ·exact .inr ⟨0,r2,g,h2,c2,k3.trans I,he.symm⟩
  have H:∀m,nD (some (d0,r)) sE=some (some m)->UK w' (fun b=>M b∨wG B b) B m:=by
   intro m hl;obtain⟨C,_,_,h4,h5,_,h7⟩:=G m hl;have:=(hI'.rows 0 m C).2;rw[h5]at this;cases B with
   | none=>exact this
   | some g =>
    exact eU.keep this.2 rfl rfl rfl rfl (fun b C h2=>⟨C,fun e=>h2 (h7 b e),rfl⟩)
  have u:U.defers=[]∧∃v,(results A U.tmps).run P w'=.ok v w'∧(∃v',Ending.returned v=.returned v'∧eH (wG B) w w'∧aeh w w' M B r ad∧aej w w' M B v' rk):=by
   refine⟨hI'.defers,?_⟩;cases K with
   | clean =>
    simp only[gu,sU]at d;split at d<;>try (cases d;done)
    rename_i ds fr o O ho;split at d<;>try (cases d;done)
    rename_i ax;simp only[abz,Bool.not_eq_true',List.contains_eq_mem,decide_eq_false_iff_not]at ax;simp only[ajw,Prod.mk.injEq]at d;obtain⟨rfl,rfl⟩:=d;cases o with
    | none =>
     simp only[nD]at ho;grind
    | some m =>
     obtain⟨C,h2,h3,h4,h5,h6,h7⟩:=G m ho;have al:rK M sE.h q fr (fun b=>M b∨wG B b):=by
      refine⟨h7,fun x l R g ar I e =>?_⟩;rcases e with e|⟨g',ay,he⟩
      ·exact hI'.notM ar I e
      ·have:x=0:=hI'.inj x 0 R m g g' ar C I (h5.trans ay) he;simp_all
     obtain⟨v,E,z⟩:=uc (P:=P) hT hI' O al;exact⟨v,E,v,rfl,t,⟨h4.1,h3,h4.2,h6,H m ho⟩,z⟩
   | same =>
    simp only[gu,Mp]at d;split at d<;>try (cases d;done)
    rename_i i ag;split at d<;>try (cases d;done)
    rename_i sz o n m ht ho;simp only[ajw,Prod.mk.injEq]at d;obtain⟨rfl,rfl⟩:=d;obtain⟨C,h2,h3,h4,h5,h6,h7⟩:=G m ho;refine⟨U.tmps.getD i undef,qS ag,_,rfl,t,⟨h4.1,h3,h4.2,h6,H m ho⟩,?_⟩;have Y:=hI'.slots i;rw[ht]at Y;refine⟨trivial,fun R _ _ =>?_⟩;have:=Y.2 m C h2;rw[h5]at this;exact this
   | tight =>
    simp only[gu,Ga]at d;cases d
   | fresh au s0 =>
    obtain⟨rfl,v,ty,sz,n,cells,rfl,E,z⟩:=hI'.uW (P:=P) d;refine⟨v,E,v,rfl,t,trivial,?_⟩;rcases z with⟨g,k1,cs,k2,k3,k4⟩|z
    ·exact .inl ⟨g,k1,cs,k2,k3.imp id (fun e=>LY.1 e),k4⟩
    ·exact .inr z
  cases x with
  | normal=>exact u
  | ret=>exact u
  | exit n=>simp_all
def ext (Γ:Env) (f:Nat) (l:Bool) (G:Option (D×Row)->List D->Option (RK×Option Row)):Env:=⟨fun g=>if g=f then l else Γ.lends g,fun g lent ajj=>if g=f then G lent ajj else Γ.sem g lent ajj,Γ.own,Γ.hint,Γ.ins,Γ.grw,Γ.nst,Γ.nx⟩
def bV.ext (b:bV P Γ) {f:Nat} {l:Bool} {G:Option (D×Row)->List D->Option (RK×Option Row)} (d:∀lent ajj c a,G lent ajj=some (c,a)->uh P f lent ajj c a) (e:eZ P f):bV P (Am.ext Γ f l G):=by
 refine⟨fun g lent ajj c a h =>?_,b.ins,b.grw,b.lnd,b.res⟩;simp only[Am.ext]at h;split at h
 ·simp_all
 ·exact b.calls g lent ajj c a h
def bn:Env:=⟨fun _=>false,fun _ _ _=>none,fun _=>true,fun _=>none,fun _=>none,fun _=>none,fun _=>none,{}⟩
def bV.none:bV P bn:=⟨fun f lent a c b h=>(by cases h),fun f p h=>(by cases h),fun f p h=>(by cases h),fun f p h=>(by cases h),fun f p h=>(by cases h)⟩
def keep (d:Nat) (Γ:Env):Env:=⟨Γ.lends,Γ.sem,fun i=>i != d&&Γ.own i,Γ.hint,Γ.ins,Γ.grw,Γ.nst,Γ.nx⟩
def bV.keep (a:bV P Γ) (d:Nat):bV P (Am.keep d Γ):=⟨a.calls,a.ins,a.grw,a.lnd,a.res⟩
def GF (f:Nat) (p:Nat×Nat×Nat) (Γ:Env):Env:=⟨Γ.lends,Γ.sem,Γ.own,Γ.hint,fun g=>if g=f then some p else Γ.ins g,Γ.grw,Γ.nst,Γ.nx⟩
def bV.GF (a:bV P Γ) {f:Nat} {p:Nat×Nat×Nat} (b:Y8 P f p):bV P (Am.GF f p Γ):=⟨a.calls,fun g q h=>by
 simp only[Am.GF]at h;split at h
 ·simp_all
 ·exact a.ins g q h,a.grw,a.lnd,a.res⟩
def w9 (d:Nat) (p:Nat×Nat×Nat) (Γ:Env):Env:=⟨Γ.lends,Γ.sem,Γ.own,Γ.hint,Γ.ins,Γ.grw,fun i=>if i=d then some p else Γ.nst i,Γ.nx⟩
def bV.w9 (a:bV P Γ) (d:Nat) (p:Nat×Nat×Nat):bV P (Am.w9 d p Γ):=⟨a.calls,a.ins,a.grw,a.lnd,a.res⟩
def rU (f:Nat) (p:Nat×(Nat->Nat->Nat->Nat->List D->List D->Option (D×List D))) (Γ:Env):Env:=⟨Γ.lends,Γ.sem,Γ.own,Γ.hint,Γ.ins,Γ.grw,Γ.nst,⟨fun g=>if g=f then some p else Γ.nx.lnd g,Γ.nx.res⟩⟩
def bV.rU (b:bV P Γ) {f:Nat} {p:Nat×(Nat->Nat->Nat->Nat->List D->List D->Option (D×List D))} (e:eZ P f) (i:∀ty t s o cs a d c,p.2 ty t s o cs a=some (d,c)->LU P f ty t s o cs a d c):bV P (Am.rU f p Γ):=⟨b.calls,b.ins,b.grw,fun g q h=>by
 simp only[Am.rU]at h;split at h
 ·simp_all
 ·exact b.lnd g q h,b.res⟩
def BM (f:Nat) (p:List D->Option (Nat×Nat×Nat×Nat×Nat×List D)) (Γ:Env):Env:=⟨Γ.lends,Γ.sem,Γ.own,Γ.hint,Γ.ins,Γ.grw,Γ.nst,⟨Γ.nx.lnd,fun g=>if g=f then some p else Γ.nx.res g⟩⟩
def bV.BM (b:bV P Γ) {f:Nat} {p:List D->Option (Nat×Nat×Nat×Nat×Nat×List D)} (c:eZ P f) (d:∀a ty t s S n cs,p a=some (ty,t,s,S,n,cs)->LS P f a ty t s S n cs):bV P (Am.BM f p Γ):=⟨b.calls,b.ins,b.grw,b.lnd,fun g q h=>by
 simp only[Am.BM]at h;split at h
 ·simp_all
 ·exact b.res g q h⟩
end
def tu (ty t s o:Nat) (cs a:List D):St:=⟨fun i=>(.ptr 0 0 o::a).getD i .und,oB (jt ty t s 0 cs),1⟩
def aaB (t s:Nat) (b:List D):List D->Option (D×List D)
 | [.nr c d _ a]=>if c=t∧d=s then some (nR b,a) else none
 | _=>none
def Pm (ty t s:Nat):Option (List D×List Nat)->Option Row->Option (D×List D)
 | some (a,fr),some r=>if r.v=0∧r.fz=false∧r.ty=ty∧r.mp=true∧fr.all (fun k=>rt k != 0)=true then aaB t s a r.cells else none
 | _,_=>none
def XE (T:Nat->Option Ty) (ty t s:Nat) (rs:List ResultVar) (a:St):Option (D×List D):=Pm ty t s (xc T ⟨a.t,EH a.h,a.e⟩ rs) (a.h 0)
def wB (T:Nat->Option Ty) (Γ:Env) (F:Nat) (b:Func) (ty t s o:Nat) (cs a:List D):Option (D×List D) :=
 match b.body with
 | some c =>
  if b.ntmps<=PK then
   match ib T Γ b.ntmps F c (tu ty t s o cs a) with
   | some (.exit _,_)=>none
   | some (_,st)=>XE T ty t s b.results.toList st
   | none=>none
  else none
 | none=>none
def aaz (x S n:Nat) (ty:Nat):List D->Option (Nat×Nat×Nat×Nat×Nat×List D)
 | [.nr t s _ cs]=>if x<PK then some (ty,t,s,S,n,cs) else none
 | _=>none
def Pj (x v S n:Nat):Option Row->Option (Nat×Nat×Nat×Nat×Nat×List D)
 | some r=>if r.v=v∧r.fz=false∧r.mp=true then aaz x S n r.ty r.cells else none
 | none=>none
def Vn (h:Nat->Option Row):D->Option (Nat×Nat×Nat×Nat×Nat×List D)
 | .buf x v S 0 n=>Pj x v S n (h x)
 | _=>none
def aay (rs:List ResultVar) (a:St):Option (Nat×Nat×Nat×Nat×Nat×List D) :=
 match rs with
 | [.tmp i]=>Vn a.h (a.t i)
 | _=>none
def AQ (T:Nat->Option Ty) (Γ:Env) (F:Nat) (b:Func) (a:List D):Option (Nat×Nat×Nat×Nat×Nat×List D) :=
 match b.body with
 | some c =>
  if b.ntmps<=PK then
   match ib T Γ b.ntmps F c (cB none a) with
   | some (.exit _,_)=>none
   | some (_,st)=>aay b.results.toList st
   | none=>none
  else none
 | none=>none
section
variable {P:Program} {T:Nat->Option Ty} {N:Nat} {M:Nat->Prop} {L:kQ} {w0:World} {blk:Nat->Option (Nat×Nat)} {a:Act} {w:World} {Γ:Env}
def NF (hT:jH P T) (hΓ:bV P Γ) (hm:P.follows .mixedOrders=true) {f:FuncId} {K:Func} {F:Nat} {ty t s o:Nat} {cs a ad:List D} {d:D} (hf:P.funcs[f]? = some K)
  (W:(match K.body with|some c=>codeOk c|none=>true)=true) (hn:a.length+1<=K.ntmps)
  (z:wB T Γ F K ty t s o cs a=some (d,ad)):LU P f ty t s o cs a d ad:=by
 unfold wB at z;split at z<;>try (cases z;done)
 rename_i c hc;rw[hc]at W;simp only at W;split at z<;>try (cases z;done)
 rename_i ae;split at z<;>try (cases z;done)
 rename_i x st an hv;intro w M blk E C m vs L N hM hdis X hR A;have az:=du;have ag:∀k r,E k=some r->r.fz=false:=by
  intro k r G;rw[L]at G;rcases kl G with⟨_,rfl⟩|⟨_,_,_,_,_,rfl⟩<;>rfl
 have H:∀b,Own M E blk b↔(M b∨yJ blk E b):=by
  intro b;constructor
  ·rintro (e|⟨k,r,g,C,_,h2,h3⟩)
   ·exact .inl e
   ·exact .inr ⟨k,r,g,C,h2,h3⟩
  ·rintro (e|⟨k,r,g,C,h2,h3⟩)
   ·exact .inl e
   ·exact .inr ⟨k,r,g,C,ag k r C,h2,h3⟩
 have Y:E 0=some ⟨0,ty,cs.mapIdx (ue 0 s),false,true,true⟩:=by rw[L];exact yo
 obtain⟨LL,Z⟩:∃LL:kQ,LL=some (some m,yJ blk E):=⟨_,rfl⟩;have O:∀b,LB LL b↔yJ blk E b:=by
  intro b;subst Z;constructor
  ·rintro⟨p,hp,h⟩;cases hp;rcases h with⟨g,S,rfl⟩|h
   ·cases S;exact⟨0,_,m,Y,X,rfl⟩
   ·exact h
  ·exact fun h=>⟨_,rfl,.inr h⟩
 have hI:Inv K.ntmps M LL w blk (fun x v=>x<K.ntmps∧v<1) (tu ty t s o cs a).t E { tmps:=(#[Value.pointer (some ⟨m.1,m.2+o,none⟩)]++vs)++Array.replicate (K.ntmps-(#[Value.pointer (some ⟨m.1,m.2+o,none⟩)]++vs).size) undef,defers:=[] } w:={
  tab:=fun b e=>(A.tab b e).less fun b e=>(H b).1 e
  below:=eH.refl _ _
  mlt:=hM
  lent:=fun b e=>hdis b ((O b).1 e)
  pin:=fun p hp=>by
   subst Z;cases hp;exact⟨⟨by omega,akU⟩,fun r' _ _=>⟨X,fun g _=>rfl⟩⟩
  defers:=rfl
  tsz:=by have:=A.1;simp;omega
  slots:=fun i=>by
   simp only[tu];rcases yt (args := .ptr 0 0 o::a) (vs:=#[.pointer (some ⟨m.1,m.2+o,none⟩)]++vs) (n:=K.ntmps) (i:=i) (by simp[A.1];omega) with he|he
   ·rw[he];cases i with
    | zero =>
     have e1:(#[Value.pointer (some ⟨m.1,m.2+o,none⟩)]++vs).getD 0 undef=.pointer (some ⟨m.1,m.2+o,none⟩):=by simp[Array.getElem?_append]
     rw[e1];simp only[aki];exact⟨⟨by omega,akU⟩,fun r' _ _=>⟨m,X,rfl⟩⟩
    | succ i =>
     have e1:(#[Value.pointer (some ⟨m.1,m.2+o,none⟩)]++vs).getD (i+1) undef=vs.getD i undef:=by
      simp only[ajs];rw[Array.getElem?_append_right (by simp)];simp
     rw[e1];simp only[akj]
     by_cases hi:i<a.length
     ·have C:=A.2 i _ (ajA hi);have e1:a.getD i .und=a[i]:=by simp[List.getD,hi]
      rw[e1];exact bT (C.less fun b e=>(H b).1 e)
     ·have e1:a.getD i .und=.und:=by simp[List.getD,alJ (alF hi)]
      rw[e1];trivial
   ·rw[he];trivial
  rows:=fun k r G=>by
   refine⟨fun hn =>?_,?_⟩
   ·rw[L]at G;rcases kl G with⟨rfl,rfl⟩|⟨o',_,_,rfl,_,rfl⟩
    ·exact⟨hn,akU⟩
    ·have:=gK 0 o';omega
   ·have:=hR.rows k r G;cases S:blk k with
    | none=>rw[S]at this;exact this
    | some g =>
     rw[S]at this;exact⟨.inr ((O g.1).2 ⟨k,r,g,G,S,rfl⟩),this.keep rfl rfl rfl rfl fun b U q2=>⟨U,fun e=>q2 ((H b).1 e),rfl⟩⟩
  inj:=hR.inj
  big:=ae
  pha:=hR.pha
  ali:=fun y r g hy hz=>by rw[ag y r hy]at hz;cases hz }
 have ah:Is (tu ty t s o cs a).e [] (tu ty t s o cs a).h:=by
  intro k r' aA s' ao aq V aB ai;simp only[tu,oB]at V;split at V
  ·simp only[ajw]at V;subst V;simp only[jt,ajJ,D.nr.injEq,and_true]at ai;obtain⟨_,_,rfl,_⟩:=ai;exact fun _=>⟨by simp[tu],fun _=>by simp[tu]⟩
  ·cases V
 have ar:EH (tu ty t s o cs a).h=E:=L.symm;apply calls_of_wp hf hc;refine kb hT hΓ hm c (tu ty t s o cs a) x st _ _ _ hv W ⟨_,⟨(by rw[ar];exact hI.weaken fun x v V=>Or.inl ⟨V.1,Or.inl V.2⟩),ah⟩⟩ (fun a' w' hH =>?_);obtain⟨u,au⟩:=hH;have hI':=au.inv;unfold XE Pm at z;split at z<;>try (cases z;done)
 rename_i ds fr r1 aj Q;split at z<;>try (cases z;done)
 rename_i aa;obtain⟨c1,c2,c3,c4,c5⟩:=aa;unfold aaB at z;split at z<;>try (cases z;done)
 rename_i t' s' ao aq j;split at z<;>try (cases z;done)
 rename_i av;obtain⟨rfl,rfl⟩:=av;simp only[ajw,Prod.mk.injEq]at z;obtain⟨rfl,rfl⟩:=z;have aw:=gT Q c4 j pG;obtain⟨p1,p2⟩:=(hI'.pin (some m,yJ blk E) Z).2 _ aw c1;have R:=LX (blk:=u) Q c4 j pG;rw[c3]at R;have hQ:∀b,(M b∨yJ (tC u 0) C b)->Own M (EH st.h) u b:=by
  rintro b (e|e)
  ·exact .inl e
  ·rw[N]at e;obtain⟨k,r',g',q0,U,q2,q3⟩:=(R b).1 e;refine .inr ⟨k,r',g',U,?_,q2,q3⟩;rcases fB Q c4 j pG q0 U with⟨_,rfl⟩|⟨_,_,_,_,_,rfl⟩<;>exact c2
 have ab:rK M (EH st.h) u fr (fun b=>M b∨yJ (tC u 0) C b):=by
  refine⟨hQ,fun k G r' g al S e =>?_⟩;rcases e with e|e
  ·exact hI'.notM al S e
  ·rw[N]at e;obtain⟨l,r2,g',q0,U,q2,q3⟩:=(R _).1 e;have:=hI'.inj k l r' r2 g g' al U S q2 q3.symm;subst this;have:=ajy.1 c5 _ G;simp[q0]at this
 obtain⟨v,ax,ay⟩:=uc (P:=P) (s:=⟨st.t,EH st.h,st.e⟩) hT hI' aj ab;have I:=hI'.afy Q c4 j c2 pG hQ;rw[c3,<- N]at I;have J:a'.defers=[]∧∃v,(results K a'.tmps).run P w'=.ok v w'∧(∃v' B,Ending.returned v=.returned v'∧eH (yJ blk E) w w'∧B 0=some m∧w'.shape? m.1=w.shape? m.1∧(∀b,yJ B C b->w.heap.size<=b∨yJ blk E b)∧Jb w' (fun b=>M b∨yJ B C b) B C∧RP w' (fun b=>M b∨yJ B C b) (nR ds) v'):=by
  refine⟨hI'.defers,v,ax,v,tC u 0,rfl,⟨hI'.below.os,hI'.below.tape,hI'.below.output,hI'.below.size,fun k G hn=>hI'.below.block k G fun e=>hn ((O k).1 e)⟩,by rw[tC,uJ];exact p1,p2 m rfl,fun b e =>?_,I,ay⟩;rw[N]at e;obtain⟨k,r',g',q0,U,q2,q3⟩:=(R b).1 e;rcases hI'.base U q2 with q|q
  ·exact .inl (by omega)
  ·exact .inr (by rw[<- q3];exact (O _).1 q)
 cases x with
 | normal=>exact J
 | ret=>exact J
 | exit n=>exact (an n rfl).elim
def aiM (I:jH P T) (J:bV P Γ) (K:P.follows .mixedOrders=true) {f:FuncId} {e:Func} {F:Nat} {a:List D} {c:Code} {x:Ex} {p:St} (L:P.funcs[f]? = some e) (N:e.body=some c) (z:codeOk c=true) (W:a.length<=e.ntmps) (t:e.ntmps<=PK)
  (O:ib T Γ e.ntmps F c (cB none a)=some (x,p)) (A:∀n,x ≠ .exit n) {w:World} {M:Nat->Prop} {vs:Array Value} (Q:∀b,M b->b<w.heap.size) (d:AV w M a vs) {Φ:Ending->World->Prop}
  (B:∀q o h,Inv e.ntmps M none w h (VE e.ntmps p.e [] p.h) p.t (EH p.h) q o->∃v,(results e q.tmps).run P o=.ok v o∧Φ (.returned v) o):Calls P f vs w Φ:=by
 have R:Inv e.ntmps M none w (fun _=>none) (fun x v=>x<e.ntmps∧v<0) (cB none a).t (cB none a).h { tmps:=vs++Array.replicate (e.ntmps-vs.size) undef,defers:=[] } w:={
  tab:=fun b j=>(d.tab b j).less fun b j=>by
   rcases j with j|⟨x,r,g,l,_⟩
   ·exact j
   ·cases l
  below:=eH.refl _ _
  mlt:=Q
  lent:=fun b j=>absurd j tI
  pin:=fun X S=>by cases S
  defers:=rfl
  tsz:=by have:=d.1;simp;omega
  slots:=fun i=>by
   simp only[cB];rcases yt (n:=e.ntmps) (i:=i) d.1 with he|he
   ·rw[he]
    by_cases C:i<a.length
    ·have E:=d.2 i _ (ajA C);have G:a.getD i .und=a[i]:=by simp[List.getD,C]
     rw[G];exact bT (E.less fun b j=>by
      rcases j with j|⟨x,r,g,l,_⟩
      ·exact j
      ·cases l)
    ·have G:a.getD i .und=.und:=by simp[List.getD,alJ (alF C)]
     rw[G];trivial
   ·rw[he];trivial
  rows:=fun x r l=>by cases l
  inj:=fun x y r s g Y l=>by cases l
  big:=t
  pha:=fun y r g H=>by cases H
  ali:=fun y r g H=>by cases H }
 apply calls_of_wp L N;refine kb I J K c (cB none a) x p _ _ _ O z ⟨_,⟨(by rw[E5 (fun k r B=>by cases B)];exact R.weaken fun x v l=>absurd l.2 (Nat.not_lt_zero _)),fun x r ty s nv cs l=>by cases l⟩⟩ (fun q o U =>?_);obtain⟨h,u⟩:=U;obtain⟨v,E,V⟩:=B q o h u.inv;have m:q.defers=[]∧∃v,(results e q.tmps).run P o=.ok v o∧Φ (.returned v) o:=⟨u.inv.defers,v,E,V⟩;cases x with
 | normal=>exact m
 | ret=>exact m
 | exit n=>exact (A n rfl).elim
def Sj {F:Nat} {f:Func} {e:List D} {ty t s S n:Nat} {cs:List D} (a:AQ T Γ F f e=some (ty,t,s,S,n,cs)) :
  ∃c x g i k v r nv,f.body=some c∧f.ntmps<=PK∧ib T Γ f.ntmps F c (cB none e)=some (x,g)∧(∀m,x ≠ .exit m)∧f.results.toList=[.tmp i]∧g.t i=.buf k v S 0 n∧g.h k=some r∧r.v=v∧r.fz=false∧r.mp=true∧k<PK∧r.ty=ty∧r.cells=[.nr t s nv cs]:=by
 unfold AQ at a;split at a<;>try (cases a;done)
 rename_i c l;split at a<;>try (cases a;done)
 rename_i h;split at a<;>try (cases a;done)
 rename_i x g hne o;unfold aay at a;split at a<;>try (cases a;done)
 rename_i i j;unfold Vn at a;split at a<;>try (cases a;done)
 rename_i k v H I p;unfold Pj at a;split at a<;>try (cases a;done)
 rename_i r q;split at a<;>try (cases a;done)
 rename_i b;unfold aaz at a;split at a<;>try (cases a;done)
 rename_i J K nv u d;split at a<;>try (cases a;done)
 rename_i w;simp only[ajw,Prod.mk.injEq]at a;obtain⟨y,z,A,B,C,E⟩:=a;subst z A B C E;exact⟨c,x,g,i,k,v,r,nv,l,h,o,fun m G=>hne m G,j,p,q,b.1,b.2.1,b.2.2,w,y,d⟩
def ND (X:jH P T) (Y:bV P Γ) (Z:P.follows .mixedOrders=true) {f:FuncId} {E:Func} {F:Nat} {e:List D} {ty t s S n:Nat} {cs:List D} (hf:P.funcs[f]? = some E)
  (m:(match E.body with|some c=>codeOk c|none=>true)=true) (hn:e.length<=E.ntmps)
  (hr:AQ T Γ F E e=some (ty,t,s,S,n,cs)):LS P f e ty t s S n cs:=by
 obtain⟨c,x,st,i,k,v,r,nv,Q,y,hv,K,L,ht,G,c1,R,H,I,z,a⟩:=Sj hr;rw[Q]at m;simp only at m;intro w M h vs A hM o;refine aiM X Y Z hf Q m hn y hv K hM o fun a' w' d j =>?_;have p:=LX (blk:=d) G H a I;rw[z,<- A]at p;have B:Below w.heap.size w w':=j.below.below (fun b u=>absurd u tI);have hQ:∀b,(M b∨yJ (tC d k) h b)->Own M (EH st.h) d b:=by
  rintro b (u|u)
  ·exact .inl u
  ·obtain⟨l,N,U,V,J,O,W⟩:=(p b).1 u;refine .inr ⟨l,N,U,J,?_,O,W⟩;rcases fB G H a I V J with⟨_,rfl⟩|⟨_,_,_,_,_,rfl⟩<;>exact R
 have g:=j.afy G H a R I hQ;rw[z,<- A]at g;have C:=j.slots i;rw[ht]at C;refine⟨_,qS L,_,tC d k,rfl,B,fun b u =>?_,g,trivial,fun N _ _ =>?_⟩
 ·obtain⟨l,N,U,V,J,O,W⟩:=(p b).1 u;rcases j.base J O with q|q
  ·omega
  ·exact absurd q tI
 ·rw[tC,uJ];exact C.2 _ (gT G H a I) c1
end
def aa1:dY->D
 | (n,none) =>.int .i64 n
 | (a,some b) =>.agg [.int .i64 a,.int .i64 b]
def P8 {w:World} {M:Nat->Prop} (k:dY):RP w M (aa1 k) (nM k):=by
 obtain⟨a,x⟩:=k;cases x with
 | none=>exact .int _ _
 | some b =>
  refine .agg [.int .i64 a,.int .i64 b] [.int .i64 a,.int .i64 b] rfl (fun j x c =>?_) (fun x d =>?_)
  ·match j,c with
   | 0,c=>simp only[List.getElem?_cons_zero,ajw]at c;subst c;exact .int _ _
   | 1,c=>simp only[List.getElem?_cons_succ,List.getElem?_cons_zero,ajw]at c;subst c;exact .int _ _
   | j+2,c=>simp at c
  ·simp only[aju,akN,or_false]at d;rcases d with rfl|rfl<;>rfl
section
variable {P:Program} {T:Nat->Option Ty} {N:Nat} {M:Nat->Prop} {L:kQ} {w0:World} {blk:Nat->Option (Nat×Nat)} {V:Nat->Nat->Prop} {t:Nat->D} {h:Nat->Option Row} {a:Act} {w:World} {e:Nat} {o:Oper} {Γ:Env} {done:List Nat}
def xe {x v ty:Nat} {a:List dY} {vs:List D} {fz lst:Bool} (b:h x=some ⟨v,ty,[.mpc a vs],fz,lst,true⟩) (c:x<PK):EH h x=some ⟨v,ty,[.mpc a vs],fz,lst,true⟩∧∀o,EH h (NK x o)=none:=by
 constructor
 ·rw[uQ (by have:=du;omega),b];rfl
 ·intro o;rw[uP c,b];rfl
def yL (m:vx N M L w0 blk e done t h a w) (p:∀d:Nat,o.dst=some d->d∉done∧d<N) {E:cr} {v:Value} {l:World} (b:jj e h (aS h E.hw)) (q:kN N M L w0 (VE N e done h) t h a e o.dst E v l):E4 N M L w0 t h a e (o.dst.toList++done) E v l:=by
 have c:∀x,x∈done->x∈o.dst.toList++done:=fun x k=>ajC _ k;obtain⟨f,g,i⟩:=q;have j:∀x n,VE N e done h x n∨(o.dst=some x∧n=e)->VE N e (o.dst.toList++done) (aS h E.hw) x n:=by
  rintro x n (r|⟨k,rfl⟩)
  ·exact r.step b c
  ·exact .inl ⟨(p x k).2,.inr ⟨rfl,ajB _ (by rw[k];simp)⟩⟩
 exact⟨f,⟨g.weaken j,m.nv.step b c⟩,i.mono ⟨fun _ g i=>⟨g,i,rfl⟩,j,fun _ _ _ s g i=>⟨⟨s,g,i⟩,rfl,fun _ _=>rfl⟩⟩⟩
def Cd {ops:Array Oper} {l:List Oper} {Q:Exit->Act->World->Prop} (i:o.guard=none) {K:(Nat->D)->(Nat->Option Row)->Prop} (r:vx N M L w0 blk e done t h a w) (j:fits N o.dst=true)
  (k:e9 P o a w fun v c=>∃E:cr,K (fP t o.dst E.val) (aS h E.hw)∧E4 N M L w0 t h a e (o.dst.toList++done) E v c)
  (m:∀f h' g c b,K f h'->vx N M L w0 b e (o.dst.toList++done) f h' g c->wpList P ops Q l g c):wpList P ops Q (o::l) a w:=by
 unfold wpList;have:Region.wanted o (yielded ops a.tmps)=true:=by simp[Region.wanted,i]
 rw[this];simp only[if_true];refine .inl (k.wp fun v c n =>?_);obtain⟨E,p,b,d,q⟩:=n;exact m _ _ _ _ b p ⟨d.inv.afM j q,d.nv⟩
def SX (hT:jH P T) (hI:Inv N M L w0 blk V t (EH h) a w) {ty d x v v' f k el:Nat} {m:Operand} {l:List dY} {vs:List D} {lst:Bool} (ho:o.op=.range ty m) (hd:o.dst=some d) (hV:kn N V d e) (hu:P.underlying ty=some (.map k el)) (hm:ev t m=.mp x v)
  (K:h x=some ⟨v,f,[.mpc l vs],false,lst,true⟩) (ad:f<900000) (J:x<PK) (Q:d≠x) :
  e9 P o a w (kN N M L w0 V t h a e o.dst ⟨.ptr d e 0,[(x,some ⟨v,f,[.mpc l vs],true,true,true⟩),(d,some ⟨e,900000,[.mpc l vs],false,true,true⟩)]⟩):=by
 have av:=du;have au:=hI.big;have aw:d<N:=hV.lt;have F:d<PK:=by omega
 obtain⟨ae,ax⟩:=xe K J;have R:=hI.ev m;rw[hm]at R;have ag:mC (EH h) x v=some (l,vs):=by unfold mC;rw[ae];simp[ad]
 obtain⟨g,r,h1,h2,h3,h4,h5,ah,S,B,c,p,aA,ai,us,hk,hv⟩:=hI.Qt ag R;have U:=run_range_map (P:=P) w ty k el g.1 B c hu p;have aj:=hI.le (Bi (h:=h) d F);have al:b8 h d none x=some ⟨v,f,[.mpc l vs],false,lst,true⟩:=by rw[az _ _ (Ne.symm Q)];exact K
 obtain⟨W,X⟩:=xe al J;have hA:=aj.freeze [x];have C:∀z,aS (EH (b8 h d none)) (kr (EH (b8 h d none)) [x]) z=if z=x then some ⟨v,f,[.mpc l vs],true,true,true⟩ else EH (b8 h d none) z:=by
  intro z;rw[Cj]
  by_cases hz:z=x
  ·subst hz;rw[if_pos (by simp),if_pos rfl,W];rfl
  ·rw[if_neg (by simpa using hz),if_neg hz]
 generalize aB:aS (EH (b8 h d none)) (kr (EH (b8 h d none)) [x])=G at hA C;have Y:=heap_alloc_new w (.mapIter (some g.1) c #[] c);have hold:∀b,b<w.heap.size->(w.alloc (.mapIter (some g.1) c #[] c)).heap[b]? = w.heap[b]?:=fun b s=>Below.heap_alloc w _ b s;have u:=(Below.refl w.heap.size w).alloc (ajo _) (.mapIter (some g.1) c #[] c);have Z:g.1<w.heap.size:=(akm.1 p).1;have H:G x=some ⟨v,f,[.mpc l vs],true,true,true⟩:=by rw[C,if_pos rfl]
 have an:¬Own M G blk g.1:=by
  rintro (s|⟨y,r',g',E,A,I,he⟩)
  ·exact hA.notM H h5 s
  ·have:y=x:=hA.inj y x r' _ g' g E H I h5 he;subst this;rw[H]at E;cases E;cases A
 have hB:=hA.Fg (w':=w.alloc (.mapIter (some g.1) c #[] c)) (h1:=G) (old:=none) (d:=d) (e:=e) (r0:=⟨e,900000,[.mpc l vs],false,true,true⟩) (go:=some (w.heap.size,0)) u.os u.tape u.output u.size (fun k hk _=>hold k hk) (fun y E=>by cases E) rfl hV
  ⟨.inl (ajo _),.inl ⟨l,vs,rfl,S,fun q=>absurd q (alq _),fun _=>⟨rfl,g.1,B,c,#[],[],List.range l.length,us,Y,by have:=u.size;omega,by
   rintro (s|s)
   ·exact an s
   ·have:g.1=w.heap.size:=s;omega,(hold _ Z).trans p,ai,(akq 900000).symm,ajp _,by simp,List.nodup_range,fun i=>by
   rw[akR];constructor
   ·intro hi;exact⟨B[i]'(by omega),akr (by omega),by simp⟩
   ·rintro⟨e1,ao,_⟩;have:=(akm.1 ao).1;omega,fun i hi=>by simp at hi,fun j k' O=>by
   obtain⟨e1,p1,p2,p3⟩:=hk j k' O;have aq:=(ajO.1 O).1;exact⟨j,e1,by simp[aq],p1,p2,p3⟩,fun j y O=>(hv j y O).keep fun b q1 q2=>⟨by have:=u.size;omega,by
    rintro (s|s)
    ·apply q2;rcases s with s|⟨y,r',g',E,A,I,he⟩
     ·exact .inl s
     ·by_cases aa:y=x
      ·subst aa;rw[H]at E;cases E;cases A
      ·rw[C,if_neg aa]at E;obtain⟨r2,q3,q4⟩:=Bi (h:=h) d F y r' E;refine .inr ⟨y,r2,g',q3,?_,I,he⟩;rcases q4 with rfl|⟨_,cs,rfl,_⟩|⟨_,kk,rfl⟩
       ·exact A
       ·exact A
       ·exact A
    ·have:b=w.heap.size:=s;omega,hold b q1⟩⟩⟩⟩ rfl rfl (fun _ g' I j x' s' n' O=>by cases j<;>simp at O)
 have ab:b8 G d (some (⟨e,900000,[.mpc l vs],false,true,true⟩:Row))=EH (aS h [(x,some ⟨v,f,[.mpc l vs],true,true,true⟩),(d,some ⟨e,900000,[.mpc l vs],false,true,true⟩)]):=by
  have ar:aS h [(x,some ⟨v,f,[.mpc l vs],true,true,true⟩),(d,some ⟨e,900000,[.mpc l vs],false,true,true⟩)]=b8 (b8 h x (some ⟨v,f,[.mpc l vs],true,true,true⟩)) d (some ⟨e,900000,[.mpc l vs],false,true,true⟩):=rfl;rw[ar];have k1:b8 (b8 h x (some (⟨v,f,[.mpc l vs],true,true,true⟩:Row))) d (some ⟨e,900000,[.mpc l vs],false,true,true⟩) d=some ⟨e,900000,[.mpc l vs],false,true,true⟩:=ay _ _ _;have k2:b8 (b8 h x (some (⟨v,f,[.mpc l vs],true,true,true⟩:Row))) d (some ⟨e,900000,[.mpc l vs],false,true,true⟩) x=some ⟨v,f,[.mpc l vs],true,true,true⟩:=by rw[az _ _ (Ne.symm Q),ay]
  obtain⟨m1,m2⟩:=xe k1 F;obtain⟨m3,m4⟩:=xe k2 J;have k3:b8 h d none d=none:=ay _ _ _;funext z
  by_cases hzd:rt z=d
  ·rcases rp hzd with rfl|⟨o',rfl⟩
   ·rw[ay,m1]
   ·rw[az _ _ (by have:=gK d o';omega),m2,C,if_neg (by have:=gK d o';omega),uP F,k3];rfl
  ·rw[az _ _ (fun e=>hzd (by rw[e,jv (by omega)])),C]
   by_cases hzx:rt z=x
   ·rcases rp hzx with rfl|⟨o',rfl⟩
    ·rw[if_pos rfl,m3]
    ·rw[if_neg (by have:=gK x o';omega),m4,X]
   ·rw[if_neg (fun e=>hzx (by rw[e,jv (by omega)]))];exact fa (by rw[az _ _ hzd,az _ _ hzd,az _ _ hzx])
 rw[ab]at hB;refine aN (v := .pointer (some ⟨w.heap.size,0,none⟩)) (w':=w.alloc (.mapIter (some g.1) c #[] c)) ?_ ⟨b8 blk d (some (w.heap.size,0)),hB.weaken fun x n K =>?_,?_⟩
 ·simp[execOp,ho,ah,U]
 ·rcases K with K|⟨rfl,rfl⟩
  ·exact .inl K
  ·exact .inr ⟨hd,rfl⟩
 ·exact⟨.inr ⟨hd,rfl⟩,fun r hr hv=>⟨(w.heap.size,0),ay _ _ _,rfl⟩⟩
def Inv.iter (k:Inv N M L w0 blk V t (EH h) a w) {y v ty:Nat} {p:Operand} {f:List dY} {vs:List D} {lst:Bool} (m:Am.ev t p=.ptr y v 0) (n:h y=some ⟨v,ty,[.mpc f vs],false,lst,true⟩) (i:900000<=ty) (j:y<PK) :
  ∃(g:Nat×Nat),blk y=some g∧a.eval p=.pointer (some ⟨g.1,g.2+0,none⟩)∧vs.length=f.length∧NS w (Own M (EH h) blk) g ty f vs:=by
 obtain⟨c,_⟩:=xe n j;have d:=k.ev p;rw[m]at d;obtain⟨g,l,o⟩:=d.2 _ c rfl;have b:=k.rowIs c l;unfold eU at b;simp only at b;rcases b with⟨q,r,e,s,_,u⟩|⟨e,_⟩
 ·simp only[ajJ,D.mpc.injEq,and_true]at e;obtain⟨rfl,rfl⟩:=e;exact⟨g,l,o,s,u i⟩
 ·have:=e _ (ajI.2 rfl);cases this
def UA {y v ty b:Nat} {i c:List dY} {vs d:List D} {fz lst fz' a:Bool} (j:h y=some ⟨v,ty,[.mpc i vs],fz,lst,true⟩) (f:y<PK):EH (b8 h y (some ⟨v,b,[.mpc c d],fz',a,true⟩))=b8 (EH h) y (some ⟨v,b,[.mpc c d],fz',a,true⟩):=by
 obtain⟨_,k⟩:=xe j f;have g:b8 h y (some (⟨v,b,[.mpc c d],fz',a,true⟩:Row)) y=some ⟨v,b,[.mpc c d],fz',a,true⟩:=ay _ _ _;obtain⟨l,m⟩:=xe g f;funext z
 by_cases hz:rt z=y
 ·rcases rp hz with rfl|⟨n,rfl⟩
  ·rw[ay,l]
  ·rw[az _ _ (by have:=gK y n;have:=du;omega),m,k]
 ·rw[az _ _ (fun e=>hz (by rw[e,jv (by have:=du;omega)]))];exact fa (by rw[az _ _ hz])
def Xx (hI:Inv N M L w0 blk V t (EH h) a w) {y v ty:Nat} {p:Operand} {I:List dY} {vs:List D} {lst:Bool} (ho:o.op=.next p false) (hp:ev t p=.ptr y v 0) (hy:h y=some ⟨v,ty,[.mpc I vs],false,lst,true⟩) (aA:900000<=ty) (R:y<PK) :
  e9 P o a w fun v' w'=>(I.drop (ty-900000)=[]∧kN N M L w0 V t h a e o.dst ⟨.tup [.bool false],[]⟩ v' w') ∨
   ∃(j:Nat) (k:dY) (x:D),(I.drop (ty-900000))[j]? = some k∧(vs.drop (ty-900000))[j]? = some x∧kN N M L w0 V t h a e o.dst ⟨.tup [.bool true,aa1 k,x],[(y,some ⟨v,900001,[.mpc (k::(I.drop (ty-900000)).eraseIdx j) (x::(vs.drop (ty-900000)).eraseIdx j)],false,lst,true⟩)]⟩ v' w':=by
 obtain⟨g,hg,ae,aq,ar,b,s,f,seen,c,l,us,h1,h2,h3,h4,ag,k1,k2,k3,k4,k5,k6,k7,k8⟩:=hI.iter hp hy aA R;rw[ar,ajU]at ae;obtain⟨ah,_⟩:=xe hy R;rw[<- k1];have S:(I.drop c.length).length=l.length:=by rw[ajF,<- k3,akn];omega
 have aB:(vs.drop c.length).length=l.length:=by rw[ajF,aq,<- k3,akn];omega
 rcases run_next_at (P:=P) w o.type g.1 b f f seen s f h1 h4 ag.1 (ajo _) with⟨aC,F⟩|⟨B,aD,w1,aE,F⟩
 ·refine aN (v := .tuple #[.bool false]) (w':=w) (by simp[execOp,ho,ae,F]) (.inl ⟨?_,?_⟩)
  ·have aF:l=[]:=by
    refine List.eq_nil_iff_forall_not_mem.2 fun i T =>?_;obtain⟨e1,G,q2⟩:=(k5 i).1 T;have:e1∈(leftOf s seen).toList:=by
     unfold leftOf;simp only[Array.toList_filter,akP];exact⟨by simpa using Array.mem_of_getElem? G,by rw[q2];rfl⟩
    have h0:(leftOf s seen).toList.length=0:=by simpa using aC
    rw[aku h0]at this;cases this
   rw[aF]at S;exact aku S
  ·refine bl.eG (h:=EH h) hI (bT (.tup _ [_] rfl fun j x O =>?_))
   match j,O with
   | 0,O=>simp only[List.getElem?_cons_zero,ajw]at O;subst O;exact .bool _
   | j+1,O=>simp at O
 ·obtain⟨m1,m2⟩:=mem_left aD;obtain⟨i,T⟩:=ajH m1;rw[akp]at T;have aG:i∈l:=(k5 i).2 ⟨B,T,m2⟩;obtain⟨j,O⟩:∃j,j=l.idxOf i:=⟨_,rfl⟩;have aH:j<l.length:=by rw[O];exact List.idxOf_lt_length_of_mem aG
  have aI:l[j]? = some i:=by rw[ajA aH];simp[O]
  have au:l.erase i=l.eraseIdx j:=List.erase_eq_eraseIdx_of_idxOf O.symm;have U:(I.drop c.length)[j]? = some ((I.drop c.length)[j]'(by omega)):=ajA _;have W:(vs.drop c.length)[j]? = some ((vs.drop c.length)[j]'(by omega)):=ajA _;generalize (I.drop c.length)[j]'(by omega)=k at U;generalize (vs.drop c.length)[j]'(by omega)=x at W;have av:∀n:Nat,(c++l)[c.length+n]? = l[n]?:=fun n=>by rw[akd (by omega)];congr 1;omega
  have H:B.key=nM k∧B.val=us (c.length+j):=by
   rw[ajK]at U;obtain⟨i',J,G,q2,X,q4⟩:=k7 _ _ U;rw[av,aI]at G;cases G;rw[T]at q2;cases q2;exact⟨X,q4⟩
  have Z:RP w (Own M (EH h) blk) x (us (c.length+j)):=by
   rw[ajK]at W;exact k8 _ _ W
  have aw:w1.heap=w.heap∧w1.os=w.os∧w1.tape=w.tape∧w1.output=w.output:=by rcases aE with rfl|rfl<;>exact⟨rfl,rfl,rfl,rfl⟩
  obtain⟨p1,p2,p3,p4⟩:=aw;generalize Y:ChangeMaps.setBlock w1 g.1 (.mapIter (some b) f (seen.push B.born) f)=w' at F;have ax:g.1<w.heap.size:=(akm.1 h1).1;have ai:w'.heap=w.heap.setIfInBounds g.1 (.mapIter (some b) f (seen.push B.born) f):=by rw[<- Y,<- p1];rfl
  have aj:w'.heap.size=w.heap.size:=by rw[ai];simp
  have aa:w'.heap[g.1]? = some (.mapIter (some b) f (seen.push B.born) f):=by rw[ai,alc,if_pos rfl,if_pos ax]
  have hheap:∀Q,Q≠g.1->w'.heap[Q]? = w.heap[Q]?:=fun Q hb=>by rw[ai,alc,if_neg (Ne.symm hb)]
  have ab:Own M (EH h) blk g.1 := .inr ⟨y,_,g,ah,rfl,hg,rfl⟩;have aJ:b≠g.1:=fun e=>h3 (e ▸ ab);have al:∀ {d:D} {u:Value},RP w (Own M (EH h) blk) d u->RP w' (Own M (EH h) blk) d u:=fun hr=>hr.keep fun b G q2=>⟨by rw[aj];exact G,q2,hheap b (fun e=>q2 (e ▸ ab))⟩;have ad:∀ {n:Nat} {J:MapEntry},s[n]? = some J->(J.born==B.born)=decide (n=i):=by
   intro n J A
   by_cases an:n=i
   ·subst an;rw[T]at A;cases A;simp
   ·have:J.born≠B.born:=by
     intro he;have aK:=ag.2.1;have a1:(s.toList.map (·.born))[n]? = some J.born:=by simp[A]
     have a2:(s.toList.map (·.born))[i]? = some B.born:=by simp[T]
     have aL:=(ajO.1 a1).1;have aM:=(ajO.1 a2).1;exact an ((List.getElem_inj (h₀:=aL) (h₁:=aM) aK).1 (by
      have b1:=(ajO.1 a1).2;have b2:=(ajO.1 a2).2;rw[b1,b2,he]))
    simp[an,this]
  have hB:=hI.lJ (x:=y) (r:=⟨v,ty,[.mpc I vs],false,lst,true⟩) (r0:=⟨v,900001,[.mpc (k::(I.drop c.length).eraseIdx j) (x::(vs.drop c.length).eraseIdx j)],false,lst,true⟩) (w':=w') ah rfl rfl
   (by rw[<- Y];exact p2) (by rw[<- Y];exact p3) (by rw[<- Y];exact p4) (by rw[aj];exact ajo _) (fun Q _ hb=>hheap Q (hb g hg)) (by
   rw[hg];refine⟨by simp[World.shape?,aa,h1],.inl ⟨_,_,rfl,?_,fun q=>absurd q (by show ¬(900001<900000);omega),fun _=>⟨ar,b,s,f,seen.push B.born,[i],l.eraseIdx j,fun m=>if m=0 then B.val else us (c.length+(if m-1<j then m-1 else m)),aa,by rw[aj];exact h2,h3,(hheap b aJ).trans h4,ag,(akA (n:=900000) (m:=1)).symm,ajo _,?_,?_,fun n =>?_,fun n A =>?_,fun m k' E =>?_,fun m x' E =>?_⟩⟩⟩
   ·simp only[List.length_cons,List.length_eraseIdx];rw[S,aB]
   ·simp only[akn,List.length_cons,List.length_nil,List.length_eraseIdx];rw[S];split<;>omega
   ·rw[<- au];exact k4.erase _
   ·rw[<- au,k4.mem_erase_iff,k5];constructor
    ·rintro⟨G,J,q2,X⟩;exact⟨J,q2,by rw[contains_push,X,ad q2];simpa using G⟩
    ·rintro⟨J,q2,X⟩;rw[contains_push,ad q2,Bool.or_eq_false_iff,decide_eq_false_iff_not]at X;exact⟨X.2,J,q2,X.1⟩
   ·simp only[ajI]at A;subst A;exact⟨B,T,by simp⟩
   ·cases m with
    | zero =>
     simp only[List.getElem?_cons_zero,ajw]at E;subst E;exact⟨i,B,rfl,T,H.1,by simp⟩
    | succ m =>
     rw[akk,List.getElem?_eraseIdx]at E;have K:(I.drop c.length)[if m<j then m else m+1]? = some k':=by
      by_cases C:m<j
      ·rw[if_pos C]at E ⊢;exact E
      ·rw[if_neg C]at E ⊢;exact E
     rw[ajK]at K;obtain⟨i',J,G,q2,X,q4⟩:=k7 _ _ K;rw[av]at G;refine⟨i',J,?_,q2,X,?_⟩
     ·rw[List.singleton_append,akk,List.getElem?_eraseIdx]
      by_cases C:m<j
      ·rw[if_pos C]at G ⊢;exact G
      ·rw[if_neg C]at G ⊢;exact G
     ·simp only[Nat.add_eq_zero_iff,alf,and_false,if_false,ak0];exact q4
   ·cases m with
    | zero =>
     simp only[List.getElem?_cons_zero,ajw]at E;subst E;simp only[if_true];rw[H.2];exact al Z
    | succ m =>
     rw[akk,List.getElem?_eraseIdx]at E;have K:(vs.drop c.length)[if m<j then m else m+1]? = some x':=by
      by_cases C:m<j
      ·rw[if_pos C]at E ⊢;exact E
      ·rw[if_neg C]at E ⊢;exact E
     rw[ajK]at K;simp only[Nat.add_eq_zero_iff,alf,and_false,if_false,ak0];exact al (k8 _ _ K)) (fun hh=>by cases hh) (fun _ g' ao j' x' s' n' aO=>by cases j'<;>simp at aO)
  refine aN (v := .tuple #[.bool true,B.key,B.val]) (w':=w') (by simp[execOp,ho,ae,F]) (.inr ⟨j,k,x,U,W,blk,?_,?_⟩)
  ·show Inv _ _ _ _ _ _ _ (EH (b8 h y (some _))) _ _;rw[UA hy R];exact hB.weaken fun _ _ h =>.inl h
  ·have aP:∀Q,Own M (EH (b8 h y (some ⟨v,900001,[.mpc (k::(I.drop c.length).eraseIdx j) (x::(vs.drop c.length).eraseIdx j)],false,lst,true⟩))) blk Q->Own M (EH h) blk Q:=by
    rw[UA hy R];rintro Q (hb|⟨z,r',g',hz,aQ,ao,he⟩)
    ·exact .inl hb
    ·by_cases ay:z=y
     ·subst ay;exact .inr ⟨z,_,g',ah,rfl,ao,he⟩
     ·rw[az _ _ ay]at hz;exact .inr ⟨z,r',g',hz,aQ,ao,he⟩
   refine bT (.tup _ [.bool true,B.key,B.val] rfl fun n d A =>?_)
   match n,A with
   | 0,A=>simp only[List.getElem?_cons_zero,ajw]at A;subst A;exact .bool _
   | 1,A =>
    simp only[List.getElem?_cons_succ,List.getElem?_cons_zero,ajw]at A;subst A;simp only[akj,aki];rw[H.1];exact P8 k
   | 2,A =>
    simp only[List.getElem?_cons_succ,List.getElem?_cons_zero,ajw]at A;subst A;simp only[akj,aki];rw[H.2];exact (al Z).less aP
   | n+3,A=>simp at A
def SS (E:Inv N M L w0 blk V t (EH h) a w) {y v:Nat} {p:Operand} {k:dY} {x:D} {ks:List dY} {vs:List D} {lst:Bool} (K:o.op=.entry p) (O:ev t p=.ptr y v 0) (Q:h y=some ⟨v,900001,[.mpc (k::ks) (x::vs)],false,lst,true⟩) (u:y<PK) :
  e9 P o a w (kN N M L w0 V t h a e o.dst ⟨.tup [aa1 k,x],[]⟩):=by
 obtain⟨g,hg,m,F,z,b,q,f,seen,c,l,us,G,h2,h3,R,A,S,k2,k3,k4,k5,T,U,W⟩:=E.iter O Q (by omega) u;rw[z,ajU]at m;have B:c.length=1:=by rw[S]
 match c,B with
 | [i],_ =>
  obtain⟨r,H,X⟩:=T i (by simp);obtain⟨i',e',I,J,Y,Z⟩:=U 0 k rfl;simp only[List.singleton_append,List.getElem?_cons_zero,ajw]at I;subst I;rw[H]at J;cases J;obtain⟨s0,C⟩:=Array.back?_eq_some_iff.1 X;rw[C]at G;have s:=run_entry_at (P:=P) w g.1 b f s0 q f r G R (by simpa using Array.mem_of_getElem? H) A.2.1;refine aN (v := .tuple #[r.key,r.val]) (w':=w) (by simp[execOp,K,m,s]) (bl.eG (h:=EH h) E (bT (.tup _ [r.key,r.val] rfl fun n d j =>?_)))
  match n,j with
  | 0,j =>
   simp only[List.getElem?_cons_zero,ajw]at j;subst j;simp only[aki];rw[Y];exact P8 k
  | 1,j =>
   simp only[List.getElem?_cons_succ,List.getElem?_cons_zero,ajw]at j;subst j;simp only[akj,aki];rw[Z];exact W 0 x rfl
  | n+2,j=>simp at j
end
def tab (t:Nat):Option Ty :=
 match t with
 | 2=>some ⟨.int .i64,1,8,[.int .i64 0],false⟩
 | 3=>some ⟨.int .i64,1,8,[.int .i64 0],false⟩
 | 4=>some ⟨.bool,1,1,[.bool false],false⟩
 | 5=>some ⟨.int .u8,1,1,[.int .u8 0],false⟩
 | 9=>some ⟨.str,1,16,[.string ⟨#[]⟩],false⟩
 | 12=>some ⟨.int .u64,1,8,[.int .u64 0],false⟩
 | 21=>some ⟨.int .i32,1,4,[.int .i32 0],false⟩
 | 22=>some ⟨.slice 3,1,24,[.slice none 0 0],false⟩
 | 23=>some ⟨.slice 57,1,24,[.slice none 0 0],false⟩
 | 24=>some ⟨.struct [(22,0),(23,1)],2,48,[.slice none 0 0,.slice none 0 0],false⟩
 | 25=>some ⟨.struct [(22,0),(23,1)],2,48,[.slice none 0 0,.slice none 0 0],false⟩
 | 26=>some ⟨.slice 27,1,24,[.slice none 0 0],false⟩
 | 27=>some ⟨.slice 41,1,24,[.slice none 0 0],false⟩
 | 31=>some ⟨.int .i64,1,8,[.int .i64 0],false⟩
 | 38=>some ⟨.struct [(3,0),(22,1)],2,32,[.int .i64 0,.slice none 0 0],false⟩
 | 39=>some ⟨.struct [(3,0),(22,1)],2,32,[.int .i64 0,.slice none 0 0],false⟩
 | 40=>some ⟨.struct [(39,0),(39,2)],4,64,[.int .i64 0,.slice none 0 0,.int .i64 0,.slice none 0 0],false⟩
 | 41=>some ⟨.struct [(39,0),(39,2)],4,64,[.int .i64 0,.slice none 0 0,.int .i64 0,.slice none 0 0],false⟩
 | 51=>some ⟨.slice 83,1,24,[.slice none 0 0],false⟩
 | 52=>some ⟨.slice 60,1,24,[.slice none 0 0],false⟩
 | 53=>some ⟨.struct [(51,0),(52,1),(26,2)],3,72,[.slice none 0 0,.slice none 0 0,.slice none 0 0],false⟩
 | 54=>some ⟨.struct [(51,0),(52,1),(26,2)],3,72,[.slice none 0 0,.slice none 0 0,.slice none 0 0],false⟩
 | 55=>some ⟨.slice 72,1,24,[.slice none 0 0],false⟩
 | 56=>some ⟨.struct [(54,0),(55,3),(22,4)],5,120,[.slice none 0 0,.slice none 0 0,.slice none 0 0,.slice none 0 0,.slice none 0 0],false⟩
 | 57=>some ⟨.struct [(54,0),(55,3),(22,4)],5,120,[.slice none 0 0,.slice none 0 0,.slice none 0 0,.slice none 0 0,.slice none 0 0],false⟩
 | 59=>some ⟨.struct [(3,0),(3,1),(3,2),(9,3)],4,40,[.int .i64 0,.int .i64 0,.int .i64 0,.string ⟨#[]⟩],true⟩
 | 60=>some ⟨.struct [(3,0),(3,1),(3,2),(9,3)],4,40,[.int .i64 0,.int .i64 0,.int .i64 0,.string ⟨#[]⟩],true⟩
 | 63=>some ⟨.int .u16,1,2,[.int .u16 0],false⟩
 | 64=>some ⟨.slice 118,1,24,[.slice none 0 0],false⟩
 | 65=>some ⟨.struct [(3,0),(64,1)],2,32,[.int .i64 0,.slice none 0 0],false⟩
 | 66=>some ⟨.struct [(3,0),(64,1)],2,32,[.int .i64 0,.slice none 0 0],false⟩
 | 69=>some ⟨.slice 4,1,24,[.slice none 0 0],false⟩
 | 71=>some ⟨.struct [(3,0),(3,1)],2,16,[.int .i64 0,.int .i64 0],true⟩
 | 72=>some ⟨.struct [(3,0),(3,1)],2,16,[.int .i64 0,.int .i64 0],true⟩
 | 77=>some ⟨.slice 133,1,24,[.slice none 0 0],false⟩
 | 82=>some ⟨.struct [(3,0),(3,1),(3,2)],3,24,[.int .i64 0,.int .i64 0,.int .i64 0],true⟩
 | 83=>some ⟨.struct [(3,0),(3,1),(3,2)],3,24,[.int .i64 0,.int .i64 0,.int .i64 0],true⟩
 | 113=>some ⟨.map 116 41,1,8,[.map none],false⟩
 | 115=>some ⟨.struct [(3,0),(3,1)],2,16,[.int .i64 0,.int .i64 0],true⟩
 | 116=>some ⟨.struct [(3,0),(3,1)],2,16,[.int .i64 0,.int .i64 0],true⟩
 | 117=>some ⟨.struct [(3,0),(3,1),(41,2)],6,80,[.int .i64 0,.int .i64 0,.int .i64 0,.slice none 0 0,.int .i64 0,.slice none 0 0],false⟩
 | 118=>some ⟨.struct [(3,0),(3,1),(41,2)],6,80,[.int .i64 0,.int .i64 0,.int .i64 0,.slice none 0 0,.int .i64 0,.slice none 0 0],false⟩
 | 124=>some ⟨.slice 128,1,24,[.slice none 0 0],false⟩
 | 126=>some ⟨.slice 130,1,24,[.slice none 0 0],false⟩
 | 127=>some ⟨.struct [(41,0),(126,4)],5,88,[.int .i64 0,.slice none 0 0,.int .i64 0,.slice none 0 0,.slice none 0 0],false⟩
 | 128=>some ⟨.struct [(41,0),(126,4)],5,88,[.int .i64 0,.slice none 0 0,.int .i64 0,.slice none 0 0,.slice none 0 0],false⟩
 | 129=>some ⟨.struct [(3,0),(41,1)],5,72,[.int .i64 0,.int .i64 0,.slice none 0 0,.int .i64 0,.slice none 0 0],false⟩
 | 130=>some ⟨.struct [(3,0),(41,1)],5,72,[.int .i64 0,.int .i64 0,.slice none 0 0,.int .i64 0,.slice none 0 0],false⟩
 | 132=>some ⟨.struct [(3,0),(41,1)],5,72,[.int .i64 0,.int .i64 0,.slice none 0 0,.int .i64 0,.slice none 0 0],false⟩
 | 133=>some ⟨.struct [(3,0),(41,1)],5,72,[.int .i64 0,.int .i64 0,.slice none 0 0,.int .i64 0,.slice none 0 0],false⟩
 | 152=>some ⟨.int .u64,1,8,[.int .u64 0],false⟩
 | 153=>some ⟨.int .u64,1,8,[.int .u64 0],false⟩
 | 183=>some ⟨.int .i64,1,8,[.int .i64 0],false⟩
 | 190=>some ⟨.int .u32,1,4,[.int .u32 0],false⟩
 | 199=>some ⟨.slice 22,1,24,[.slice none 0 0],false⟩
 | 207=>some ⟨.int .u64,1,8,[.int .u64 0],false⟩
 | _=>none
def WT:tab 3=some ⟨.int .i64,1,8,[.int .i64 0],false⟩:=rfl
def ae0:tab 4=some ⟨.bool,1,1,[.bool false],false⟩:=rfl
def WU:tab 5=some ⟨.int .u8,1,1,[.int .u8 0],false⟩:=rfl
def ach:tab 9=some ⟨.str,1,16,[.string ⟨#[]⟩],false⟩:=rfl
def Np:tab 22=some ⟨.slice 3,1,24,[.slice none 0 0],false⟩:=rfl
def T6:tab 23=some ⟨.slice 57,1,24,[.slice none 0 0],false⟩:=rfl
def Nq:tab 25=some ⟨.struct [(22,0),(23,1)],2,48,[.slice none 0 0,.slice none 0 0],false⟩:=rfl
def HZ:tab 26=some ⟨.slice 27,1,24,[.slice none 0 0],false⟩:=rfl
def Nr:tab 27=some ⟨.slice 41,1,24,[.slice none 0 0],false⟩:=rfl
def T7:tab 39=some ⟨.struct [(3,0),(22,1)],2,32,[.int .i64 0,.slice none 0 0],false⟩:=rfl
def Ns:tab 41=some ⟨.struct [(39,0),(39,2)],4,64,[.int .i64 0,.slice none 0 0,.int .i64 0,.slice none 0 0],false⟩:=rfl
def T8:tab 51=some ⟨.slice 83,1,24,[.slice none 0 0],false⟩:=rfl
def T9:tab 52=some ⟨.slice 60,1,24,[.slice none 0 0],false⟩:=rfl
def Ua:tab 54=some ⟨.struct [(51,0),(52,1),(26,2)],3,72,[.slice none 0 0,.slice none 0 0,.slice none 0 0],false⟩:=rfl
def Ub:tab 55=some ⟨.slice 72,1,24,[.slice none 0 0],false⟩:=rfl
def Nt:tab 57=some ⟨.struct [(54,0),(55,3),(22,4)],5,120,[.slice none 0 0,.slice none 0 0,.slice none 0 0,.slice none 0 0,.slice none 0 0],false⟩:=rfl
def Nu:tab 60=some ⟨.struct [(3,0),(3,1),(3,2),(9,3)],4,40,[.int .i64 0,.int .i64 0,.int .i64 0,.string ⟨#[]⟩],true⟩:=rfl
def acf:tab 64=some ⟨.slice 118,1,24,[.slice none 0 0],false⟩:=rfl
def acg:tab 66=some ⟨.struct [(3,0),(64,1)],2,32,[.int .i64 0,.slice none 0 0],false⟩:=rfl
def Nv:tab 72=some ⟨.struct [(3,0),(3,1)],2,16,[.int .i64 0,.int .i64 0],true⟩:=rfl
def Nw:tab 83=some ⟨.struct [(3,0),(3,1),(3,2)],3,24,[.int .i64 0,.int .i64 0,.int .i64 0],true⟩:=rfl
def WH:tab 113=some ⟨.map 116 41,1,8,[.map none],false⟩:=rfl
def WI:tab 116=some ⟨.struct [(3,0),(3,1)],2,16,[.int .i64 0,.int .i64 0],true⟩:=rfl
def WJ:tab 118=some ⟨.struct [(3,0),(3,1),(41,2)],6,80,[.int .i64 0,.int .i64 0,.int .i64 0,.slice none 0 0,.int .i64 0,.slice none 0 0],false⟩:=rfl
def WK:tab 124=some ⟨.slice 128,1,24,[.slice none 0 0],false⟩:=rfl
def WL:tab 126=some ⟨.slice 130,1,24,[.slice none 0 0],false⟩:=rfl
def No:tab 128=some ⟨.struct [(41,0),(126,4)],5,88,[.int .i64 0,.slice none 0 0,.int .i64 0,.slice none 0 0,.slice none 0 0],false⟩:=rfl
def WM:tab 130=some ⟨.struct [(3,0),(41,1)],5,72,[.int .i64 0,.int .i64 0,.slice none 0 0,.int .i64 0,.slice none 0 0],false⟩:=rfl
def WN:tab 152=some ⟨.int .u64,1,8,[.int .u64 0],false⟩:=rfl
def WQ:tab 153=some ⟨.int .u64,1,8,[.int .u64 0],false⟩:=rfl
def WR:tab 190=some ⟨.int .u32,1,4,[.int .u32 0],false⟩:=rfl
def WS:tab 199=some ⟨.slice 22,1,24,[.slice none 0 0],false⟩:=rfl
def aiP:eD prog 2 ⟨.int .i64,1,8,[.int .i64 0],false⟩:=⟨by kernel_rfl,by kernel_rfl,by kernel_rfl,fun h=>by cases h⟩
def aiQ:eD prog 3 ⟨.int .i64,1,8,[.int .i64 0],false⟩:=⟨by kernel_rfl,by kernel_rfl,by kernel_rfl,fun h=>by cases h⟩
def aiR:eD prog 4 ⟨.bool,1,1,[.bool false],false⟩:=⟨by kernel_rfl,by kernel_rfl,by kernel_rfl,fun h=>by cases h⟩
def aiS:eD prog 5 ⟨.int .u8,1,1,[.int .u8 0],false⟩:=⟨by kernel_rfl,by kernel_rfl,by kernel_rfl,fun h=>by cases h⟩
def aiT:eD prog 9 ⟨.str,1,16,[.string ⟨#[]⟩],false⟩:=⟨by kernel_rfl,by kernel_rfl,by kernel_rfl,fun h=>by cases h⟩
def ahD:eD prog 12 ⟨.int .u64,1,8,[.int .u64 0],false⟩:=⟨by kernel_rfl,by kernel_rfl,by kernel_rfl,fun h=>by cases h⟩
def ahE:eD prog 21 ⟨.int .i32,1,4,[.int .i32 0],false⟩:=⟨by kernel_rfl,by kernel_rfl,by kernel_rfl,fun h=>by cases h⟩
def ahF:eD prog 22 ⟨.slice 3,1,24,[.slice none 0 0],false⟩:=⟨by kernel_rfl,by kernel_rfl,by kernel_rfl,fun h=>by cases h⟩
def ahG:eD prog 23 ⟨.slice 57,1,24,[.slice none 0 0],false⟩:=⟨by kernel_rfl,by kernel_rfl,by kernel_rfl,fun h=>by cases h⟩
def ahH:eD prog 24 ⟨.struct [(22,0),(23,1)],2,48,[.slice none 0 0,.slice none 0 0],false⟩:=⟨by kernel_rfl,by kernel_rfl,by kernel_rfl,fun h=>by cases h⟩
def ahI:eD prog 25 ⟨.struct [(22,0),(23,1)],2,48,[.slice none 0 0,.slice none 0 0],false⟩:=⟨by kernel_rfl,by kernel_rfl,by kernel_rfl,fun h=>by cases h⟩
def ahJ:eD prog 26 ⟨.slice 27,1,24,[.slice none 0 0],false⟩:=⟨by kernel_rfl,by kernel_rfl,by kernel_rfl,fun h=>by cases h⟩
def ahK:eD prog 27 ⟨.slice 41,1,24,[.slice none 0 0],false⟩:=⟨by kernel_rfl,by kernel_rfl,by kernel_rfl,fun h=>by cases h⟩
def ahL:eD prog 31 ⟨.int .i64,1,8,[.int .i64 0],false⟩:=⟨by kernel_rfl,by kernel_rfl,by kernel_rfl,fun h=>by cases h⟩
def ahM:eD prog 38 ⟨.struct [(3,0),(22,1)],2,32,[.int .i64 0,.slice none 0 0],false⟩:=⟨by kernel_rfl,by kernel_rfl,by kernel_rfl,fun h=>by cases h⟩
def ahN:eD prog 39 ⟨.struct [(3,0),(22,1)],2,32,[.int .i64 0,.slice none 0 0],false⟩:=⟨by kernel_rfl,by kernel_rfl,by kernel_rfl,fun h=>by cases h⟩
def ahO:eD prog 40 ⟨.struct [(39,0),(39,2)],4,64,[.int .i64 0,.slice none 0 0,.int .i64 0,.slice none 0 0],false⟩:=⟨by kernel_rfl,by kernel_rfl,by kernel_rfl,fun h=>by cases h⟩
def ahP:eD prog 41 ⟨.struct [(39,0),(39,2)],4,64,[.int .i64 0,.slice none 0 0,.int .i64 0,.slice none 0 0],false⟩:=⟨by kernel_rfl,by kernel_rfl,by kernel_rfl,fun h=>by cases h⟩
def ahQ:eD prog 51 ⟨.slice 83,1,24,[.slice none 0 0],false⟩:=⟨by kernel_rfl,by kernel_rfl,by kernel_rfl,fun h=>by cases h⟩
def ahR:eD prog 52 ⟨.slice 60,1,24,[.slice none 0 0],false⟩:=⟨by kernel_rfl,by kernel_rfl,by kernel_rfl,fun h=>by cases h⟩
def ahS:eD prog 53 ⟨.struct [(51,0),(52,1),(26,2)],3,72,[.slice none 0 0,.slice none 0 0,.slice none 0 0],false⟩:=⟨by kernel_rfl,by kernel_rfl,by kernel_rfl,fun h=>by cases h⟩
def ahT:eD prog 54 ⟨.struct [(51,0),(52,1),(26,2)],3,72,[.slice none 0 0,.slice none 0 0,.slice none 0 0],false⟩:=⟨by kernel_rfl,by kernel_rfl,by kernel_rfl,fun h=>by cases h⟩
def ahU:eD prog 55 ⟨.slice 72,1,24,[.slice none 0 0],false⟩:=⟨by kernel_rfl,by kernel_rfl,by kernel_rfl,fun h=>by cases h⟩
def ahV:eD prog 56 ⟨.struct [(54,0),(55,3),(22,4)],5,120,[.slice none 0 0,.slice none 0 0,.slice none 0 0,.slice none 0 0,.slice none 0 0],false⟩:=⟨by kernel_rfl,by kernel_rfl,by kernel_rfl,fun h=>by cases h⟩
def ahW:eD prog 57 ⟨.struct [(54,0),(55,3),(22,4)],5,120,[.slice none 0 0,.slice none 0 0,.slice none 0 0,.slice none 0 0,.slice none 0 0],false⟩:=⟨by kernel_rfl,by kernel_rfl,by kernel_rfl,fun h=>by cases h⟩
def ahX:eD prog 59 ⟨.struct [(3,0),(3,1),(3,2),(9,3)],4,40,[.int .i64 0,.int .i64 0,.int .i64 0,.string ⟨#[]⟩],true⟩:=⟨by kernel_rfl,by kernel_rfl,by kernel_rfl,fun _=>⟨by kernel_rfl,by kernel_rfl,by kernel_rfl⟩⟩
def ahY:eD prog 60 ⟨.struct [(3,0),(3,1),(3,2),(9,3)],4,40,[.int .i64 0,.int .i64 0,.int .i64 0,.string ⟨#[]⟩],true⟩:=⟨by kernel_rfl,by kernel_rfl,by kernel_rfl,fun _=>⟨by kernel_rfl,by kernel_rfl,by kernel_rfl⟩⟩
def ahZ:eD prog 63 ⟨.int .u16,1,2,[.int .u16 0],false⟩:=⟨by kernel_rfl,by kernel_rfl,by kernel_rfl,fun h=>by cases h⟩
def ah0:eD prog 64 ⟨.slice 118,1,24,[.slice none 0 0],false⟩:=⟨by kernel_rfl,by kernel_rfl,by kernel_rfl,fun h=>by cases h⟩
def ah1:eD prog 65 ⟨.struct [(3,0),(64,1)],2,32,[.int .i64 0,.slice none 0 0],false⟩:=⟨by kernel_rfl,by kernel_rfl,by kernel_rfl,fun h=>by cases h⟩
def ah2:eD prog 66 ⟨.struct [(3,0),(64,1)],2,32,[.int .i64 0,.slice none 0 0],false⟩:=⟨by kernel_rfl,by kernel_rfl,by kernel_rfl,fun h=>by cases h⟩
def ah3:eD prog 69 ⟨.slice 4,1,24,[.slice none 0 0],false⟩:=⟨by kernel_rfl,by kernel_rfl,by kernel_rfl,fun h=>by cases h⟩
def ah4:eD prog 71 ⟨.struct [(3,0),(3,1)],2,16,[.int .i64 0,.int .i64 0],true⟩:=⟨by kernel_rfl,by kernel_rfl,by kernel_rfl,fun _=>⟨by kernel_rfl,by kernel_rfl,by kernel_rfl⟩⟩
def ah5:eD prog 72 ⟨.struct [(3,0),(3,1)],2,16,[.int .i64 0,.int .i64 0],true⟩:=⟨by kernel_rfl,by kernel_rfl,by kernel_rfl,fun _=>⟨by kernel_rfl,by kernel_rfl,by kernel_rfl⟩⟩
def ah6:eD prog 77 ⟨.slice 133,1,24,[.slice none 0 0],false⟩:=⟨by kernel_rfl,by kernel_rfl,by kernel_rfl,fun h=>by cases h⟩
def ah7:eD prog 82 ⟨.struct [(3,0),(3,1),(3,2)],3,24,[.int .i64 0,.int .i64 0,.int .i64 0],true⟩:=⟨by kernel_rfl,by kernel_rfl,by kernel_rfl,fun _=>⟨by kernel_rfl,by kernel_rfl,by kernel_rfl⟩⟩
def ah8:eD prog 83 ⟨.struct [(3,0),(3,1),(3,2)],3,24,[.int .i64 0,.int .i64 0,.int .i64 0],true⟩:=⟨by kernel_rfl,by kernel_rfl,by kernel_rfl,fun _=>⟨by kernel_rfl,by kernel_rfl,by kernel_rfl⟩⟩
def afX:eD prog 113 ⟨.map 116 41,1,8,[.map none],false⟩:=⟨by kernel_rfl,by kernel_rfl,by kernel_rfl,fun h=>by cases h⟩
def afY:eD prog 115 ⟨.struct [(3,0),(3,1)],2,16,[.int .i64 0,.int .i64 0],true⟩:=⟨by kernel_rfl,by kernel_rfl,by kernel_rfl,fun _=>⟨by kernel_rfl,by kernel_rfl,by kernel_rfl⟩⟩
def afZ:eD prog 116 ⟨.struct [(3,0),(3,1)],2,16,[.int .i64 0,.int .i64 0],true⟩:=⟨by kernel_rfl,by kernel_rfl,by kernel_rfl,fun _=>⟨by kernel_rfl,by kernel_rfl,by kernel_rfl⟩⟩
def af0:eD prog 117 ⟨.struct [(3,0),(3,1),(41,2)],6,80,[.int .i64 0,.int .i64 0,.int .i64 0,.slice none 0 0,.int .i64 0,.slice none 0 0],false⟩:=⟨by kernel_rfl,by kernel_rfl,by kernel_rfl,fun h=>by cases h⟩
def af1:eD prog 118 ⟨.struct [(3,0),(3,1),(41,2)],6,80,[.int .i64 0,.int .i64 0,.int .i64 0,.slice none 0 0,.int .i64 0,.slice none 0 0],false⟩:=⟨by kernel_rfl,by kernel_rfl,by kernel_rfl,fun h=>by cases h⟩
def af2:eD prog 124 ⟨.slice 128,1,24,[.slice none 0 0],false⟩:=⟨by kernel_rfl,by kernel_rfl,by kernel_rfl,fun h=>by cases h⟩
def af3:eD prog 126 ⟨.slice 130,1,24,[.slice none 0 0],false⟩:=⟨by kernel_rfl,by kernel_rfl,by kernel_rfl,fun h=>by cases h⟩
def af4:eD prog 127 ⟨.struct [(41,0),(126,4)],5,88,[.int .i64 0,.slice none 0 0,.int .i64 0,.slice none 0 0,.slice none 0 0],false⟩:=⟨by kernel_rfl,by kernel_rfl,by kernel_rfl,fun h=>by cases h⟩
def af5:eD prog 128 ⟨.struct [(41,0),(126,4)],5,88,[.int .i64 0,.slice none 0 0,.int .i64 0,.slice none 0 0,.slice none 0 0],false⟩:=⟨by kernel_rfl,by kernel_rfl,by kernel_rfl,fun h=>by cases h⟩
def af6:eD prog 129 ⟨.struct [(3,0),(41,1)],5,72,[.int .i64 0,.int .i64 0,.slice none 0 0,.int .i64 0,.slice none 0 0],false⟩:=⟨by kernel_rfl,by kernel_rfl,by kernel_rfl,fun h=>by cases h⟩
def af7:eD prog 130 ⟨.struct [(3,0),(41,1)],5,72,[.int .i64 0,.int .i64 0,.slice none 0 0,.int .i64 0,.slice none 0 0],false⟩:=⟨by kernel_rfl,by kernel_rfl,by kernel_rfl,fun h=>by cases h⟩
def af8:eD prog 132 ⟨.struct [(3,0),(41,1)],5,72,[.int .i64 0,.int .i64 0,.slice none 0 0,.int .i64 0,.slice none 0 0],false⟩:=⟨by kernel_rfl,by kernel_rfl,by kernel_rfl,fun h=>by cases h⟩
def af9:eD prog 133 ⟨.struct [(3,0),(41,1)],5,72,[.int .i64 0,.int .i64 0,.slice none 0 0,.int .i64 0,.slice none 0 0],false⟩:=⟨by kernel_rfl,by kernel_rfl,by kernel_rfl,fun h=>by cases h⟩
def aga:eD prog 152 ⟨.int .u64,1,8,[.int .u64 0],false⟩:=⟨by kernel_rfl,by kernel_rfl,by kernel_rfl,fun h=>by cases h⟩
def agb:eD prog 153 ⟨.int .u64,1,8,[.int .u64 0],false⟩:=⟨by kernel_rfl,by kernel_rfl,by kernel_rfl,fun h=>by cases h⟩
def agc:eD prog 183 ⟨.int .i64,1,8,[.int .i64 0],false⟩:=⟨by kernel_rfl,by kernel_rfl,by kernel_rfl,fun h=>by cases h⟩
def agd:eD prog 190 ⟨.int .u32,1,4,[.int .u32 0],false⟩:=⟨by kernel_rfl,by kernel_rfl,by kernel_rfl,fun h=>by cases h⟩
def age:eD prog 199 ⟨.slice 22,1,24,[.slice none 0 0],false⟩:=⟨by kernel_rfl,by kernel_rfl,by kernel_rfl,fun h=>by cases h⟩
def agf:eD prog 207 ⟨.int .u64,1,8,[.int .u64 0],false⟩:=⟨by kernel_rfl,by kernel_rfl,by kernel_rfl,fun h=>by cases h⟩
def tok:jH prog tab:=by
 intro t τ h;unfold tab at h;split at h
 ·cases h;exact aiP
 ·cases h;exact aiQ
 ·cases h;exact aiR
 ·cases h;exact aiS
 ·cases h;exact aiT
 ·cases h;exact ahD
 ·cases h;exact ahE
 ·cases h;exact ahF
 ·cases h;exact ahG
 ·cases h;exact ahH
 ·cases h;exact ahI
 ·cases h;exact ahJ
 ·cases h;exact ahK
 ·cases h;exact ahL
 ·cases h;exact ahM
 ·cases h;exact ahN
 ·cases h;exact ahO
 ·cases h;exact ahP
 ·cases h;exact ahQ
 ·cases h;exact ahR
 ·cases h;exact ahS
 ·cases h;exact ahT
 ·cases h;exact ahU
 ·cases h;exact ahV
 ·cases h;exact ahW
 ·cases h;exact ahX
 ·cases h;exact ahY
 ·cases h;exact ahZ
 ·cases h;exact ah0
 ·cases h;exact ah1
 ·cases h;exact ah2
 ·cases h;exact ah3
 ·cases h;exact ah4
 ·cases h;exact ah5
 ·cases h;exact ah6
 ·cases h;exact ah7
 ·cases h;exact ah8
 ·cases h;exact afX
 ·cases h;exact afY
 ·cases h;exact afZ
 ·cases h;exact af0
 ·cases h;exact af1
 ·cases h;exact af2
 ·cases h;exact af3
 ·cases h;exact af4
 ·cases h;exact af5
 ·cases h;exact af6
 ·cases h;exact af7
 ·cases h;exact af8
 ·cases h;exact af9
 ·cases h;exact aga
 ·cases h;exact agb
 ·cases h;exact agc
 ·cases h;exact agd
 ·cases h;exact age
 ·cases h;exact agf
 ·cases h
def mixed:Tryz.prog.follows .mixedOrders=true:=by kernel_rfl
def u6 {α:Type} (x:Option α) (K:α->Prop):Prop :=
 match x with
 | some a=>K a
 | none=>False
def br (b:Bool) (A B:Prop):Prop:=(b=true->A)∧(b=false->B)
def Uu (d:D) (t:Nat->D) (g:Nat) (A B:(Nat->D)->Prop):Prop :=
 match d with
 | .bool b=>br b (A (b8 t g (.bool b))) (B (b8 t g (.bool b)))
 | _=>False
def wpS (d:D) (t:Nat->D) (g:Nat) (A B S:(Nat->D)->Prop):Prop :=
 match d with
 | .skp=>S t
 | d=>Uu d t g A B
def B6 {t:Nat->D} {g:Nat} {b:Bool} {A B S:(Nat->D)->Prop} : wpS (.bool b) t g A B S=br b (A (b8 t g (.bool b))) (B (b8 t g (.bool b))):=rfl
def wpG (ops:List Oper) (t:Nat->D) (gd:Option (Nat×Bool)) (A B:(Nat->D)->Prop):Prop :=
 match gd with
 | none=>A t
 | some (j,a)=>u6 ((ops[j]?).bind (·.dst)) fun g=>wpS (t g) t g (if a then A else B) (if a then B else A) B
def Sm (T:Nat->Option Ty) (Γ:Env) (e:Nat) (o:Oper) (t:Nat->D) (h:Nat->Option Row) (K:(Nat->D)->cr->Prop):Prop :=
 match o.op with
 | .pick (.tmp c) a b=>Uu (t c) t c (fun t=>K t ⟨ev t a,[]⟩) (fun t=>K t ⟨ev t b,[]⟩)
 | _=>u6 (rR T Γ e o (ev t) h) (K t)
def HL (T:Nat->Option Ty) (Γ:Env) (N e:Nat) (ops:List Oper):List Oper->(Nat->D)->(Nat->Option Row)->((Nat->D)->(Nat->Option Row)->Prop)->Prop
 | [],t,h,K=>K t h
 | o::l,t,h,K=>fits N o.dst=true∧wpG ops t o.guard (fun t=>Sm T Γ e o t h fun t E=>HL T Γ N e ops l (fP t o.dst E.val) (aS h E.hw) K) (fun t=>HL T Γ N e ops l (fP t o.dst .skp) h K)
def runK (T:Nat->Option Ty) (Γ:Env) (N e:Nat) (ops:List Oper):List Oper->(Nat->D)->(Nat->Option Row)->List mE->((Nat->D)->(Nat->Option Row)->List mE->Prop)->Prop
 | [],t,h,fs,K=>K t h fs
 | o::l,t,h,fs,K=>fits N o.dst=true∧wpG ops t o.guard (fun t=>Sm T Γ e o t h fun t E=>runK T Γ N e ops l (fP t o.dst E.val) (aS h E.hw) (fs++[⟨cW o (ev t),E.hw.isEmpty⟩]) K) (fun t=>runK T Γ N e ops l (fP t o.dst .skp) h (fs++[⟨[],true⟩]) K)
abbrev Kt:=Ex->(Nat->D)->(Nat->Option Row)->Nat->Prop
def ahl (x:Ex) (A:Prop) (B:Prop):Prop :=
 match x with
 | .normal=>A
 | _=>B
def ZM (id:Nat) (x:Ex) (t:Nat->D) (h:Nat->Option Row) (e:Nat) (K:Kt):Prop :=
 match x with
 | .exit n=>if n=id then K .normal t h e else K (.exit n) t h e
 | x=>K x t h e
def wpR (T:Nat->Option Ty) (Γ:Env) (N:Nat) (ops:Array Oper) (a:Bool) (t:Nat->D) (h:Nat->Option Row) (e:Nat) (K:(Nat->D)->(Nat->Option Row)->Prop):Prop :=
 match a with
 | true=>runK T Γ N e ops.toList ops.toList t h [] fun t h fs=>FR ops fs=true∧K t h
 | false=>HL T Γ N e ops.toList ops.toList t h K
def NG (T:Nat->Option Ty) (Γ:Env) (N F:Nat):Code->(Nat->D)->(Nat->Option Row)->Nat->Kt->Prop
 | .skip,t,h,e,K=>K .normal t h e
 | .region _ ops draw,t,h,e,K=>wpR T Γ N ops draw t h e fun t h=>K .normal t h (e+1)
 | .seq a b,t,h,e,K=>NG T Γ N F a t h e fun x t h e=>ahl x (NG T Γ N F b t h e K) (K x t h e)
 | .cond c x y,t,h,e,K =>
  match c with
  | .tmp g=>Uu (t g) t g (fun t=>NG T Γ N F x t h e K) (fun t=>NG T Γ N F y t h e K)
  | .const (.bool true)=>NG T Γ N F x t h e K
  | .const (.bool false)=>NG T Γ N F y t h e K
  | _=>False
 | .block id b,t,h,e,K=>NG T Γ N F b t h e fun x t h e=>ZM id x t h e K
 | .loop b,t,h,e,K=>∃x s,iter (ib T Γ N F b) F ⟨t,h,e⟩=some (x,s)∧K x s.t s.h s.e
 | .exit id,t,h,e,K=>K (.exit id) t h e
 | .ret,t,h,e,K=>K .ret t h e
 | _,_,_,_,_=>False
def afm (a:Mode) (T:Nat->Option Ty) (lent:Option (D×Row)) (rs:List ResultVar) (x:Ex) (t:Nat->D) (h:Nat->Option Row) (e:Nat) (r:RK×Option Row):Prop :=
 match x with
 | .exit _=>False
 | _=>gu a T lent rs ⟨t,EH h,e⟩=some r
def wpf (b:Mode) (T:Nat->Option Ty) (Γ:Env) (F:Nat) (d:Func) (lent:Option (D×Row)) (a:List D) (r:RK×Option Row):Prop :=
 u6 d.body fun c=>NG T Γ d.ntmps F c (cB lent a).t (cB lent a).h (cB lent a).e fun x t h e=>afm b T lent d.results.toList x t h e r
def G6 {α:Type} (a:α) (K:α->Prop):u6 (some a) K=K a:=rfl
def G4 {α:Type} {x:Option α} {K:α->Prop} (h:u6 x K):∃a,x=some a∧K a:=by
 cases x with
 | none=>exact h.elim
 | some a=>exact⟨a,rfl,h⟩
def Uo {t:Nat->D} {g:Nat} {d:D} (h:t g=d):b8 t g d=t:=by
 funext j;unfold b8;split
 ·rename_i e;subst e;exact h.symm
 ·rfl
def acT (A B:Prop):br true A B=A:=by simp[br]
def ZO (A B:Prop):br false A B=B:=by simp[br]
def acS {b:Bool} {A B:Prop} (h:br b A B):if b then A else B:=by
 cases b with
 | true=>exact h.1 rfl
 | false=>exact h.2 rfl
def acB {t:Nat->D} {g:Nat} {b:Bool} {A B:(Nat->D)->Prop} : Uu (.bool b) t g A B=br b (A (b8 t g (.bool b))) (B (b8 t g (.bool b))):=rfl
def B4 {t:Nat->D} {g:Nat} {A B:(Nat->D)->Prop} (h:t g=.bool true):Uu (.bool true) t g A B=A t:=by simp[Uu,Uo h,acT]
def zi {t:Nat->D} {g:Nat} {A B:(Nat->D)->Prop} (h:t g=.bool false):Uu (.bool false) t g A B=B t:=by simp[Uu,Uo h,ZO]
def B7 {t:Nat->D} {g:Nat} {A B S:(Nat->D)->Prop} (h:t g=.bool true):wpS (.bool true) t g A B S=A t:=B4 h
def zj {t:Nat->D} {g:Nat} {A B S:(Nat->D)->Prop} (h:t g=.bool false):wpS (.bool false) t g A B S=B t:=zi h
def Uv {t:Nat->D} {g:Nat} {A B:(Nat->D)->Prop} (h:Uu (t g) t g A B):∃b,t g=.bool b∧(if b then A t else B t):=by
 unfold Uu at h;split at h
 ·rename_i b a;rw[Uo a]at h;exact⟨b,a,acS h⟩
 ·exact h.elim
section
variable {T:Nat->Option Ty} {Γ:Env} {N F e:Nat}
def acE {ops:Array Oper} {t:Nat->D} {o:Oper} {A B:(Nat->D)->Prop} (h:wpG ops.toList t o.guard A B):∃b,xZ ops t o=some b∧(if b then A t else B t):=by
 unfold wpG at h;unfold xZ;split at h
 ·rename_i d;try rw[d]
  exact⟨true,rfl,by simpa using h⟩
 ·rename_i j a d;try rw[d]
  obtain⟨g,e,c⟩:=G4 h;rw[akp]at e;unfold wpS at c;split at c
  ·rename_i f;simp only[e,f];exact⟨false,rfl,c⟩
  ·obtain⟨b,i,k⟩:=Uv c;simp only[e,i];refine⟨_,rfl,?_⟩;cases b<;>cases a<;>simpa using k
def acC {o:Oper} {t:Nat->D} {h:Nat->Option Row} {K:(Nat->D)->cr->Prop} (d:Sm T Γ e o t h K):∃E,rR T Γ e o (ev t) h=some E∧K t E:=by
 unfold Sm at d;split at d
 ·rename_i c a b i;obtain⟨v,f,g⟩:=Uv d;have j:qE Γ e h o.dst none=none:=by cases o.dst<;>rfl
  cases v with
  | true=>exact⟨⟨ev t a,[]⟩,by unfold rR iX tx;rw[i];simp only[ev,f,or2,mB,jA,j],by simpa only[if_true] using g⟩
  | false=>exact⟨⟨ev t b,[]⟩,by unfold rR iX tx;rw[i];simp only[ev,f,or2,mB,jA,j],by simpa only[ajT,if_false] using g⟩
 ·obtain⟨E,f,g⟩:=G4 d;exact⟨E,f,g⟩
def BT {ops:Array Oper} {K:(Nat->D)->(Nat->Option Row)->Prop} : ∀(l:List Oper) (t:Nat->D) (h:Nat->Option Row),HL T Γ N e ops.toList l t h K->∃a h' fs,C4 T Γ N e ops l t h=some (a,h',fs)∧K a h'
 | [],t,h,hk=>⟨t,h,[],rfl,hk⟩
 | o::l,t,h,hk=>by
  unfold HL at hk;obtain⟨g,i⟩:=hk;obtain⟨b,j,f⟩:=acE i;unfold C4 step1;rw[if_pos g,j];cases b with
  | true =>
   obtain⟨E,k,m⟩:=acC (by simpa using f);obtain⟨a,h',fs,c,d⟩:=BT l _ _ m;simp only[k,c];exact⟨_,_,_,rfl,d⟩
  | false =>
   obtain⟨a,h',fs,c,d⟩:=BT l _ _ (by simpa using f);simp only[c];exact⟨_,_,_,rfl,d⟩
def Nc {ops:Array Oper} {K:(Nat->D)->(Nat->Option Row)->List mE->Prop} : ∀(l:List Oper) (t:Nat->D) (h:Nat->Option Row) (f0:List mE),runK T Γ N e ops.toList l t h f0 K->∃a h' fs,C4 T Γ N e ops l t h=some (a,h',fs)∧K a h' (f0++fs)
 | [],t,h,f0,hk=>⟨t,h,[],rfl,by unfold runK at hk;simpa using hk⟩
 | o::l,t,h,f0,hk=>by
  unfold runK at hk;obtain⟨g,i⟩:=hk;obtain⟨b,j,f⟩:=acE i;unfold C4 step1;rw[if_pos g,j];cases b with
  | true =>
   obtain⟨E,k,m⟩:=acC (by simpa using f);obtain⟨a,h',fs,c,d⟩:=Nc l _ _ _ m;simp only[k,c];exact⟨_,_,_,rfl,by simpa using d⟩
  | false =>
   obtain⟨a,h',fs,c,d⟩:=Nc l _ _ _ (by simpa using f);simp only[c];exact⟨_,_,_,rfl,by simpa using d⟩
def agj {ops:Array Oper} {a:Bool} {t:Nat->D} {h:Nat->Option Row} {K:(Nat->D)->(Nat->Option Row)->Prop} (f:wpR T Γ N ops a t h e K):∃b h',zh T Γ N ops a ⟨t,h,e⟩=some (.normal,⟨b,h',e+1⟩)∧K b h':=by
 unfold zh;cases a with
 | false =>
  obtain⟨b,h',fs,d,c⟩:=BT _ _ _ f;simp only[d];exact⟨b,h',by simp,c⟩
 | true =>
  obtain⟨b,h',fs,d,c,g⟩:=Nc _ _ _ _ f;simp only[d];exact⟨b,h',by rw[akV]at c;simp[c],g⟩
def Dh:∀(c:Code) (t:Nat->D) (h:Nat->Option Row) (e:Nat) (K:Kt),NG T Γ N F c t h e K->∃x s,ib T Γ N F c ⟨t,h,e⟩=some (x,s)∧K x s.t s.h s.e:=by
 intro c
 induction c with
 | skip=>intro t h e K d;exact⟨_,_,rfl,d⟩
 | region i ops draw =>
  intro t h e K d;obtain⟨z,h',j,f⟩:=agj d;exact⟨_,_,j,f⟩
 | seq a b m o =>
  intro t h e K d;obtain⟨x,s,j,f⟩:=m _ _ _ _ d;simp only[ib,j];cases x with
  | normal =>
   obtain⟨r,u,v,w⟩:=o _ _ _ _ f;exact⟨r,u,v,w⟩
  | exit n=>exact⟨_,_,rfl,f⟩
  | ret=>exact⟨_,_,rfl,f⟩
 | cond c x y k l =>
  intro t h e K d;unfold NG at d;split at d
  ·rename_i g;obtain⟨b,j,f⟩:=Uv d;simp only[ib,ev,j,Si];cases b with
   | true=>exact k _ _ _ _ (by simpa using f)
   | false=>exact l _ _ _ _ (by simpa using f)
  ·simpa only[ib,ev,qu,Si,if_true] using k _ _ _ _ d
  ·simpa only[ib,ev,qu,Si,ajT,if_false] using l _ _ _ _ d
  ·exact d.elim
 | block id b q =>
  intro t h e K d;obtain⟨x,s,j,f⟩:=q _ _ _ _ d;simp only[ib,j];cases x with
  | normal=>exact⟨_,_,rfl,f⟩
  | ret=>exact⟨_,_,rfl,f⟩
  | exit n =>
   simp only[Us];unfold ZM at f;simp only at f;split at f
   ·rename_i p;rw[if_pos p];exact⟨_,_,rfl,f⟩
   ·rename_i p;rw[if_neg p];exact⟨_,_,rfl,f⟩
 | loop b q=>intro t h e K d;exact d
 | exit id=>intro t h e K d;exact⟨_,_,rfl,d⟩
 | ret=>intro t h e K d;exact⟨_,_,rfl,d⟩
 | _=>intro t h e K d;exact d.elim
def Uw {b:Mode} {f:Func} {lent:Option (D×Row)} {a:List D} {r:RK×Option Row} (h:wpf b T Γ F f lent a r) (g:f.ntmps<=PK):kD b T Γ F f lent a=some r:=by
 obtain⟨c,i,j⟩:=G4 h;obtain⟨x,s,k,e⟩:=Dh _ _ _ _ _ j;unfold kD;simp only[i];rw[if_pos g];have l:cB lent a=⟨(cB lent a).t,(cB lent a).h,(cB lent a).e⟩:=rfl;rw[l,k];unfold afm at e;split at e
 ·exact e.elim
 ·rename_i m;split
  ·rename_i n _ d;cases d;exact (m n rfl).elim
  ·rename_i _ x' o _ d;cases d;exact e
  ·rename_i d;cases d
def W2 {α:Type} (f:Nat->α) (i:Nat) (v:α) (j:Nat):b8 f i v j=if j=i then v else f j:=al3
def A1 (a:List D) (i:Nat):D:=a.getD i .und
def Jg (d:D) (l:List D):A1 (d::l) 0=d:=al3
def Jf (d:D) (l:List D) (i:Nat):A1 (d::l) (i+1)=A1 l i:=al3
def KT (_:Nat):Option Row:=none
end
inductive W where
 | code (c:Code)
 | blk (id:Nat)
section
variable (T:Nat->Option Ty) (Γ:Env) (N F:Nat)
def dL:List W->Kt->Kt
 | [],Q=>Q
 | .code c::ws,Q=>fun x t h e=>ahl x (NG T Γ N F c t h e (dL ws Q)) (dL ws Q x t h e)
 | .blk id::ws,Q=>fun x t h e=>ZM id x t h e (dL ws Q)
def mL (ops l:List Oper) (ws:List W) (Q:Kt) (t:Nat->D) (h:Nat->Option Row) (e:Nat):Prop :=
 HL T Γ N e ops l t h fun t h=>dL T Γ N F ws Q .normal t h (e+1)
def nS (ops l:List Oper) (ws:List W) (Q:Kt) (t:Nat->D) (h:Nat->Option Row) (e:Nat) (fs:List mE):Prop :=
 runK T Γ N e ops l t h fs fun t h fs=>FR ops.toArray fs=true∧dL T Γ N F ws Q .normal t h (e+1)
def tw (o:Oper) (ops l:List Oper) (ws:List W) (Q:Kt) (t:Nat->D) (h:Nat->Option Row) (e:Nat):Prop :=
 Sm T Γ e o t h fun t E=>mL T Γ N F ops l ws Q (fP t o.dst E.val) (aS h E.hw) e
def wJ (o:Oper) (ops l:List Oper) (ws:List W) (Q:Kt) (t:Nat->D) (h:Nat->Option Row) (e:Nat) (fs:List mE):Prop :=
 Sm T Γ e o t h fun t E=>nS T Γ N F ops l ws Q (fP t o.dst E.val) (aS h E.hw) e (fs++[⟨cW o (ev t),E.hw.isEmpty⟩])
def zw (d:D) (g:Nat) (a:Bool) (o:Oper) (ops l:List Oper) (ws:List W) (Q:Kt) (t:Nat->D) (h:Nat->Option Row) (e:Nat):Prop :=
 wpS d t g (fun t=>if a then tw T Γ N F o ops l ws Q t h e else mL T Γ N F ops l ws Q (fP t o.dst .skp) h e) (fun t=>if a then mL T Γ N F ops l ws Q (fP t o.dst .skp) h e else tw T Γ N F o ops l ws Q t h e) (fun t=>mL T Γ N F ops l ws Q (fP t o.dst .skp) h e)
def zx (d:D) (g:Nat) (a:Bool) (o:Oper) (ops l:List Oper) (ws:List W) (Q:Kt) (t:Nat->D) (h:Nat->Option Row) (e:Nat) (fs:List mE):Prop :=
 wpS d t g (fun t=>if a then wJ T Γ N F o ops l ws Q t h e fs else nS T Γ N F ops l ws Q (fP t o.dst .skp) h e (fs++[⟨[],true⟩])) (fun t=>if a then nS T Γ N F ops l ws Q (fP t o.dst .skp) h e (fs++[⟨[],true⟩]) else wJ T Γ N F o ops l ws Q t h e fs) (fun t=>nS T Γ N F ops l ws Q (fP t o.dst .skp) h e (fs++[⟨[],true⟩]))
def HV (x y:Option cr) (dst:Option Nat) (ops l:List Oper) (ws:List W) (Q:Kt) (t:Nat->D) (h:Nat->Option Row) (e:Nat):Prop :=
 u6 (or2 h x y) fun E=>mL T Γ N F ops l ws Q (fP t dst E.val) (aS h E.hw) e
def HW (x y:Option cr) (dst:Option Nat) (a:List Nat) (ops l:List Oper) (ws:List W) (Q:Kt) (t:Nat->D) (h:Nat->Option Row) (e:Nat) (fs:List mE):Prop :=
 u6 (or2 h x y) fun E=>nS T Γ N F ops l ws Q (fP t dst E.val) (aS h E.hw) e (fs++[⟨a,E.hw.isEmpty⟩])
def C8 (x:Option cr) (dst:Option Nat) (ops l:List Oper) (ws:List W) (Q:Kt) (t:Nat->D) (h:Nat->Option Row) (e:Nat):Prop:=HV T Γ N F x none dst ops l ws Q t h e
def Nk (x:Option cr) (dst:Option Nat) (a:List Nat) (ops l:List Oper) (ws:List W) (Q:Kt) (t:Nat->D) (h:Nat->Option Row) (e:Nat) (fs:List mE):Prop:=HW T Γ N F x none dst a ops l ws Q t h e fs
def Yy (y:Option cr) (dst:Option Nat) (ops l:List Oper) (ws:List W) (Q:Kt) (t:Nat->D) (h:Nat->Option Row) (e:Nat):Prop :=
 u6 y fun E=>mL T Γ N F ops l ws Q (fP t dst E.val) (aS h E.hw) e
def ad4 (y:Option cr) (dst:Option Nat) (a:List Nat) (ops l:List Oper) (ws:List W) (Q:Kt) (t:Nat->D) (h:Nat->Option Row) (e:Nat) (fs:List mE):Prop :=
 u6 y fun E=>nS T Γ N F ops l ws Q (fP t dst E.val) (aS h E.hw) e (fs++[⟨a,E.hw.isEmpty⟩])
def Nz (d:D) (g:Nat) (x y:Code) (ws:List W) (Q:Kt) (t:Nat->D) (h:Nat->Option Row) (e:Nat):Prop :=
 Uu d t g (fun t=>dL T Γ N F (.code x::ws) Q .normal t h e) (fun t=>dL T Γ N F (.code y::ws) Q .normal t h e)
def abG (d:D) (g:Nat) (a b:Operand) (dst:Option Nat) (ops l:List Oper) (ws:List W) (Q:Kt) (t:Nat->D) (h:Nat->Option Row) (e:Nat):Prop :=
 Uu d t g (fun t=>mL T Γ N F ops l ws Q (fP t dst (ev t a)) h e) (fun t=>mL T Γ N F ops l ws Q (fP t dst (ev t b)) h e)
def abH (d:D) (g:Nat) (a b:Operand) (dst:Option Nat) (ops l:List Oper) (ws:List W) (Q:Kt) (t:Nat->D) (h:Nat->Option Row) (e:Nat) (fs:List mE):Prop :=
 Uu d t g (fun t=>nS T Γ N F ops l ws Q (fP t dst (ev t a)) h e (fs++[⟨[],true⟩])) (fun t=>nS T Γ N F ops l ws Q (fP t dst (ev t b)) h e (fs++[⟨[],true⟩]))
def Wm (b:Code) (ws:List W) (Q:Kt) (t:Nat->D) (h:Nat->Option Row) (e:Nat):Prop:=NG T Γ N F (.loop b) t h e (dL T Γ N F ws Q)
end
def Kx {n:Nat} (h:n<=1000000):n<=maxLen:=ajq h (by decide)
def K8 {z:List D} : p7 0 z=[]:=al3
def K7 {n:Nat} {z:List D} : p7 (n+1) z=z++p7 n z:=by simp[p7,List.replicate_succ]
def Ki {N:Nat} : fits N none=true:=al3
def Kj {N i:Nat} : fits N (some i)=decide (i<N):=al3
def xD:List Oper->Nat->Nat
 | [],_=>0
 | o::_,0=>o.dst.getD 0
 | _::l,j+1=>xD l j
def BB:List Oper->Nat->Bool
 | [],_=>false
 | o::_,0=>o.dst.isSome
 | _::l,j+1=>BB l j
def FN:∀(l:List Oper) (j:Nat),BB l j=true->(l[j]?).bind (·.dst)=some (xD l j)
 | [],j,h=>by simp[BB]at h
 | o::l,0,h=>by
  simp only[BB]at h;simp only[List.getElem?_cons_zero,Option.bind_some,xD];cases a:o.dst with
  | none=>simp_all
  | some d=>rfl
 | o::l,j+1,h=>by simpa [xD] using FN l j h
def FP {d:Nat} {op:Op} {ty:Nat} {pos:String} {af:Array Edge} {gd:Option (Nat×Bool)} {l:List Oper} : xD (⟨some d,op,ty,pos,af,gd⟩::l) 0=d:=al3
def FO {o:Oper} {l:List Oper} {j:Nat} : xD (o::l) (j+1)=xD l j:=al3
def GB {d:Nat} {op:Op} {ty:Nat} {pos:String} {af:Array Edge} {gd:Option (Nat×Bool)} {l:List Oper} : BB (⟨some d,op,ty,pos,af,gd⟩::l) 0=true:=al3
def GA {o:Oper} {l:List Oper} {j:Nat} : BB (o::l) (j+1)=BB l j:=al3
section
variable {dst:Option Nat} {ty:Nat} {pos:String} {af:Array Edge} {gd:Option (Nat×Bool)} {vs:Operand->D}
def KK (vs:Operand->D):List Operand->List Nat
 | []=>[]
 | x::l=>nm (vs x)++KK vs l
def mI (vs:Operand->D):∀l:List Operand,(l.flatMap fun x=>nm (vs x))=KK vs l
 | []=>Eq.trans rfl rfl
 | x::l=>by rw[List.flatMap_cons,mI vs l];exact Eq.trans rfl rfl
def V7:KK vs []=[]:=al3
def QK {x:Operand} {l:List Operand} : KK vs (x::l)=nm (vs x)++KK vs l:=al3
def Ed {o:BinOp} {a z:Nat} {x y:Operand} : cW ⟨dst,.binOp o a x y z,ty,pos,af,gd⟩ vs=(KK vs [x,y]++dst.toList).map rt:=by rw[<- mI];rfl
def H4 {o:UnOp} {a:Nat} {x:Operand} : cW ⟨dst,.unOp o a x,ty,pos,af,gd⟩ vs=(KK vs [x]++dst.toList).map rt:=by rw[<- mI];rfl
def B1 {x:Operand} : cW ⟨dst,.assign x,ty,pos,af,gd⟩ vs=(KK vs [x]++dst.toList).map rt:=by rw[<- mI];rfl
def H3 {a:Nat} {x:Operand} : cW ⟨dst,.load a x,ty,pos,af,gd⟩ vs=(KK vs [x]++dst.toList).map rt:=by rw[<- mI];rfl
def Ef {a:Nat} {x y:Operand} : cW ⟨dst,.store a x y,ty,pos,af,gd⟩ vs=(KK vs [x,y]++dst.toList).map rt:=by rw[<- mI];rfl
def yy {x:Operand} : cW ⟨dst,.nilCheck x,ty,pos,af,gd⟩ vs=(KK vs [x]++dst.toList).map rt:=by rw[<- mI];rfl
def wT {a i:Nat} {x:Operand} : cW ⟨dst,.fieldAddr a x i,ty,pos,af,gd⟩ vs=(KK vs [x]++dst.toList).map rt:=by rw[<- mI];rfl
def wU {a:Nat} {x i:Operand} : cW ⟨dst,.indexAddr a x i,ty,pos,af,gd⟩ vs=(KK vs [x,i]++dst.toList).map rt:=by rw[<- mI];rfl
def wV {a:Nat} {x y:Operand} : cW ⟨dst,.makeSlice a x y,ty,pos,af,gd⟩ vs=(KK vs [x,y]++dst.toList).map rt:=by rw[<- mI];rfl
def Ec {a:Nat} : cW ⟨dst,.alloc a,ty,pos,af,gd⟩ vs=(KK vs []++dst.toList).map rt:=by rw[<- mI];rfl
def zU {x:Operand} {i:Nat} : cW ⟨dst,.extract x i,ty,pos,af,gd⟩ vs=(KK vs [x]++dst.toList).map rt:=by rw[<- mI];rfl
def Ee {b:Nat} {a:List (Nat×Operand)} : cW ⟨dst,.build b a.toArray,ty,pos,af,gd⟩ vs=(KK vs (a.map (·.2))++dst.toList).map rt:=by rw[<- mI];rfl
def ve {b len:Nat} {a:List (Nat×Operand)} : cW ⟨dst,.buildSlice b len a.toArray,ty,pos,af,gd⟩ vs=(KK vs (a.map (·.2))++dst.toList).map rt:=by rw[<- mI];rfl
def H0 {x:Operand} {l:List Operand} {a:Array Nat} : cW ⟨dst,.call ⟨.value x,l.toArray,a⟩,ty,pos,af,gd⟩ vs=(KK vs (x::l)++dst.toList).map rt:=by
 rw[<- mI];simp[cW,iO,Op.operands,Call.operands]
def zT {x:Builtin} {l:List Operand} {a:Array Nat} : cW ⟨dst,.call ⟨.builtin x,l.toArray,a⟩,ty,pos,af,gd⟩ vs=(KK vs l++dst.toList).map rt:=by
 rw[<- mI];simp[cW,iO,Op.operands,Call.operands]
end
section
variable {T:Nat->Option Ty} {ty e:Nat} {dst:Option Nat} {h:Nat->Option Row}
def UX {k:IntKind} {n:Int} : dE T ty e dst h (.int k n)=some ⟨.int k n,[]⟩:=al3
def N6 {b:Bool} : dE T ty e dst h (.bool b)=some ⟨.bool b,[]⟩:=al3
def ZL {a:Bool} {n:Nat} {xs:List D} : dE T ty e dst h (.sl false a n xs)=some ⟨.sl false a n xs,[]⟩:=al3
def ZK {x v:Nat} : dE T ty e dst h (.mp x v)=some ⟨.mp x v,[]⟩:=al3
def EM {f a:Nat} {xs:List D} : dE T ty e dst h (.clo f a xs)=some ⟨.clo f a xs,[]⟩:=al3
def afd (b:Bool) (T:Nat->Option Ty) (ty e d:Nat) (h:Nat->Option Row) (x:D):Option cr:=if b then dE T ty e (some d) h x else oL h x
def Jl {d:Nat} {x:D} : afd true T ty e d h x=dE T ty e (some d) h x:=al3
def Fl {d:Nat} {x:D} : afd false T ty e d h x=oL h x:=al3
def aeq {q:Nat->Bool} {d:Nat} {x:D} : uo T q ty e (some d) h x=afd (q d) T ty e d h x:=al3
def Zv {a b:Bool} {n:Nat} {xs:List D} : oL h (.sl a b n xs)=some ⟨.sl false false n xs,[]⟩:=al3
def acQ (e d y s o n:Nat) (r:Row):Bool->Option cr
 | true=>some ⟨.buf y r.v s o n,[]⟩
 | false=>some ⟨.buf d e s o n,[(y,none),(d,some { r with v:=e })]⟩
def Fk {d y s o n:Nat} {r:Row} : acQ e d y s o n r false=some ⟨.buf d e s o n,[(y,none),(d,some { r with v:=e })]⟩:=al3
def afc (y v s o n:Nat):Option Row->Option cr
 | some _=>some ⟨.buf y v s o n,[]⟩
 | none=>some ⟨.und,[]⟩
def Jh {y v s o n:Nat} {r:Row} : afc y v s o n (some r)=some ⟨.buf y v s o n,[]⟩:=al3
def ZJ (e:Nat) (dst:Option Nat) (y s o n:Nat) (w:Option cr):Option Row->Option cr
 | some r=>match dst with|some d=>acQ e d y s o n r r.fz|none=>w
 | none=>w
def Jj {d y s o n:Nat} {r:Row} {w:Option cr} : ZJ e (some d) y s o n w (some r)=acQ e d y s o n r r.fz:=al3
def Ji {d y s o n:Nat} {w:Option cr} : ZJ e (some d) y s o n w none=w:=al3
def UW {d y v s o n:Nat} : dE T ty e (some d) h (.buf y v s o n)=ZJ e (some d) y s o n (afc y v s o n (qJ h y v)) (live h y v):=by
 simp only[dE];cases a:live h y v with
 | none=>simp only[ZJ];cases qJ h y v<;>simp[afc]
 | some r =>
  obtain⟨_,b⟩:=cM a;simp only[ZJ];cases c:r.fz<;>simp[acQ,b,c]
def acR (e:Nat) (dst:Option Nat) (T:Nat->Option Ty):Option Ty->Option cr
 | some τ =>
  match dst with
  | some d=>match τ.ds with
   | .slice el=>match T el with|some φ=>some ⟨.buf d e φ.size 0 0,[(d,some ⟨e,el,[],false,true,false⟩)]⟩|none=>none
   | _=>none
  | none=>none
 | none=>none
def Jk {d el b c:Nat} {z:List Value} {q:Bool} {φ:Ty} (a:T el=some φ):acR e (some d) T (some ⟨.slice el,b,c,z,q⟩)=some ⟨.buf d e φ.size 0 0,[(d,some ⟨e,el,[],false,true,false⟩)]⟩:=by simp only[acR,a]
def UY:dE T ty e dst h (.sl true true 0 [])=acR e dst T (T ty):=by
 unfold dE acR;grind
end
def okD (x:Option D):Option cr:=match x with|some d=>some ⟨d,[]⟩|none=>none
def QZ (d:D):okD (some d)=some ⟨d,[]⟩:=al3
def Ht (x:Option Ty) (f:Ty->Option cr):Option cr:=match x with|some τ=>f τ|none=>none
def Q9 (τ:Ty) (f:Ty->Option cr):Ht (some τ) f=f τ:=al3
def agF (x:Option (List D×List Nat)) (h:Nat->Option Row) (ty d e:Nat):Option cr :=
 match x with
 | some (cs,fr)=>if fr.contains d=false then some ⟨.ptr d e 0,kr h fr++[(d,some ⟨e,ty,cs,false,false,false⟩)]⟩ else none
 | none=>none
def Jo (cs:List D) (fr:List Nat) (h:Nat->Option Row) (ty d e:Nat):agF (some (cs,fr)) h ty d e=if fr.contains d=false then some ⟨.ptr d e 0,kr h fr++[(d,some ⟨e,ty,cs,false,false,false⟩)]⟩ else none:=al3
def afL (d e:Nat):Option Nat->D
 | some y =>.pm d e y
 | none =>.ptr d e 0
def K4 {d e:Nat} : afL d e none=.ptr d e 0:=al3
def Fh (x:Option Ty) (ty d e:Nat) (y:Option Nat):Option cr :=
 match x with
 | some τ=>if (τ.zero.map qu).all bu then some ⟨afL d e y,[(d,some ⟨e,ty,τ.zero.map qu,false,false,false⟩)]⟩ else none
 | none=>none
def Dn (τ:Ty) (ty d e:Nat) (y:Option Nat):Fh (some τ) ty d e y=if (τ.zero.map qu).all bu then some ⟨afL d e y,[(d,some ⟨e,ty,τ.zero.map qu,false,false,false⟩)]⟩ else none:=al3
def abr (T:Nat->Option Ty) (x:Option Ty) (ty e d:Nat):Option cr:=match x with|some τ=>pN T ty τ e d|none=>none
def abt {T:Nat->Option Ty} {τ φ:Ty} {b:Bool} {ty e d:Nat} (a:GR T τ=some (b,φ)) (c:ty<900000):abr T (some τ) ty e d=some ⟨.mp d e,[(d,some ⟨e,ty,[.mpc [] []],false,true,true⟩)]⟩:=by simp only[abr,pN,a];simp_all
def aer (x y:Option Ty) (d:D):Option cr :=
 match x,y,d with
 | some τ,some _,.int _ n=>(match τ.ds with | .int k=>some ⟨.int k (k.wrap n),[]⟩|_=>none)
 | _,_,_=>none
def JI (k:IntKind) (b c:Nat) (z:List Value) (q:Bool) (σ:Ty) (a:IntKind) (n:Int):aer (some ⟨.int k,b,c,z,q⟩) (some σ) (.int a n)=some ⟨.int k (k.wrap n),[]⟩:=al3
def ac9 (d:D) (i:Nat):Option cr:=match d with | .tup xs=>(match xs[i]? with|some d=>some ⟨d,[]⟩|none=>none)|_=>none
def Pr (xs:List D) (i:Nat):ac9 (.tup xs) i=okD xs[i]?:=by simp only[ac9,okD]
section
variable {T:Nat->Option Ty} {Γ:Env} {N F e:Nat} {ws:List W} {Q:Kt} {t:Nat->D} {h:Nat->Option Row}
def cA {x:Ex} : dL T Γ N F [] Q x t h e=Q x t h e:=al3
def Li:dL T Γ N F (.code .skip::ws) Q .normal t h e=dL T Γ N F ws Q .normal t h e:=al3
def Rz {a b:Code} : dL T Γ N F (.code (.seq a b)::ws) Q .normal t h e=dL T Γ N F (.code a :: .code b::ws) Q .normal t h e:=al3
def Ry:dL T Γ N F (.code .ret::ws) Q .normal t h e=dL T Γ N F ws Q .ret t h e:=al3
def Lg {id:Nat} : dL T Γ N F (.code (.exit id)::ws) Q .normal t h e=dL T Γ N F ws Q (.exit id) t h e:=al3
def HM {id:Nat} {b:Code} : dL T Γ N F (.code (.block id b)::ws) Q .normal t h e=dL T Γ N F (.code b :: .blk id::ws) Q .normal t h e:=al3
def Lh {b:Code} : dL T Γ N F (.code (.loop b)::ws) Q .normal t h e=Wm T Γ N F b ws Q t h e:=al3
def aY {c:Code} : dL T Γ N F (.code c::ws) Q .ret t h e=dL T Γ N F ws Q .ret t h e:=al3
def yp {c:Code} {n:Nat} : dL T Γ N F (.code c::ws) Q (.exit n) t h e=dL T Γ N F ws Q (.exit n) t h e:=al3
def wR {id:Nat} : dL T Γ N F (.blk id::ws) Q .normal t h e=dL T Γ N F ws Q .normal t h e:=al3
def bc {id:Nat} : dL T Γ N F (.blk id::ws) Q .ret t h e=dL T Γ N F ws Q .ret t h e:=al3
def zR {id n:Nat} : dL T Γ N F (.blk id::ws) Q (.exit n) t h e=if n=id then dL T Γ N F ws Q .normal t h e else dL T Γ N F ws Q (.exit n) t h e:=al3
def D9 {i:Nat} {ops:List Oper} : dL T Γ N F (.code (.region i ops.toArray false)::ws) Q .normal t h e=mL T Γ N F ops ops ws Q t h e:=al3
def HO {i:Nat} {ops:List Oper} : dL T Γ N F (.code (.region i ops.toArray true)::ws) Q .normal t h e=nS T Γ N F ops ops ws Q t h e []:=al3
def Lf {g:Nat} {x y:Code} : dL T Γ N F (.code (.cond (.tmp g) x y)::ws) Q .normal t h e=Nz T Γ N F (t g) g x y ws Q t h e:=al3
def HN {x y:Code} : dL T Γ N F (.code (.cond (.const (.bool false)) x y)::ws) Q .normal t h e=dL T Γ N F (.code y::ws) Q .normal t h e:=al3
def LJ {g:Nat} {x y:Code} (a:t g=.bool true):Nz T Γ N F (.bool true) g x y ws Q t h e=dL T Γ N F (.code x::ws) Q .normal t h e:=B4 a
def H6 {g:Nat} {x y:Code} (a:t g=.bool false):Nz T Γ N F (.bool false) g x y ws Q t h e=dL T Γ N F (.code y::ws) Q .normal t h e:=zi a
def YI {b:Bool} {g:Nat} {x y:Code} : Nz T Γ N F (.bool b) g x y ws Q t h e=br b (dL T Γ N F (.code x::ws) Q .normal (b8 t g (.bool true)) h e) (dL T Γ N F (.code y::ws) Q .normal (b8 t g (.bool false)) h e):=by
 unfold Nz;rw[acB];cases b<;>simp[br]
variable {ops l:List Oper} {dst:Option Nat} {op:Op} {ty:Nat} {pos:String} {af:Array Edge} {gd:Option (Nat×Bool)} {fs:List mE}
def Rw:mL T Γ N F ops [] ws Q t h e=dL T Γ N F ws Q .normal t h (e+1):=al3
def Ld (a:fits N dst=true):mL T Γ N F ops (⟨dst,op,ty,pos,af,none⟩::l) ws Q t h e=tw T Γ N F ⟨dst,op,ty,pos,af,none⟩ ops l ws Q t h e:=by
 simp only[mL,HL,wpG,a,true_and,tw]
def HJ {j:Nat} {a:Bool} (b:fits N dst=true) (c:BB ops j=true):mL T Γ N F ops (⟨dst,op,ty,pos,af,some (j,a)⟩::l) ws Q t h e=zw T Γ N F (t (xD ops j)) (xD ops j) a ⟨dst,op,ty,pos,af,none⟩ ops l ws Q t h e:=by
 simp only[mL,HL,wpG,b,true_and,FN ops j c,G6,zw]<;>cases a<;>rfl
def Sb {g:Nat} {a:Bool} {o:Oper} : zw T Γ N F .skp g a o ops l ws Q t h e=mL T Γ N F ops l ws Q (fP t o.dst .skp) h e:=al3
def LM {g:Nat} {o:Oper} (a:t g=.bool true):zw T Γ N F (.bool true) g true o ops l ws Q t h e=tw T Γ N F o ops l ws Q t h e:=(B7 a).trans (if_pos rfl)
def H7 {g:Nat} {o:Oper} (a:t g=.bool false):zw T Γ N F (.bool false) g true o ops l ws Q t h e=mL T Γ N F ops l ws Q (fP t o.dst .skp) h e:=(zj a).trans (if_pos rfl)
def H8 {g:Nat} {o:Oper} (a:t g=.bool true):zw T Γ N F (.bool true) g false o ops l ws Q t h e=mL T Γ N F ops l ws Q (fP t o.dst .skp) h e:=(B7 a).trans (if_neg (by decide))
def Eg {g:Nat} {o:Oper} (a:t g=.bool false):zw T Γ N F (.bool false) g false o ops l ws Q t h e=tw T Γ N F o ops l ws Q t h e:=(zj a).trans (if_neg (by decide))
def YJ {b:Bool} {g:Nat} {o:Oper} : zw T Γ N F (.bool b) g true o ops l ws Q t h e=br b (tw T Γ N F o ops l ws Q (b8 t g (.bool true)) h e) (mL T Γ N F ops l ws Q (fP (b8 t g (.bool false)) o.dst .skp) h e):=by
 unfold zw;rw[B6];cases b<;>simp[br]
def Uj {b:Bool} {g:Nat} {o:Oper} : zw T Γ N F (.bool b) g false o ops l ws Q t h e=br b (mL T Γ N F ops l ws Q (fP (b8 t g (.bool true)) o.dst .skp) h e) (tw T Γ N F o ops l ws Q (b8 t g (.bool false)) h e):=by
 unfold zw;rw[B6];cases b<;>simp[br]
def Rx:nS T Γ N F ops [] ws Q t h e fs=(FR ops.toArray fs=true∧dL T Γ N F ws Q .normal t h (e+1)):=al3
def Le (a:fits N dst=true):nS T Γ N F ops (⟨dst,op,ty,pos,af,none⟩::l) ws Q t h e fs=wJ T Γ N F ⟨dst,op,ty,pos,af,none⟩ ops l ws Q t h e fs:=by
 simp only[nS,runK,wpG,a,true_and,wJ]
def HK {j:Nat} {a:Bool} (b:fits N dst=true) (c:BB ops j=true):nS T Γ N F ops (⟨dst,op,ty,pos,af,some (j,a)⟩::l) ws Q t h e fs=zx T Γ N F (t (xD ops j)) (xD ops j) a ⟨dst,op,ty,pos,af,none⟩ ops l ws Q t h e fs:=by
 simp only[nS,runK,wpG,b,true_and,FN ops j c,G6,zx]<;>cases a<;>rfl
def Sc {g:Nat} {a:Bool} {o:Oper} : zx T Γ N F .skp g a o ops l ws Q t h e fs=nS T Γ N F ops l ws Q (fP t o.dst .skp) h e (fs++[⟨[],true⟩]):=al3
def LN {g:Nat} {o:Oper} (a:t g=.bool true):zx T Γ N F (.bool true) g true o ops l ws Q t h e fs=wJ T Γ N F o ops l ws Q t h e fs:=(B7 a).trans (if_pos rfl)
def Ia {g:Nat} {o:Oper} (a:t g=.bool false):zx T Γ N F (.bool false) g true o ops l ws Q t h e fs=nS T Γ N F ops l ws Q (fP t o.dst .skp) h e (fs++[⟨[],true⟩]):=(zj a).trans (if_pos rfl)
def Ib {g:Nat} {o:Oper} (a:t g=.bool true):zx T Γ N F (.bool true) g false o ops l ws Q t h e fs=nS T Γ N F ops l ws Q (fP t o.dst .skp) h e (fs++[⟨[],true⟩]):=(B7 a).trans (if_neg (by decide))
def Eh {g:Nat} {o:Oper} (a:t g=.bool false):zx T Γ N F (.bool false) g false o ops l ws Q t h e fs=wJ T Γ N F o ops l ws Q t h e fs:=(zj a).trans (if_neg (by decide))
def YK {b:Bool} {g:Nat} {o:Oper} : zx T Γ N F (.bool b) g true o ops l ws Q t h e fs=br b (wJ T Γ N F o ops l ws Q (b8 t g (.bool true)) h e fs) (nS T Γ N F ops l ws Q (fP (b8 t g (.bool false)) o.dst .skp) h e (fs++[⟨[],true⟩])):=by
 unfold zx;rw[B6];cases b<;>simp[br]
def Uk {b:Bool} {g:Nat} {o:Oper} : zx T Γ N F (.bool b) g false o ops l ws Q t h e fs=br b (nS T Γ N F ops l ws Q (fP (b8 t g (.bool true)) o.dst .skp) h e (fs++[⟨[],true⟩])) (wJ T Γ N F o ops l ws Q (b8 t g (.bool false)) h e fs):=by
 unfold zx;rw[B6];cases b<;>simp[br]
def RX {d:D} {a:List (Nat×Option Row)} : C8 T Γ N F (some ⟨d,a⟩) dst ops l ws Q t h e=mL T Γ N F ops l ws Q (fP t dst d) (aS h (mB h a)) e:=al3
def R1 {d:D} {a:List (Nat×Option Row)} {b:List Nat} : Nk T Γ N F (some ⟨d,a⟩) dst b ops l ws Q t h e fs=nS T Γ N F ops l ws Q (fP t dst d) (aS h (mB h a)) e (fs++[⟨b,(mB h a).isEmpty⟩]):=al3
def Wv {c:Prop} [Decidable c] {E:cr} : C8 T Γ N F (if c then some E else none) dst ops l ws Q t h e=(c∧C8 T Γ N F (some E) dst ops l ws Q t h e):=by
 by_cases a:c<;>simp[a,C8,HV,or2,u6]
def Wy {c:Prop} [Decidable c] {E:cr} {a:List Nat} : Nk T Γ N F (if c then some E else none) dst a ops l ws Q t h e fs=(c∧Nk T Γ N F (some E) dst a ops l ws Q t h e fs):=by
 by_cases b:c<;>simp[b,Nk,HW,or2,u6]
def Ls {E:cr} {y:Option cr} : HV T Γ N F (some E) y dst ops l ws Q t h e=C8 T Γ N F (some E) dst ops l ws Q t h e:=al3
def LA {E:cr} {y:Option cr} {a:List Nat} : HW T Γ N F (some E) y dst a ops l ws Q t h e fs=Nk T Γ N F (some E) dst a ops l ws Q t h e fs:=al3
def Lr {y:Option cr} : HV T Γ N F none y dst ops l ws Q t h e=Yy T Γ N F y dst ops l ws Q t h e:=al3
def Ly {y:Option cr} {a:List Nat} : HW T Γ N F none y dst a ops l ws Q t h e fs=ad4 T Γ N F y dst a ops l ws Q t h e fs:=al3
def Wu {x:Option cr} : HV T Γ N F x none dst ops l ws Q t h e=C8 T Γ N F x dst ops l ws Q t h e:=al3
def Wx {x:Option cr} {a:List Nat} : HW T Γ N F x none dst a ops l ws Q t h e fs=Nk T Γ N F x dst a ops l ws Q t h e fs:=al3
def Lt {d:D} {a:List (Nat×Option Row)} : Yy T Γ N F (some ⟨d,a⟩) dst ops l ws Q t h e=mL T Γ N F ops l ws Q (fP t dst d) (aS h a) e:=al3
def LC {d:D} {a:List (Nat×Option Row)} {b:List Nat} : ad4 T Γ N F (some ⟨d,a⟩) dst b ops l ws Q t h e fs=nS T Γ N F ops l ws Q (fP t dst d) (aS h a) e (fs++[⟨b,a.isEmpty⟩]):=al3
def Hw {g:Nat} {a b:Operand} (c:t g=.bool true):abG T Γ N F (.bool true) g a b dst ops l ws Q t h e=mL T Γ N F ops l ws Q (fP t dst (ev t a)) h e:=B4 c
def D6 {g:Nat} {a b:Operand} (c:t g=.bool false):abG T Γ N F (.bool false) g a b dst ops l ws Q t h e=mL T Γ N F ops l ws Q (fP t dst (ev t b)) h e:=zi c
def Hy {g:Nat} {a b:Operand} (c:t g=.bool true):abH T Γ N F (.bool true) g a b dst ops l ws Q t h e fs=nS T Γ N F ops l ws Q (fP t dst (ev t a)) h e (fs++[⟨[],true⟩]):=B4 c
def D7 {g:Nat} {a b:Operand} (c:t g=.bool false):abH T Γ N F (.bool false) g a b dst ops l ws Q t h e fs=nS T Γ N F ops l ws Q (fP t dst (ev t b)) h e (fs++[⟨[],true⟩]):=zi c
def OX {c:Nat} {a b:Operand} : tw T Γ N F ⟨dst,.pick (.tmp c) a b,ty,pos,af,gd⟩ ops l ws Q t h e=abG T Γ N F (t c) c a b dst ops l ws Q t h e:=al3
def O3 {c:Nat} {a b:Operand} : wJ T Γ N F ⟨dst,.pick (.tmp c) a b,ty,pos,af,gd⟩ ops l ws Q t h e fs=abH T Γ N F (t c) c a b dst ops l ws Q t h e fs:=al3
def Bc {x y:Option cr} (i:∀c a b,op ≠ .pick c a b) (j:iX T Γ e ⟨dst,op,ty,pos,af,gd⟩ (ev t)=none) (d:qE Γ e h dst (jA (ev t) op)=none) (f:tx T Γ e ⟨dst,op,ty,pos,af,gd⟩ (ev t) (EH h)=x) (g:xK T Γ e ⟨dst,op,ty,pos,af,gd⟩ (ev t) h=y):tw T Γ N F ⟨dst,op,ty,pos,af,gd⟩ ops l ws Q t h e=HV T Γ N F x y dst ops l ws Q t h e:=by
 subst f;subst g;unfold tw HV Sm rR;simp_all
def Bg {x y:Option cr} (i:∀c a b,op ≠ .pick c a b) (j:iX T Γ e ⟨dst,op,ty,pos,af,gd⟩ (ev t)=none) (d:qE Γ e h dst (jA (ev t) op)=none) (f:tx T Γ e ⟨dst,op,ty,pos,af,gd⟩ (ev t) (EH h)=x) (g:xK T Γ e ⟨dst,op,ty,pos,af,gd⟩ (ev t) h=y):wJ T Γ N F ⟨dst,op,ty,pos,af,gd⟩ ops l ws Q t h e fs=HW T Γ N F x y dst (cW ⟨dst,op,ty,pos,af,gd⟩ (ev t)) ops l ws Q t h e fs:=by
 subst f;subst g;unfold wJ HW Sm rR;simp_all
def gG {x:Option cr} (f:∀c a b,op ≠ .pick c a b) (g:tx T Γ e ⟨dst,op,ty,pos,af,gd⟩ (ev t) (EH h)=x) (i:iX T Γ e ⟨dst,op,ty,pos,af,gd⟩ (ev t)=none:=by rfl) (j:xK T Γ e ⟨dst,op,ty,pos,af,gd⟩ (ev t) h=none:=by rfl) (d:qE Γ e h dst (jA (ev t) op)=none:=by first|rfl|(cases dst<;>rfl)):tw T Γ N F ⟨dst,op,ty,pos,af,gd⟩ ops l ws Q t h e=C8 T Γ N F x dst ops l ws Q t h e:=Bc f i d g j
def lU {x:Option cr} (f:∀c a b,op ≠ .pick c a b) (g:tx T Γ e ⟨dst,op,ty,pos,af,gd⟩ (ev t) (EH h)=x) (i:iX T Γ e ⟨dst,op,ty,pos,af,gd⟩ (ev t)=none:=by rfl) (j:xK T Γ e ⟨dst,op,ty,pos,af,gd⟩ (ev t) h=none:=by rfl) (d:qE Γ e h dst (jA (ev t) op)=none:=by first|rfl|(cases dst<;>rfl)):wJ T Γ N F ⟨dst,op,ty,pos,af,gd⟩ ops l ws Q t h e fs=Nk T Γ N F x dst (cW ⟨dst,op,ty,pos,af,gd⟩ (ev t)) ops l ws Q t h e fs:=Bg f i d g j
def OW {x:Operand} : tw T Γ N F ⟨dst,.move x,ty,pos,af,gd⟩ ops l ws Q t h e=mL T Γ N F ops l ws Q (fP t dst (ev t x)) h e:=(gG (fun _ _ _ a=>by cases a) rfl).trans rfl
def O2 {x:Operand} : wJ T Γ N F ⟨dst,.move x,ty,pos,af,gd⟩ ops l ws Q t h e fs=nS T Γ N F ops l ws Q (fP t dst (ev t x)) h e (fs++[⟨[],true⟩]):=(lU (fun _ _ _ a=>by cases a) rfl).trans rfl
def JM {o:BinOp} {a z:Nat} {x y:Operand} : tw T Γ N F ⟨dst,.binOp o a x y z,ty,pos,af,gd⟩ ops l ws Q t h e=C8 T Γ N F (okD (Fo T a o (ev t x) (ev t y))) dst ops l ws Q t h e:=gG (fun _ _ _ b=>by cases b) (by simp only[tx];first|rfl|(cases Fo T a o (ev t x) (ev t y)<;>rfl))
def JT {o:BinOp} {a z:Nat} {x y:Operand} : wJ T Γ N F ⟨dst,.binOp o a x y z,ty,pos,af,gd⟩ ops l ws Q t h e fs=Nk T Γ N F (okD (Fo T a o (ev t x) (ev t y))) dst (cW ⟨dst,.binOp o a x y z,ty,pos,af,gd⟩ (ev t)) ops l ws Q t h e fs:=lU (fun _ _ _ b=>by cases b) (by simp only[tx];first|rfl|(cases Fo T a o (ev t x) (ev t y)<;>rfl))
def OY {o:UnOp} {a:Nat} {x:Operand} : tw T Γ N F ⟨dst,.unOp o a x,ty,pos,af,gd⟩ ops l ws Q t h e=C8 T Γ N F (okD (YM o (ev t x))) dst ops l ws Q t h e:=gG (fun _ _ _ b=>by cases b) (by simp only[tx];first|rfl|(cases YM o (ev t x)<;>rfl))
def O4 {o:UnOp} {a:Nat} {x:Operand} : wJ T Γ N F ⟨dst,.unOp o a x,ty,pos,af,gd⟩ ops l ws Q t h e fs=Nk T Γ N F (okD (YM o (ev t x))) dst (cW ⟨dst,.unOp o a x,ty,pos,af,gd⟩ (ev t)) ops l ws Q t h e fs:=lU (fun _ _ _ b=>by cases b) (by simp only[tx];first|rfl|(cases YM o (ev t x)<;>rfl))
def FG {x:Operand} : tw T Γ N F ⟨dst,.assign x,ty,pos,af,gd⟩ ops l ws Q t h e=C8 T Γ N F (uo T Γ.own ty e dst (EH h) (ev t x)) dst ops l ws Q t h e:=gG (fun _ _ _ a=>by cases a) rfl
def FI {x:Operand} : wJ T Γ N F ⟨dst,.assign x,ty,pos,af,gd⟩ ops l ws Q t h e fs=Nk T Γ N F (uo T Γ.own ty e dst (EH h) (ev t x)) dst (cW ⟨dst,.assign x,ty,pos,af,gd⟩ (ev t)) ops l ws Q t h e fs:=lU (fun _ _ _ a=>by cases a) rfl
def Be {f:Nat} {first caps:List Operand} : tw T Γ N F ⟨dst,.makeFunc (.func f) first.toArray caps.toArray,ty,pos,af,gd⟩ ops l ws Q t h e=C8 T Γ N F (if (first.map (ev t)++caps.map (ev t)).all tW then some ⟨.clo f first.length (first.map (ev t)++caps.map (ev t)),[]⟩ else none) dst ops l ws Q t h e:=gG (fun _ _ _ a=>by cases a) rfl
def OU {a:Nat} {x:Operand} : tw T Γ N F ⟨dst,.load a x,ty,pos,af,gd⟩ ops l ws Q t h e=HV T Γ N F (Ht (T a) fun τ=>sM τ (EH h) (ev t x)) (Ht (T a) fun τ=>xJ τ h (ev t x)) dst ops l ws Q t h e:=Bc (fun _ _ _ b=>by cases b) rfl (by cases dst<;>rfl) (by simp only[tx];first|rfl|(cases T a<;>rfl)) (by simp only[xK];first|rfl|(cases T a<;>rfl))
def O0 {a:Nat} {x:Operand} : wJ T Γ N F ⟨dst,.load a x,ty,pos,af,gd⟩ ops l ws Q t h e fs=HW T Γ N F (Ht (T a) fun τ=>sM τ (EH h) (ev t x)) (Ht (T a) fun τ=>xJ τ h (ev t x)) dst (cW ⟨dst,.load a x,ty,pos,af,gd⟩ (ev t)) ops l ws Q t h e fs:=Bg (fun _ _ _ b=>by cases b) rfl (by cases dst<;>rfl) (by simp only[tx];first|rfl|(cases T a<;>rfl)) (by simp only[xK];first|rfl|(cases T a<;>rfl))
def JR {a:Nat} {x y:Operand} : tw T Γ N F ⟨dst,.store a x y,ty,pos,af,gd⟩ ops l ws Q t h e=HV T Γ N F (Ht (T a) fun τ=>iJ τ (EH h) (ev t x) (ev t y)) (Ht (T a) fun τ=>xL τ e h (ev t x) (ev t y)) dst ops l ws Q t h e:=Bc (fun _ _ _ b=>by cases b) rfl (by cases dst<;>rfl) (by simp only[tx];first|rfl|(cases T a<;>rfl)) (by simp only[xK];first|rfl|(cases T a<;>rfl))
def JW {a:Nat} {x y:Operand} : wJ T Γ N F ⟨dst,.store a x y,ty,pos,af,gd⟩ ops l ws Q t h e fs=HW T Γ N F (Ht (T a) fun τ=>iJ τ (EH h) (ev t x) (ev t y)) (Ht (T a) fun τ=>xL τ e h (ev t x) (ev t y)) dst (cW ⟨dst,.store a x y,ty,pos,af,gd⟩ (ev t)) ops l ws Q t h e fs:=Bg (fun _ _ _ b=>by cases b) rfl (by cases dst<;>rfl) (by simp only[tx];first|rfl|(cases T a<;>rfl)) (by simp only[xK];first|rfl|(cases T a<;>rfl))
def Bf {x:Operand} : tw T Γ N F ⟨dst,.nilCheck x,ty,pos,af,gd⟩ ops l ws Q t h e=C8 T Γ N F (pO (EH h) (ev t x)) dst ops l ws Q t h e:=gG (fun _ _ _ a=>by cases a) rfl
def Bh {x:Operand} : wJ T Γ N F ⟨dst,.nilCheck x,ty,pos,af,gd⟩ ops l ws Q t h e fs=Nk T Γ N F (pO (EH h) (ev t x)) dst (cW ⟨dst,.nilCheck x,ty,pos,af,gd⟩ (ev t)) ops l ws Q t h e fs:=lU (fun _ _ _ a=>by cases a) rfl
def zB {a i:Nat} {x:Operand} : tw T Γ N F ⟨dst,.fieldAddr a x i,ty,pos,af,gd⟩ ops l ws Q t h e=C8 T Γ N F (Ht (T a) fun τ=>gN T τ (EH h) i (ev t x)) dst ops l ws Q t h e:=gG (fun _ _ _ b=>by cases b) (by simp only[tx];first|rfl|(cases T a<;>rfl))
def zH {a i:Nat} {x:Operand} : wJ T Γ N F ⟨dst,.fieldAddr a x i,ty,pos,af,gd⟩ ops l ws Q t h e fs=Nk T Γ N F (Ht (T a) fun τ=>gN T τ (EH h) i (ev t x)) dst (cW ⟨dst,.fieldAddr a x i,ty,pos,af,gd⟩ (ev t)) ops l ws Q t h e fs:=lU (fun _ _ _ b=>by cases b) (by simp only[tx];first|rfl|(cases T a<;>rfl))
def zC {a:Nat} {x i:Operand} : tw T Γ N F ⟨dst,.indexAddr a x i,ty,pos,af,gd⟩ ops l ws Q t h e=C8 T Γ N F (Ht (T a) fun τ=>cU T τ (EH h) (ev t x) (ev t i)) dst ops l ws Q t h e:=gG (fun _ _ _ b=>by cases b) (by simp only[tx];first|rfl|(cases T a<;>rfl))
def zI {a:Nat} {x i:Operand} : wJ T Γ N F ⟨dst,.indexAddr a x i,ty,pos,af,gd⟩ ops l ws Q t h e fs=Nk T Γ N F (Ht (T a) fun τ=>cU T τ (EH h) (ev t x) (ev t i)) dst (cW ⟨dst,.indexAddr a x i,ty,pos,af,gd⟩ (ev t)) ops l ws Q t h e fs:=lU (fun _ _ _ b=>by cases b) (by simp only[tx];first|rfl|(cases T a<;>rfl))
def JO {a:Nat} {x i:Operand} : tw T Γ N F ⟨dst,.index a x i,ty,pos,af,gd⟩ ops l ws Q t h e=C8 T Γ N F (Ht (T a) fun τ=>mU T τ (ev t x) (ev t i)) dst ops l ws Q t h e:=gG (fun _ _ _ b=>by cases b) (by simp only[tx];first|rfl|(cases T a<;>rfl))
def JP {a:Nat} {x:Operand} {b c d:Option Operand} : tw T Γ N F ⟨dst,.slice a x b c d,ty,pos,af,gd⟩ ops l ws Q t h e=C8 T Γ N F (Ht (T a) fun τ=>iI T τ (EH h) (ev t x) (b.map (ev t)) (c.map (ev t)) (d.map (ev t))) dst ops l ws Q t h e:=gG (fun _ _ _ f=>by cases f) (by simp only[tx];first|rfl|(cases T a<;>rfl))
def JN {a:Nat} {b:List (Nat×Operand)} : tw T Γ N F ⟨dst,.build a b.toArray,ty,pos,af,gd⟩ ops l ws Q t h e=C8 T Γ N F (Ht (T a) fun τ=>sK Γ.own T τ (EH h) dst (b.map fun p=>(p.1,ev t p.2))) dst ops l ws Q t h e:=gG (fun _ _ _ c=>by cases c) (by simp only[tx];first|rfl|(cases T a<;>rfl))
def JU {a:Nat} {b:List (Nat×Operand)} : wJ T Γ N F ⟨dst,.build a b.toArray,ty,pos,af,gd⟩ ops l ws Q t h e fs=Nk T Γ N F (Ht (T a) fun τ=>sK Γ.own T τ (EH h) dst (b.map fun p=>(p.1,ev t p.2))) dst (cW ⟨dst,.build a b.toArray,ty,pos,af,gd⟩ (ev t)) ops l ws Q t h e fs:=lU (fun _ _ _ c=>by cases c) (by simp only[tx];first|rfl|(cases T a<;>rfl))
def xA {a len d:Nat} {b:List (Nat×Operand)} : tw T Γ N F ⟨some d,.buildSlice a len b.toArray,ty,pos,af,gd⟩ ops l ws Q t h e=C8 T Γ N F (Ht (T a) fun τ=>fc T τ (EH h) e d len (b.map fun p=>(p.1,ev t p.2))) (some d) ops l ws Q t h e:=gG (fun _ _ _ c=>by cases c) (by simp only[tx];first|rfl|(cases T a<;>rfl))
def xB {a len d:Nat} {b:List (Nat×Operand)} : wJ T Γ N F ⟨some d,.buildSlice a len b.toArray,ty,pos,af,gd⟩ ops l ws Q t h e fs=Nk T Γ N F (Ht (T a) fun τ=>fc T τ (EH h) e d len (b.map fun p=>(p.1,ev t p.2))) (some d) (cW ⟨some d,.buildSlice a len b.toArray,ty,pos,af,gd⟩ (ev t)) ops l ws Q t h e fs:=lU (fun _ _ _ c=>by cases c) (by simp only[tx];first|rfl|(cases T a<;>rfl))
def GW (T:Nat->Option Ty) (e d a:Nat) (x y:D):Option (Nat×Nat×Nat)->Option cr
 | some p=>(match T a with|some τ=>rn T τ e d p.1 p.2.1 p.2.2 x y|none=>none)
 | none=>none
def KG {d a:Nat} {x y:D} : GW T e d a x y none=none:=al3
def KH {d a:Nat} {x y:D} {p:Nat×Nat×Nat} {τ:Ty} (b:T a=some τ):GW T e d a x y (some p)=rn T τ e d p.1 p.2.1 p.2.2 x y:=by simp only[GW,b]
def stM (y x:Option cr) (dst:Option Nat) (ops l:List Oper) (ws:List W) (Q:Kt) (t:Nat->D) (h:Nat->Option Row) (e:Nat):Prop :=
 match y with
 | some E=>Yy T Γ N F (some E) dst ops l ws Q t h e
 | none=>C8 T Γ N F x dst ops l ws Q t h e
def afU (y x:Option cr) (dst:Option Nat) (a:List Nat) (ops l:List Oper) (ws:List W) (Q:Kt) (t:Nat->D) (h:Nat->Option Row) (e:Nat) (fs:List mE):Prop :=
 match y with
 | some E=>ad4 T Γ N F (some E) dst a ops l ws Q t h e fs
 | none=>Nk T Γ N F x dst a ops l ws Q t h e fs
def zD {a d:Nat} {x y:Operand} : tw T Γ N F ⟨some d,.makeSlice a x y,ty,pos,af,gd⟩ ops l ws Q t h e=stM (T:=T) (Γ:=Γ) (N:=N) (F:=F) (GW T e d a (ev t x) (ev t y) (Γ.nst d)) (Ht (T a) fun τ=>tP T τ e d (ev t x) (ev t y)) (some d) ops l ws Q t h e:=by
 have b:iX T Γ e ⟨some d,.makeSlice a x y,ty,pos,af,gd⟩ (ev t)=GW T e d a (ev t x) (ev t y) (Γ.nst d):=by
  unfold iX GW;grind
 cases c:GW T e d a (ev t x) (ev t y) (Γ.nst d) with
 | none=>exact gG (fun _ _ _ f=>by cases f) (by simp only[tx];first|rfl|(cases T a<;>rfl)) (b.trans c)
 | some E=>unfold tw Sm rR;rw[b,c];rfl
def zJ {a d:Nat} {x y:Operand} : wJ T Γ N F ⟨some d,.makeSlice a x y,ty,pos,af,gd⟩ ops l ws Q t h e fs=afU (T:=T) (Γ:=Γ) (N:=N) (F:=F) (GW T e d a (ev t x) (ev t y) (Γ.nst d)) (Ht (T a) fun τ=>tP T τ e d (ev t x) (ev t y)) (some d) (cW ⟨some d,.makeSlice a x y,ty,pos,af,gd⟩ (ev t)) ops l ws Q t h e fs:=by
 have b:iX T Γ e ⟨some d,.makeSlice a x y,ty,pos,af,gd⟩ (ev t)=GW T e d a (ev t x) (ev t y) (Γ.nst d):=by
  unfold iX GW;grind
 cases c:GW T e d a (ev t x) (ev t y) (Γ.nst d) with
 | none=>exact lU (fun _ _ _ f=>by cases f) (by simp only[tx];first|rfl|(cases T a<;>rfl)) (b.trans c)
 | some E=>unfold wJ Sm rR;rw[b,c];rfl
def RY {x:Option cr} : stM (T:=T) (Γ:=Γ) (N:=N) (F:=F) none x dst ops l ws Q t h e=C8 T Γ N F x dst ops l ws Q t h e:=al3
def Lu {x:Option cr} {a:List Nat} : afU (T:=T) (Γ:=Γ) (N:=N) (F:=F) none x dst a ops l ws Q t h e fs=Nk T Γ N F x dst a ops l ws Q t h e fs:=al3
def RZ {x:Option cr} {E:cr} : stM (T:=T) (Γ:=Γ) (N:=N) (F:=F) (some E) x dst ops l ws Q t h e=Yy T Γ N F (some E) dst ops l ws Q t h e:=al3
def ZB (T:Nat->Option Ty) (e d a:Nat):Option (Nat×Nat×Nat)->Option cr
 | some p=>(match T a with|some τ=>mkA τ a e d p.1 p.2.1 p.2.2|none=>none)
 | none=>none
def N2 {d a:Nat} : ZB T e d a none=none:=al3
def N3 {d a:Nat} {p:Nat×Nat×Nat} {τ:Ty} (b:T a=some τ):ZB T e d a (some p)=mkA τ a e d p.1 p.2.1 p.2.2:=by simp only[ZB,b]
def JL {a d:Nat} : tw T Γ N F ⟨some d,.alloc a,ty,pos,af,gd⟩ ops l ws Q t h e=stM (T:=T) (Γ:=Γ) (N:=N) (F:=F) (ZB T e d a (Γ.nst d)) (Fh (T a) a d e (Γ.hint d)) (some d) ops l ws Q t h e:=by
 have b:iX T Γ e ⟨some d,.alloc a,ty,pos,af,gd⟩ (ev t)=ZB T e d a (Γ.nst d):=by
  unfold iX ZB;grind
 cases c:ZB T e d a (Γ.nst d) with
 | none=>exact gG (fun _ _ _ f=>by cases f) (by simp only[tx];cases T a with|none=>rfl|some τ=>(dsimp only[Fh];cases Γ.hint d<;>rfl)) (b.trans c)
 | some E=>unfold tw Sm rR;rw[b,c];rfl
def JS {a d:Nat} : wJ T Γ N F ⟨some d,.alloc a,ty,pos,af,gd⟩ ops l ws Q t h e fs=afU (T:=T) (Γ:=Γ) (N:=N) (F:=F) (ZB T e d a (Γ.nst d)) (Fh (T a) a d e (Γ.hint d)) (some d) (cW ⟨some d,.alloc a,ty,pos,af,gd⟩ (ev t)) ops l ws Q t h e fs:=by
 have b:iX T Γ e ⟨some d,.alloc a,ty,pos,af,gd⟩ (ev t)=ZB T e d a (Γ.nst d):=by
  unfold iX ZB;grind
 cases c:ZB T e d a (Γ.nst d) with
 | none=>exact lU (fun _ _ _ f=>by cases f) (by simp only[tx];cases T a with|none=>rfl|some τ=>(dsimp only[Fh];cases Γ.hint d<;>rfl)) (b.trans c)
 | some E=>unfold wJ Sm rR;rw[b,c];rfl
def DD {a d:Nat} : tw T Γ N F ⟨some d,.makeMap a none,ty,pos,af,gd⟩ ops l ws Q t h e=C8 T Γ N F (abr T (T a) a e d) (some d) ops l ws Q t h e:=gG (fun _ _ _ b=>by cases b) (by simp only[tx];first|rfl|(cases T a<;>rfl))
def FH {a:Nat} {m i:Operand} {b:Bool} : tw T Γ N F ⟨dst,.lookup a m i b,ty,pos,af,gd⟩ ops l ws Q t h e=C8 T Γ N F (Ht (T a) fun τ=>je T τ (EH h) (ev t m) (ev t i) b) dst ops l ws Q t h e:=gG (fun _ _ _ c=>by cases c) (by simp only[tx];first|rfl|(cases T a<;>rfl))
def zG {a:Nat} {m i x:Operand} : tw T Γ N F ⟨dst,.mapUpdate a m i x,ty,pos,af,gd⟩ ops l ws Q t h e=C8 T Γ N F (Ht (T a) fun τ=>eM T τ (EH h) (ev t m) (ev t i) (ev t x)) dst ops l ws Q t h e:=gG (fun _ _ _ b=>by cases b) (by simp only[tx];first|rfl|(cases T a<;>rfl))
def Vf {a d:Nat} {x:Operand} : tw T Γ N F ⟨some d,.box a x,ty,pos,af,gd⟩ ops l ws Q t h e=C8 T Γ N F (agF (gL (EH h) (ev t x)) (EH h) a d e) (some d) ops l ws Q t h e:=gG (fun _ _ _ b=>by cases b) (by simp only[tx];first|rfl|(cases gL (EH h) (ev t x)<;>rfl))
def DB {a b:Nat} {x:Operand} : tw T Γ N F ⟨dst,.convert a b x,ty,pos,af,gd⟩ ops l ws Q t h e=C8 T Γ N F (aer (T b) (T a) (ev t x)) dst ops l ws Q t h e:=gG (fun _ _ _ c=>by cases c) rfl
def DC {x:Nat} {i:Nat} : tw T Γ N F ⟨dst,.extract (.tmp x) i,ty,pos,af,gd⟩ ops l ws Q t h e=C8 T Γ N F (ac9 (t x) i) dst ops l ws Q t h e:=gG (fun _ _ _ a=>by cases a) rfl
def DF {x:Nat} {i:Nat} : wJ T Γ N F ⟨dst,.extract (.tmp x) i,ty,pos,af,gd⟩ ops l ws Q t h e fs=Nk T Γ N F (ac9 (t x) i) dst (cW ⟨dst,.extract (.tmp x) i,ty,pos,af,gd⟩ (ev t)) ops l ws Q t h e fs:=lU (fun _ _ _ a=>by cases a) rfl
def cnL (Γ:Env) (e:Nat) (h:Nat->Option Row) (g:Nat) (a:List D):Option (Nat×(Nat->Nat->Nat->Nat->List D->List D->Option (D×List D)))->Option cr
 | some _=>uR Γ e h g a
 | none=>none
def OM {g:Nat} {a:List D} : cnL Γ e h g a none=none:=al3
def ON {g:Nat} {a:List D} {p:Nat×(Nat->Nat->Nat->Nat->List D->List D->Option (D×List D))} : cnL Γ e h g a (some p)=uR Γ e h g a:=al3
def aav {g:Nat} {a:List D} : DN Γ e h (some (.fn g,a))=cnL Γ e h g a (Γ.nx.lnd g):=by
 cases c:Γ.nx.lnd g with
 | some p=>rfl
 | none =>
  show uR Γ e h g a=none;cases b:uR Γ e h g a with
  | none=>rfl
  | some E =>
   obtain⟨_,_,_,_,_,_,_,_,_,_,_,_,_,_,_,_,d,_⟩:=vN b;simp_all
def Vj {f k:Nat} {xs a:List D} : DN Γ e h (some (.clo f k xs,a))=none:=al3
def aau {d g:Nat} {a:List D} : qE Γ e h (some d) (some (.fn g,a))=F0 e d h a (Γ.nx.res g):=al3
def Vi {dst:Option Nat} {f k:Nat} {xs a:List D} : qE Γ e h dst (some (.clo f k xs,a))=none:=by cases dst<;>rfl
def O8 {d:Nat} {a:List D} : F0 e d h a none=none:=al3
def O9 {d:Nat} {a:List D} {p:List D->Option (Nat×Nat×Nat×Nat×Nat×List D)} : F0 e d h a (some p)=Jw p e d (bS (EH h) a):=al3
def Oj {d:Nat} {ajj:List D} {p:List D->Option (Nat×Nat×Nat×Nat×Nat×List D)} : Jw p e d (some (ajj,[]))=L9 e d (p ajj):=al3
def Jy {d ty a s S n:Nat} {cs:List D} (b:d<1000000):L9 e d (some (ty,a,s,S,n,cs))=some ⟨.buf d e S 0 n,[(d,some ⟨e,ty,[.nr a s (4*e+2) cs],false,true,true⟩)]⟩:=if_pos (by rw[du];exact b)
def stC (a x y:Option cr) (dst:Option Nat) (ops l:List Oper) (ws:List W) (Q:Kt) (t:Nat->D) (h:Nat->Option Row) (e:Nat):Prop :=
 match a with
 | some E=>Yy T Γ N F (some E) dst ops l ws Q t h e
 | none=>HV T Γ N F x y dst ops l ws Q t h e
def ahC (b x y:Option cr) (dst:Option Nat) (a:List Nat) (ops l:List Oper) (ws:List W) (Q:Kt) (t:Nat->D) (h:Nat->Option Row) (e:Nat) (fs:List mE):Prop :=
 match b with
 | some E=>ad4 T Γ N F (some E) dst a ops l ws Q t h e fs
 | none=>HW T Γ N F x y dst a ops l ws Q t h e fs
def RV {x y:Option cr} : stC (T:=T) (Γ:=Γ) (N:=N) (F:=F) none x y dst ops l ws Q t h e=HV T Γ N F x y dst ops l ws Q t h e:=al3
def Lq {x y:Option cr} {a:List Nat} : ahC (T:=T) (Γ:=Γ) (N:=N) (F:=F) none x y dst a ops l ws Q t h e fs=HW T Γ N F x y dst a ops l ws Q t h e fs:=al3
def RW {x y:Option cr} {E:cr} : stC (T:=T) (Γ:=Γ) (N:=N) (F:=F) (some E) x y dst ops l ws Q t h e=Yy T Γ N F (some E) dst ops l ws Q t h e:=al3
def OT {x:Operand} {ajj:List Operand} {a:Array Nat} : tw T Γ N F ⟨dst,.call ⟨.value x,ajj.toArray,a⟩,ty,pos,af,gd⟩ ops l ws Q t h e=stC (T:=T) (Γ:=Γ) (N:=N) (F:=F) (qE Γ e h dst (some (ev t x,ajj.map (ev t)))) (jL Γ (EH h) e dst (ev t x) (ajj.map (ev t))) (DN Γ e h (some (ev t x,ajj.map (ev t)))) dst ops l ws Q t h e:=by
 have b:jA (ev t) (.call ⟨.value x,ajj.toArray,a⟩)=some (ev t x,ajj.map (ev t)):=rfl;cases c:qE Γ e h dst (some (ev t x,ajj.map (ev t))) with
 | none=>exact Bc (fun _ _ _ d=>by cases d) rfl (by rw[b];exact c) rfl rfl
 | some E=>unfold tw Sm rR;simp only[iX,b,c];rfl
def OZ {x:Operand} {ajj:List Operand} {a:Array Nat} : wJ T Γ N F ⟨dst,.call ⟨.value x,ajj.toArray,a⟩,ty,pos,af,gd⟩ ops l ws Q t h e fs=ahC (T:=T) (Γ:=Γ) (N:=N) (F:=F) (qE Γ e h dst (some (ev t x,ajj.map (ev t)))) (jL Γ (EH h) e dst (ev t x) (ajj.map (ev t))) (DN Γ e h (some (ev t x,ajj.map (ev t)))) dst (cW ⟨dst,.call ⟨.value x,ajj.toArray,a⟩,ty,pos,af,gd⟩ (ev t)) ops l ws Q t h e fs:=by
 have b:jA (ev t) (.call ⟨.value x,ajj.toArray,a⟩)=some (ev t x,ajj.map (ev t)):=rfl;cases c:qE Γ e h dst (some (ev t x,ajj.map (ev t))) with
 | none=>exact Bg (fun _ _ _ d=>by cases d) rfl (by rw[b];exact c) rfl rfl
 | some E=>unfold wJ Sm rR;simp only[iX,b,c];rfl
def DA {x:Builtin} {ajj:List Operand} {a:List Nat} : tw T Γ N F ⟨dst,.call ⟨.builtin x,ajj.toArray,a.toArray⟩,ty,pos,af,gd⟩ ops l ws Q t h e=C8 T Γ N F (ez T (EH h) e dst x a (ajj.map (ev t))) dst ops l ws Q t h e:=gG (fun _ _ _ b=>by cases b) rfl
def DE {x:Builtin} {ajj:List Operand} {a:List Nat} : wJ T Γ N F ⟨dst,.call ⟨.builtin x,ajj.toArray,a.toArray⟩,ty,pos,af,gd⟩ ops l ws Q t h e fs=Nk T Γ N F (ez T (EH h) e dst x a (ajj.map (ev t))) dst (cW ⟨dst,.call ⟨.builtin x,ajj.toArray,a.toArray⟩,ty,pos,af,gd⟩ (ev t)) ops l ws Q t h e fs:=lU (fun _ _ _ b=>by cases b) rfl
def bP {o:Array Oper} {A:Prop} (a:FR o fs=true) (b:A):FR o fs=true∧A:=⟨a,b⟩
def ax {b:Bool} {g:Nat} {x y:Code} (a:b=true->dL T Γ N F (.code x::ws) Q .normal (b8 t g (.bool true)) h e) (c:b=false->dL T Γ N F (.code y::ws) Q .normal (b8 t g (.bool false)) h e):Nz T Γ N F (.bool b) g x y ws Q t h e:=by rw[YI];exact⟨a,c⟩
def ik {b:Bool} {g:Nat} {o:Oper} (a:b=true->tw T Γ N F o ops l ws Q (b8 t g (.bool true)) h e) (c:b=false->mL T Γ N F ops l ws Q (fP (b8 t g (.bool false)) o.dst .skp) h e):zw T Γ N F (.bool b) g true o ops l ws Q t h e:=by rw[YJ];exact⟨a,c⟩
def bF {b:Bool} {g:Nat} {o:Oper} (a:b=true->mL T Γ N F ops l ws Q (fP (b8 t g (.bool true)) o.dst .skp) h e) (c:b=false->tw T Γ N F o ops l ws Q (b8 t g (.bool false)) h e):zw T Γ N F (.bool b) g false o ops l ws Q t h e:=by rw[Uj];exact⟨a,c⟩
def E3 {b:Bool} {g:Nat} {o:Oper} (a:b=true->wJ T Γ N F o ops l ws Q (b8 t g (.bool true)) h e fs) (c:b=false->nS T Γ N F ops l ws Q (fP (b8 t g (.bool false)) o.dst .skp) h e (fs++[⟨[],true⟩])):zx T Γ N F (.bool b) g true o ops l ws Q t h e fs:=by rw[YK];exact⟨a,c⟩
def H9 {b:Bool} {g:Nat} {o:Oper} (a:b=true->nS T Γ N F ops l ws Q (fP (b8 t g (.bool true)) o.dst .skp) h e (fs++[⟨[],true⟩])) (c:b=false->wJ T Γ N F o ops l ws Q (b8 t g (.bool false)) h e fs):zx T Γ N F (.bool b) g false o ops l ws Q t h e fs:=by rw[Uk];exact⟨a,c⟩
def aaC (a:Mode) (T:Nat->Option Ty) (lent:Option (D×Row)) (rs:List ResultVar) (r:RK×Option Row):Kt:=fun x t h e=>afm a T lent rs x t h e r
def DP {a:Mode} {lent:Option (D×Row)} {rs:List ResultVar} {r:RK×Option Row} : aaC a T lent rs r .normal t h e=(gu a T lent rs ⟨t,EH h,e⟩=some r):=al3
def cI {a:Mode} {lent:Option (D×Row)} {rs:List ResultVar} {r:RK×Option Row} : aaC a T lent rs r .ret t h e=(gu a T lent rs ⟨t,EH h,e⟩=some r):=al3
def Vp (T:Nat->Option Ty) (ty a s:Nat) (rs:List ResultVar) (r:D×List D):Kt:=fun x t h e =>
 match x with
 | .exit _=>False
 | _=>XE T ty a s rs ⟨t,h,e⟩=some r
def Bv {ty a s:Nat} {rs:List ResultVar} {r:D×List D} : Vp T ty a s rs r .normal t h e=(XE T ty a s rs ⟨t,h,e⟩=some r):=al3
def J5 {ty a s:Nat} {rs:List ResultVar} {r:D×List D} : Vp T ty a s rs r .ret t h e=(XE T ty a s rs ⟨t,h,e⟩=some r):=al3
def aaA (rs:List ResultVar) (r:Nat×Nat×Nat×Nat×Nat×List D):Kt:=fun x t h e =>
 match x with
 | .exit _=>False
 | _=>aay rs ⟨t,h,e⟩=some r
def J4 {rs:List ResultVar} {r:Nat×Nat×Nat×Nat×Nat×List D} : aaA rs r .ret t h e=(aay rs ⟨t,h,e⟩=some r):=al3
def Vr {ty a s:Nat} {rs:List ResultVar} : XE T ty a s rs ⟨t,h,e⟩=Pm ty a s (xc T ⟨t,EH h,e⟩ rs) (h 0):=al3
def Pn {ty a s nv:Nat} {lst:Bool} {b cs:List D} : Pm ty a s (some (b,[])) (some ⟨0,ty,[.nr a s nv cs],false,lst,true⟩)=some (nR b,cs):=by
 simp[Pm,aaB]
def Vo {i:Nat} : aay [.tmp i] ⟨t,h,e⟩=Vn h (t i):=al3
def J3 {x v S n:Nat} : Vn h (.buf x v S 0 n)=Pj x v S n (h x):=al3
def Pk {x v S n ty a s nv:Nat} {lst:Bool} {cs:List D} (b:x<1000000):Pj x v S n (some ⟨v,ty,[.nr a s nv cs],false,lst,true⟩)=some (ty,a,s,S,n,cs):=by
 have:x<PK:=by rw[du];exact b
 simp[Pj,aaz,this]
def zg {d:Func} {c:Code} {n ty b s o:Nat} {cs a:List D} {rs:List ResultVar} {r:D×List D} (g:d.body=some c) (h:d.ntmps=n) (i:d.results=rs.toArray) (j:dL T Γ n F [.code c] (Vp T ty b s rs r) .normal (A1 (.ptr 0 0 o::a)) (oB (jt ty b s 0 cs)) 1) (e:n<=1000000:=by exact akW rfl):wB T Γ F d ty b s o cs a=some r:=by
 obtain⟨x,p,k,f⟩:=Dh _ _ _ _ _ (show NG T Γ n F c (A1 (.ptr 0 0 o::a)) (oB (jt ty b s 0 cs)) 1 (Vp T ty b s rs r) from j);unfold wB;simp only[g,h];rw[if_pos (by rw[du];exact e)];have l:tu ty b s o cs a=⟨A1 (.ptr 0 0 o::a),oB (jt ty b s 0 cs),1⟩:=rfl;rw[l,k,i];cases x with
 | normal=>exact f
 | ret=>exact f
 | exit m=>exact f.elim
def YU {b:Func} {c:Code} {n:Nat} {a:List D} {rs:List ResultVar} {r:Nat×Nat×Nat×Nat×Nat×List D} (f:b.body=some c) (g:b.ntmps=n) (h:b.results=rs.toArray) (i:dL T Γ n F [.code c] (aaA rs r) .normal (A1 a) KT 0) (d:n<=1000000:=by exact akW rfl):AQ T Γ F b a=some r:=by
 obtain⟨x,l,j,e⟩:=Dh _ _ _ _ _ (show NG T Γ n F c (A1 a) KT 0 (aaA rs r) from i);unfold AQ;simp only[f,g];rw[if_pos (by rw[du];exact d)];have k:cB none a=⟨A1 a,KT,0⟩:=rfl;rw[k,j,h];cases x with
 | normal=>exact e
 | ret=>exact e
 | exit m=>exact e.elim
def aK {a:Mode} {d:Func} {c:Code} {n:Nat} {rs:List ResultVar} {b:List D} {r:RK×Option Row} (g:d.body=some c) (f:d.ntmps=n) (h:d.results=rs.toArray) (i:dL T Γ n F [.code c] (aaC a T none rs r) .normal (A1 b) KT 0) (e:n<=1000000:=by exact akW rfl):kD a T Γ F d none b=some r:=by
 refine Uw ?_ (by rw[f];exact e);unfold wpf;rw[g,f,h];exact i
def Rv (r:Row) (i:Nat):oB r i=if i=0 then some r else none:=al3
def Ij {a:Mode} {d:Func} {c:Code} {n:Nat} {rs:List ResultVar} {d0:D} {ty:Nat} {cells:List D} {fz lst:Bool} {b:List D} {r:RK×Option Row} (g:d.body=some c) (f:d.ntmps=n) (h:d.results=rs.toArray)
  (i:dL T Γ n F [.code c] (aaC a T (some (d0,⟨0,ty,cells,fz,lst,false⟩)) rs r) .normal (A1 (d0::b)) (oB ⟨0,ty,cells,fz,lst,false⟩) 1) (e:n<=1000000:=by exact akW rfl):kD a T Γ F d (some (d0,⟨0,ty,cells,fz,lst,false⟩)) b=some r:=by
 refine Uw ?_ (by rw[f];exact e);unfold wpf;rw[g,f,h];exact i
end
section
variable {h:Nat->Option Row} {k x o v ty fz' nv s n e:Nat} {cs xs:List D} {fz lst:Bool}
def Y4 (a:k<2000000):EH h k=(h k).map (EY k):=uQ (by rw[du];exact a)
def aed (a:x<1000000):EH h (NK x o)=(h x).bind fun r=>tV r o:=uP (by rw[du];exact a)
def Lm:EY k ⟨v,ty,cs,fz,lst,false⟩=⟨v,ty,cs,fz,lst,false⟩:=al3
def Wq {a:List dY} : EY k ⟨v,ty,[.mpc a xs],fz,lst,true⟩=⟨v,ty,[.mpc a xs],fz,lst,true⟩:=al3
def abV {t:Nat} : EY k ⟨v,ty,[.nr t s nv cs],fz,lst,true⟩=⟨v,ty,cs.mapIdx (ue k s),fz,lst,true⟩:=al3
def QJ {t:Nat} : tV ⟨v,ty,[.nr t s nv cs],fz,lst,true⟩ o=GY t nv fz (cs.drop o).head?:=al3
def QI:GY ty nv fz (some (.nx n xs))=some ⟨nv,ty,xs,fz,true,false⟩:=al3
def aeX (a:x<1000000):rt (NK x o)=x:=wQ (by rw[du];exact a)
def Kq:mB h []=[]:=al3
def Kp {r:Option Row} {l:List (Nat×Option Row)} (a:k<2000000):mB h ((k,r)::l)=(k,IN r)::mB (b8 h k (IN r)) l:=by
 have b:rt k=k:=jv (by rw[du];exact a);have c:BQ h k r=IN r:=if_pos (by rw[du];exact a);simp only[mB,b,c]
def Pv {r:Option Row} {l:List (Nat×Option Row)} (b:x<1000000):mB h ((NK x o,r)::l)=(x,(h x).map (HA o r))::mB (b8 h x ((h x).map (HA o r))) l:=by
 have a:x<PK:=by rw[du];exact b
 have c:rt (NK x o)=x:=wQ a;have d:BQ h (NK x o) r=(h x).map (HA o r):=by
  unfold BQ;rw[if_neg (by have:=gK x o;omega),xi o a,E8 o a]
 simp only[mB,c,d]
def KS:IN none=none:=al3
def GZ:IN (some ⟨v,ty,cs,fz,lst,false⟩)=some ⟨v,ty,cs,fz,lst,false⟩:=al3
def QL {a:List dY} : IN (some ⟨v,ty,[.mpc a xs],fz,lst,true⟩)=some ⟨v,ty,[.mpc a xs],fz,lst,true⟩:=al3
def Wj {t:Nat} {r:Option Row} : HA o r ⟨v,ty,[.nr t s nv cs],fz,lst,true⟩=⟨v,ty,HR t s nv fz cs o r (cs.drop o).head?,fz,lst,true⟩:=al3
def Wp {t b:Nat} {a:List D} : HR t s nv fz cs o (some ⟨b,t,a,fz,true,false⟩) (some (.nx n xs))=if b=nv then [.nr t s nv (putCells cs o [.nx n a])] else [.nr t s nv (putCells cs o [.und])]:=by
 by_cases c:b=nv<;>simp[HR,Ri,c]
def lvN (x v:Nat):Option Row->Option (Row×Nat×Nat×Nat×List D)
 | some r=>if r.v=v∧r.fz=false∧r.mp=true∧x<1000000 then nrO r r.cells else none
 | none=>none
def Qh:gW h x v=lvN x v (h x):=by
 unfold gW lvN;rw[du];cases h x<;>rfl
def abh {t:Nat} (a:x<1000000):lvN x v (some ⟨v,ty,[.nr t s nv cs],false,lst,true⟩)=some (⟨v,ty,[.nr t s nv cs],false,lst,true⟩,t,s,nv,cs):=by
 simp only[lvN,true_and,a,and_self,if_true,nrO]
def afx (τ:Ty) (x o:Nat):Option (Row×Nat×Nat×Nat×List D)->Option cr
 | some (r,ty,s,nv,cs)=>MI τ x s nv o cs (cs.drop o).head?
 | none=>none
def VR {τ:Ty} : sP τ h (.ptr x v o)=afx τ x o (gW h x v):=by
 simp only[sP,afx]<;>cases gW h x v<;>rfl
def Kw {τ:Ty} {r:Row} {t:Nat} : afx τ x o (some (r,t,s,nv,cs))=MI τ x s nv o cs (cs.drop o).head?:=al3
def VP {a:Ds} {b:Nat} {z:List Value} {q:Bool} : MI ⟨a,1,b,z,q⟩ x s nv o cs (some (.nx n xs))=if a.uO=false then some ⟨.buf (NK x o) nv s 0 n,[]⟩ else none:=by
 simp only[MI,true_and]
def adn (τ:Ty) (o:Nat) (cs:List D):Option cr :=
 if o+τ.size<=cs.length∧((cs.drop o).take τ.size).all gA=true then okD (lA τ ((cs.drop o).take τ.size)) else none
def Qa {τ:Ty} {a:IntKind} {i:Int} : MI τ x s nv o cs (some (.int a i))=adn τ o cs:=al3
def VQ {τ:Ty} {a b:Bool} : MI τ x s nv o cs (some (.sl a b n xs))=adn τ o cs:=al3
def ad3 (τ:Ty) (e:Nat) (h:Nat->Option Row) (x o:Nat) (d:D):Option (Row×Nat×Nat×Nat×List D)->Option cr
 | some (r,ty,s,nv,cs)=>if o+τ.size<=cs.length∧0<τ.size then I2 τ e h x r ty s nv cs o d else none
 | none=>none
def Ww {τ:Ty} {d:D} : pP τ e h (.ptr x v o) d=ad3 τ e h x o d (gW h x v):=by
 simp only[pP,ad3]<;>cases gW h x v<;>rfl
def Lw {a:Ds} {m b:Nat} {z:List Value} {q:Bool} {d:D} {r:Row} {t:Nat} (c:0<m) (f:o+m<=cs.length):ad3 ⟨a,m,b,z,q⟩ e h x o d (some (r,t,s,nv,cs))=I2 ⟨a,m,b,z,q⟩ e h x r t s nv cs o d:=by
 simp only[ad3,c,f,and_self,if_true]
def afV (x:Nat) (r:Row) (ty s:Nat) (cs:List D) (o y n:Nat) (b:Option Nat):Option Row->Option cr
 | some q=>if q.fz=false∧q.lst=true∧q.ty=ty∧q.cells.length=n*s then C9 x r ty s cs o y n q b else none
 | none=>none
def Lx {c:Ds} {b y a:Nat} {z:List Value} {q:Bool} {r:Row} {t:Nat} (d:y<1000000):I2 ⟨c,1,b,z,q⟩ e h x r t s nv cs o (.buf y a s 0 n)=afV x r t s cs o y n (bump nv e) (live h y a):=by
 have f:¬y=NK x o:=by have:=gK x o;rw[du]at this;omega
 have g:y<PK:=by rw[du];exact d
 simp only[I2,and_self,if_true,f,if_false,g]<;>cases live h y a<;>rfl
def Lv {r q:Row} {t a y:Nat} (b:q.fz=false∧q.lst=true∧q.ty=t∧q.cells.length=n*s):afV x r t s cs o y n (some a) (some q)=some ⟨.und,[(y,none),(x,some ⟨r.v,r.ty,[.nr t s a (putCells cs o [.nx n q.cells])],false,r.lst,true⟩)]⟩:=by
 simp only[afV,b,and_self,if_true,C9]
def R0 {τ:Ty} {r:Row} {t:Nat} : I2 τ e h x r t s nv cs o (.agg xs)=Nl τ x r t s nv cs o (some xs):=al3
def LD {τ:Ty} {r:Row} {t:Nat} {a:List D} : Nl τ x r t s nv cs o (some a)=if a.length=τ.size∧a.all gA=true then some ⟨.und,[(x,some ⟨r.v,r.ty,[.nr t s nv (putCells cs o (a.map canon))],false,r.lst,true⟩)]⟩ else none:=al3
def kV (a:nv<=4*e):bump nv e=some (4*e+1):=if_pos a
def ZP (a:nv=4*e+2):bump nv e=some (4*e+3):=by unfold bump;rw[if_neg (by omega),if_pos a]
def Rf {E:cr} {y:Option cr} : orE (some E) y=some E:=al3
def Re {y:Option cr} : orE none y=y:=al3
def aa3 (τ:Ty) (x o:Nat):Option (Row×Nat×Nat×Nat×List D)->Option cr
 | some (r,ty,s,nv,cs)=>if r.lst=false∧o=0∧cs.length=τ.size∧1<τ.size∧cs.all (AD s)=true then Tx x r ty s nv (pj τ.size 0 cs) (lA τ (cs.map Um)) else none
 | none=>none
def VO {τ:Ty} : xJ τ h (.ptr x v o)=orE (aa3 τ x o (gW h x v)) (sP τ h (.ptr x v o)):=by
 simp only[xJ,sO]<;>cases gW h x v<;>rfl
def aa4 {τ:Ty} {a ty:Nat} {cells:List D} {fz mp:Bool} {t:Nat} : aa3 τ x o (some (⟨a,ty,cells,fz,true,mp⟩,t,s,nv,cs))=none:=by simp[aa3]
def aa5 {τ:Ty} {a ty:Nat} {cells:List D} {fz mp:Bool} {t:Nat} : aa3 τ x o (some (⟨a,ty,cells,fz,false,mp⟩,t,s,nv,cs))=if o=0∧cs.length=τ.size∧1<τ.size∧cs.all (AD s)=true then Tx x ⟨a,ty,cells,fz,false,mp⟩ t s nv (pj τ.size 0 cs) (lA τ (cs.map Um)) else none:=by
 simp only[aa3,true_and]
def Kv {r:Row} {t:Nat} {d:D} : Tx x r t s nv cs (some d)=some ⟨d,[(x,some ⟨r.v,r.ty,[.nr t s nv cs],false,r.lst,true⟩)]⟩:=al3
def ab5 (τ:Ty) (e x o:Nat) (d:D):Option (Row×Nat×Nat×Nat×List D)->Option cr
 | some (r,ty,s,nv,cs)=>if r.lst=false∧o=0∧cs.length=τ.size then T4 τ.size e x r ty s nv cs d else none
 | none=>none
def Wt {τ:Ty} {d:D} : xL τ e h (.ptr x v o) d=orE (ab5 τ e x o d (gW h x v)) (pP τ e h (.ptr x v o) d):=by
 simp only[xL,sS]<;>cases gW h x v<;>rfl
def ab6 {τ:Ty} {d:D} {a ty:Nat} {cells:List D} {fz mp:Bool} {t:Nat} : ab5 τ e x o d (some (⟨a,ty,cells,fz,true,mp⟩,t,s,nv,cs))=none:=by simp[ab5]
def ab7 {τ:Ty} {d:D} {a ty:Nat} {cells:List D} {fz mp:Bool} {t:Nat} : ab5 τ e x o d (some (⟨a,ty,cells,fz,false,mp⟩,t,s,nv,cs))=if o=0∧cs.length=τ.size then T4 τ.size e x ⟨a,ty,cells,fz,false,mp⟩ t s nv cs d else none:=by
 simp only[ab5,true_and]
def R3 {a t:Nat} {r:Row} : T4 a e x r t s nv cs (.agg xs)=if xs.length=a then stZ x r t s (bump nv e) (vg cs xs) else none:=al3
def R2 {r:Row} {t a:Nat} {b:List D} : stZ x r t s (some a) (some b)=some ⟨.und,[(x,some ⟨r.v,r.ty,[.nr t s a b],false,r.lst,true⟩)]⟩:=al3
def aij:Option D->Option (List D)->Option (List D)
 | some y,some a=>some (y::a)
 | _,_=>none
def LQ {y:D} {a:List D} : aij (some y) (some a)=some (y::a):=al3
def LR:vg [] []=some []:=al3
def Im {c x:D} {cs xs:List D} : vg (c::cs) (x::xs)=aij (Sp c x) (vg cs xs):=by
 simp only[vg];cases Sp c x<;>cases vg cs xs<;>rfl
def W9:Sp (.nx n xs) (.sl true true 0 [])=some (.nx 0 []):=al3
def W8 {k a:IntKind} {i j:Int} : Sp (.int k i) (.int a j)=some (.int a j):=al3
def Sl {a b:D} : pj 2 0 [a,b]=[Um a,Um b]:=al3
def WZ {k:IntKind} {i:Int} : Um (.int k i)=.int k i:=al3
def acr:Um (.nx n xs)=.sl false false n xs:=al3
def Wa {k:IntKind} {i:Int} : AD s (.int k i)=true:=al3
def abA:AD s (.nx n xs)=(xs.length==n*s):=al3
end
section
variable {Γ:Env} {g d:Nat} {p:Nat×Nat×Nat}
def Vx {f:Nat} {l:Bool} {G:Option (D×Row)->List D->Option (RK×Option Row)} : (Am.ext Γ f l G).nst g=Γ.nst g:=al3
def P5:(Am.keep d Γ).nst g=Γ.nst g:=al3
def KO:bn.nst g=none:=al3
def QW:(Am.w9 d p Γ).nst g=if g=d then some p else Γ.nst g:=al3
def G2:(Am.w9 d p Γ).lends g=Γ.lends g:=al3
def QY {l:Option (D×Row)} {ajj:List D} : (Am.w9 d p Γ).sem g l ajj=Γ.sem g l ajj:=al3
def QX:(Am.w9 d p Γ).own g=Γ.own g:=al3
def KW:(Am.w9 d p Γ).hint g=Γ.hint g:=al3
def QV:(Am.w9 d p Γ).ins g=Γ.ins g:=al3
def QU:(Am.w9 d p Γ).grw g=Γ.grw g:=al3
def aaD {f:Nat} {l:Bool} {G:Option (D×Row)->List D->Option (RK×Option Row)} : (Am.ext Γ f l G).nx=Γ.nx:=al3
def VK:(Am.keep d Γ).nx=Γ.nx:=al3
def VH {f:Nat} : (Am.GF f p Γ).nx=Γ.nx:=al3
def V8:(Am.w9 d p Γ).nx=Γ.nx:=al3
def KN:bn.nx.lnd g=none:=al3
def KQ:bn.nx.res g=none:=al3
end
section
variable {Γ:Env} {g d f:Nat} {p:Nat×(Nat->Nat->Nat->Nat->List D->List D->Option (D×List D))}
def Qk:(Am.rU f p Γ).nx.lnd g=if g=f then some p else Γ.nx.lnd g:=al3
def Qn:(Am.rU f p Γ).nx.res g=Γ.nx.res g:=al3
def GN:(Am.rU f p Γ).lends g=Γ.lends g:=al3
def Qo {l:Option (D×Row)} {ajj:List D} : (Am.rU f p Γ).sem g l ajj=Γ.sem g l ajj:=al3
def Qm:(Am.rU f p Γ).own g=Γ.own g:=al3
def KB:(Am.rU f p Γ).hint g=Γ.hint g:=al3
def Qj:(Am.rU f p Γ).ins g=Γ.ins g:=al3
def Qi:(Am.rU f p Γ).grw g=Γ.grw g:=al3
def Ql:(Am.rU f p Γ).nst g=Γ.nst g:=al3
end
section
variable {Γ:Env} {g d f:Nat} {p:List D->Option (Nat×Nat×Nat×Nat×Nat×List D)}
def QS:(Am.BM f p Γ).nx.res g=if g=f then some p else Γ.nx.res g:=al3
def QP:(Am.BM f p Γ).nx.lnd g=Γ.nx.lnd g:=al3
def G1:(Am.BM f p Γ).lends g=Γ.lends g:=al3
def QT {l:Option (D×Row)} {ajj:List D} : (Am.BM f p Γ).sem g l ajj=Γ.sem g l ajj:=al3
def QR:(Am.BM f p Γ).own g=Γ.own g:=al3
def KV:(Am.BM f p Γ).hint g=Γ.hint g:=al3
def QO:(Am.BM f p Γ).ins g=Γ.ins g:=al3
def QN:(Am.BM f p Γ).grw g=Γ.grw g:=al3
def QQ:(Am.BM f p Γ).nst g=Γ.nst g:=al3
end
section
variable {Γ:Env} {h:Nat->Option Row} {e x v o g:Nat} {rest:List D}
def SL (Γ:Env) (e:Nat) (h:Nat->Option Row) (g x o:Nat) (rest:List D):Option (Row×Nat×Nat×Nat×List D)->Option cr
 | some (r,ty,s,nv,cs)=>Fx e x r ty s nv cs o (Γ.nx.lnd g) (bS (EH h) rest)
 | none=>none
def Jz:uR Γ e h g (.ptr x v o::rest)=SL Γ e h g x o rest (gW h x v):=by
 simp only[uR,SL]<;>cases gW h x v<;>rfl
def Dw {r:Row} {ty s nv:Nat} {cs:List D} : SL Γ e h g x o rest (some (r,ty,s,nv,cs))=Fx e x r ty s nv cs o (Γ.nx.lnd g) (bS (EH h) rest):=al3
def Du {r:Row} {ty s nv:Nat} {cs ajj:List D} {p:Nat×(Nat->Nat->Nat->Nat->List D->List D->Option (D×List D))} : Fx e x r ty s nv cs o (some p) (some (ajj,[]))=Ma x r ty s o p.1 (bump nv e) (p.2 r.ty ty s o cs ajj):=al3
def Dv {r:Row} {ty s b k:Nat} {d:D} {a:List D} : Ma x r ty s o k (some b) (some (d,a))=if ((a.drop o).take k).all (AD s)=true then some ⟨d,[(x,some ⟨r.v,r.ty,[.nr ty s b (pj k o a)],false,r.lst,true⟩)]⟩ else none:=al3
end
end Go.Proofs.YtobnihfgnbnncaaGreat.Am
namespace Go.Proofs.YtobnihfgnbnncaaGreat.P
open Go.RowKit
def FU:Nat:=1000000000000000000000000
def rB {σ ρ:Type} (a:σ->Option (σ⊕ρ)):Nat->σ->Option ρ
 | 0,_=>none
 | n+1,s =>
  match a s with
  | some (.inl s')=>rB a n s'
  | some (.inr r)=>some r
  | none=>none
def aQ {σ ρ:Type} (a:σ->Option (σ⊕ρ)) (s:σ):Option ρ:=rB a FU s
def aaZ {σ ρ:Type} {a:σ->Option (σ⊕ρ)} (I:σ->Prop) (μ:σ->Nat) (Q:ρ->Prop)
  (b:∀s,I s->(∃c,a s=some (.inl c)∧I c∧μ c<μ s)∨(∃r,a s=some (.inr r)∧Q r)):∀(n:Nat) (s:σ),I s->μ s<n->∃r,rB a n s=some r∧Q r:=by
 intro n
 induction n with
 | zero=>intro s _ h;omega
 | succ n f =>
  intro s g k;rcases b s g with⟨c,d,e,l⟩|⟨r,d,e⟩
  ·obtain⟨r,i,j⟩:=f c e (by omega);exact⟨r,by simp only[rB,d];exact i,j⟩
  ·exact⟨r,by simp only[rB,d],e⟩
def BE {σ ρ:Type} {body:σ->Option (σ⊕ρ)} (I:σ->Prop) (μ:σ->Nat) (Q:ρ->Prop) {s:σ} (c:I s) (d:μ s<FU)
  (a:∀s,I s->(∃b,body s=some (.inl b)∧I b∧μ b<μ s)∨(∃r,body s=some (.inr r)∧Q r)):∃r,aQ body s=some r∧Q r:=aaZ I μ Q a FU s c d
def idx {α:Type} (l:List α) (i:Int):Option α:=if 0<=i∧i<l.length then l[i.toNat]? else none
def EZ {α:Type} (l:List α) (a b:Int):Option (List α):=if 0<=a∧a<=b∧b<=l.length then some ((l.drop a.toNat).take (b.toNat-a.toNat)) else none
def Io {α:Type} (bytes:Nat) (n c:Int) (z:α):Option (List α):=if 0<=n∧n<=c∧c<=maxLen∧c.toNat*bytes<=140737488355328 then some (List.replicate n.toNat z) else none
abbrev Bd (σ ρ:Type):Type:=σ->Option (σ⊕ρ)
def ou {α:Type} (bytes:Nat) (l m:List α):Option (List α):=if l.length+m.length<=maxLen∧(l.length+m.length)*bytes<=140737488355328 then some (l++m) else none
def aaX {α:Type} (bytes:Nat) (l:List α) (i:Int) (xs:List α):Option (List α):=if 0<=i∧i<=l.length∧0<xs.length∧(l.length+xs.length)*bytes<=140737488355328 then some (l.take i.toNat++(xs++l.drop i.toNat)) else none
def Z5 {α:Type} (l:List α) (i j:Int):Option (List α):=if 0<=i∧i<=j∧j<=l.length∧l.length<=maxLen then some (l.take i.toNat++l.drop j.toNat) else none
def Rb {α:Type} (x:Bool×α):Option α:=if x.1=true then none else some x.2
def RR {α:Type} (x:Bool×α):Option α:=if x.1=true then some x.2 else none
def Kk {α:Type} (l:List α):List (Bool×α):=l.map fun x=>(false,x)
def Xt (k:IntKind) (x y:Int):Option Int:=if y=0 then none else some (k.wrap (x.tdiv y))
def X7 (_:IntKind) (x y:Int):Option Int:=if y=0 then none else some (x.tmod y)
def I0 (k:IntKind) (x y:Int):Option Int:=if y<0 then none else some (k.wrap (x*2 ^ (min y.toNat k.bits)))
def AN (k:IntKind) (x y:Int):Option Int:=if y<0 then none else some (x.fdiv (2 ^ (min y.toNat k.bits)))
def mR (op:BinOp) (k:IntKind) (x y:Int):Int :=
 let a:=BitVec.ofInt k.bits x
 let b:=BitVec.ofInt k.bits y
 match op with
 | .and=>k.wrap (a &&& b).toNat
 | .or=>k.wrap (a ||| b).toNat
 | .xor=>k.wrap (a ^^^ b).toNat
 | _=>k.wrap (a &&& ~~~b).toNat
def gB {κ α:Type} [DecidableEq κ] (z:α):List (κ×α)->κ->α
 | [],_=>z
 | (k,v)::m,n=>if k=n then v else gB z m n
def po {κ α:Type} [DecidableEq κ]:List (κ×α)->κ->Bool
 | [],_=>false
 | (k,_)::m,n=>k==n||po m n
def tf {κ α:Type} [DecidableEq κ]:List (κ×α)->κ->α->List (κ×α)
 | [],n,v=>[(n,v)]
 | (k,x)::m,n,v=>if k=n then (k,v)::m else (k,x)::tf m n v
def rE (l:List Int):List Int:=l.mergeSort fun x y=>decide (x<=y)
def sk (l:List Int):(rE l).length=l.length:=List.length_mergeSort l
def Lp:rE []=[]:=by simp[rE]
def ae {α β:Type} {o:Option α} {f:α->Option β} {r:β} (h:o.bind f=some r):∃a,o=some a∧f a=some r:=by
 cases o with
 | none=>cases h
 | some a=>exact⟨a,rfl,h⟩
def agQ {α:Type} {b:Bool} {x y r:α} (a:b=true) (h:(if b=true then x else y)=r):x=r:=by rw[if_pos a]at h;exact h
def agP {α:Type} {b:Bool} {x y r:α} (a:b=false) (h:(if b=true then x else y)=r):y=r:=by rw[a]at h;simpa using h
def ai {a b:Prop} (x:a) (y:b):a∧b:=⟨x,y⟩
def sp {α:Type} {b:Bool} {P1 P2 Q:Prop} {x y r:α} (k:(b=true->P1)->(b=false->P2)->Q) (h:(if b=true then x else y)=r) (h1:b=true->x=r->P1) (h2:b=false->y=r->P2):Q:=k (fun a=>h1 a (agQ a h)) fun a=>h2 a (agP a h)
end Go.Proofs.YtobnihfgnbnncaaGreat.P
namespace Go.Proofs.YtobnihfgnbnncaaGreat.Am
open Go.RowKit Go.Proofs.YtobnihfgnbnncaaGreat.P
structure iV (α:Type) where
 cells:α->List D
 size:Nat
 len:∀x,(cells x).length=size
 pos:0<size
 inj:∀x y,cells x=cells y->x=y
def al {α:Type} (e:iV α):List α->List D
 | []=>[]
 | x::l=>e.cells x++al e l
section
variable {α β:Type} (e:iV α)
def Bu:al e []=[]:=rfl
def bY (x:α) (l:List α):al e (x::l)=e.cells x++al e l:=rfl
def jn:∀l m:List α,al e (l++m)=al e l++al e m
 | [],m=>rfl
 | x::l,m=>by rw[ak6,bY,bY,jn l m,aky]
def bN:∀l:List α,(al e l).length=l.length*e.size
 | []=>by simp[al]
 | x::l=>by rw[bY,akn,bN l,e.len,aj4,akZ];omega
def pQ:∀(l:List α) (i:Nat),(al e l).drop (i*e.size)=al e (l.drop i)
 | l,0=>by simp
 | [],i+1=>by simp[al]
 | x::l,i+1=>by
  rw[bY,ak7,<- pQ l i,akX,e.len,akY (by rw[e.len,akZ];omega),akV];congr 1;rw[akZ];omega
def kI:∀(l:List α) (i:Nat),(al e l).take (i*e.size)=al e (l.take i)
 | l,0=>by simp[al]
 | [],i+1=>by simp[al]
 | x::l,i+1=>by
  rw[bY,ak8,bY,List.take_append,e.len,akC (by rw[e.len,akZ];omega),<- kI l i];congr 2;rw[akZ];omega
def xM:∀l m:List α,al e l=al e m->l=m
 | [],[],_=>rfl
 | [],y::m,h=>by
  have:=congrArg List.length h;have a:=e.pos;rw[bY,akn,e.len]at this;simp[al]at this;omega
 | x::l,[],h=>by
  have:=congrArg List.length h;have a:=e.pos;rw[bY,akn,e.len]at this;simp[al]at this;omega
 | x::l,y::m,h=>by
  rw[bY,bY]at h;obtain⟨b,c⟩:=ak9 h (by rw[e.len,e.len]);rw[e.inj _ _ b,xM l m c]
def Ph:∀(n:Nat) (x:α),p7 n (e.cells x)=al e (List.replicate n x)
 | 0,x=>by simp[p7,al]
 | n+1,x=>by rw[aka,bY,<- Ph n x];simp[p7,List.replicate_succ]
end
def eI (k:IntKind):iV Int:=⟨fun n=>[.int k n],1,fun _=>rfl,by decide,fun x y h=>by simpa using h⟩
def afj:iV ByteArray:=⟨fun n=>[.str n],1,fun _=>rfl,by decide,fun x y h=>by simpa using h⟩
def dU {α:Type} (e:iV α):iV (List α):=⟨fun l=>[.sl false false l.length (al e l)],1,fun _=>rfl,by decide,fun x y h=>by
 simp only[ajJ,D.sl.injEq,true_and,and_true]at h;exact xM e _ _ h.2⟩
def nY {α β:Type} (e:iV α) (f:iV β):iV (α×β):=⟨fun x=>e.cells x.1++f.cells x.2,e.size+f.size,fun x=>by rw[akn,e.len,f.len],ajr e.pos (Nat.le_add_right _ _),fun x y h=>by
 obtain⟨a,b⟩:=ak9 h (by rw[e.len,e.len]);exact Prod.ext (e.inj _ _ a) (f.inj _ _ b)⟩
def Br {α β:Type} (e:iV β) (f:α->β) (hf:∀x y,f x=f y->x=y):iV α:=⟨fun x=>e.cells (f x),e.size,fun x=>e.len _,e.pos,fun x y h=>hf _ _ (e.inj _ _ h)⟩
structure Arg (α:Type) where
 d:α->D
 inj:∀x y,d x=d y->x=y
def aI (k:IntKind):Arg Int:=⟨fun n =>.int k n,fun x y h=>by simpa using h⟩
def aem:Arg Bool:=⟨fun n =>.bool n,fun x y h=>by simpa using h⟩
def j0 {α:Type} (e:iV α):Arg (List α):=⟨fun l =>.sl false false l.length (al e l),fun x y h=>by
 simp only[D.sl.injEq,true_and]at h;exact xM e _ _ h.2⟩
def bU {α:Type} (e:iV α):Arg α:=⟨fun x =>.agg (e.cells x),fun x y h=>e.inj _ _ (by simpa using h)⟩
def agy (k:IntKind) (n:Int):(aI k).d n=.int k n:=al3
def UP (n:Bool):aem.d n=.bool n:=al3
def aeo {α:Type} (e:iV α) (l:List α):(j0 e).d l=.sl false false l.length (al e l):=al3
def Zt {α:Type} (e:iV α) (x:α):(bU e).d x=.agg (e.cells x):=al3
def Bj (k:IntKind) (n:Int):(eI k).cells n=[.int k n]:=al3
def Cf {α:Type} (e:iV α) (l:List α):(dU e).cells l=[.sl false false l.length (al e l)]:=al3
structure kc (α:Type) where
 ds:α->List D
 inj:∀x y,ds x=ds y->x=y
def as0:kc Unit:=⟨fun _=>[],fun _ _ _=>rfl⟩
def dS {α:Type} (a:Arg α):kc α:=⟨fun x=>[a.d x],fun x y h=>a.inj _ _ (by simpa using h)⟩
def gh {α β:Type} (a:Arg α) (b:kc β):kc (α×β):=⟨fun x=>a.d x.1::b.ds x.2,fun x y h=>by
 simp only[ajJ]at h;exact Prod.ext (a.inj _ _ h.1) (b.inj _ _ h.2)⟩
def eu {α β:Type} (A:kc α) (F:α->Option β) (R:β->RK):Option (D×Row)->List D->Option (RK×Option Row):=fun lent b =>
 match lent with
 | none=>open Classical in if h:∃a,A.ds a=b then (F (Classical.choose h)).map fun r=>(R r,none) else none
 | some _=>none
def cD {α β:Type} (A:kc α) (F:α->Option β) (R:β->RK) (a:α):eu A F R none (A.ds a)=(F a).map fun r=>(R r,none):=by
 have h:∃b,A.ds b=A.ds a:=⟨a,rfl⟩;simp only[eu];rw[dif_pos h,A.inj _ _ (Classical.choose_spec h)]
def u4 {α β:Type} {A:kc α} {F:α->Option β} {R:β->RK} {lent:Option (D×Row)} {c:List D} {d:RK} {b:Option Row} (h:eu A F R lent c=some (d,b)):lent=none∧b=none∧∃a r,c=A.ds a∧F a=some r∧d=R r:=by
 unfold eu at h;split at h
 ·split at h
  ·rename_i f;rw[ajm]at h;obtain⟨r,g,e⟩:=h;simp only[Prod.mk.injEq]at e;obtain⟨rfl,rfl⟩:=e;exact⟨rfl,rfl,_,r,(Classical.choose_spec f).symm,g,rfl⟩
  ·cases h
 ·cases h
structure cn (P:Program) (f:FuncId) (G:Option (D×Row)->List D->Option (RK×Option Row)):Prop where
 calls:∀lent ajj rk out,G lent ajj=some (rk,out)->uh P f lent ajj rk out
 callable:eZ P f
def cn.of {P:Program} {T:Nat->Option Ty} {Γ:Env} (i:jH P T) (j:bV P Γ) (k:P.follows .mixedOrders=true) {α β:Type} {A:kc α} {F:α->Option β} {R:β->RK} {d:Mode} {f:FuncId} {b:Func} (g:P.funcs[f]? = some b) (e:(match b.body with|some c=>codeOk c|none=>true)=true)
  (l:(b.name == "runtime.NumGoroutine")=false∧b.body.isNone=false) (m:∀a,(A.ds a).length<=b.ntmps) (h:∀a r,F a=some r->kD d T Γ FU b none (A.ds a)=some (R r,none)):cn P f (eu A F R) where
 calls lent ajj rk out n:=by
  obtain⟨rfl,rfl,a,r,rfl,o,rfl⟩:=u4 n;exact lN i j k g e (m a) rfl (h a r o)
 callable:=⟨b,g,l⟩
def bV.add {P:Program} {Γ:Env} (a:bV P Γ) {f:Nat} {G:Option (D×Row)->List D->Option (RK×Option Row)} (h:cn P f G) (l:Bool):bV P (Am.ext Γ f l G):=a.ext h.calls h.callable
section
variable {T:Nat->Option Ty} {Γ:Env} {N e:Nat} {ws:List W} {Q:Kt} {t:Nat->D} {h:Nat->Option Row}
def LK {σ ρ:Type} (b:σ->(Nat->D)->(Nat->Option Row)->Nat->Prop) (a:ρ->Ex->(Nat->D)->(Nat->Option Row)->Nat->Prop) (c:σ⊕ρ):Kt:=fun x t h e =>
 match x with
 | .normal=>∃d,c=.inl d∧b d t h e
 | x=>∃o,c=.inr o∧a o x t h e
def iU {σ ρ:Type} {a:σ->(Nat->D)->(Nat->Option Row)->Nat->Prop} {b:ρ->Ex->(Nat->D)->(Nat->Option Row)->Nat->Prop} {c:σ} (k:a c t h e):LK a b (.inl c) .normal t h e:=⟨c,rfl,k⟩
def j8 {σ ρ:Type} {b:σ->(Nat->D)->(Nat->Option Row)->Nat->Prop} {a:ρ->Ex->(Nat->D)->(Nat->Option Row)->Nat->Prop} {o:ρ} {n:Nat} (k:a o (.exit n) t h e):LK b a (.inr o) (.exit n) t h e:=⟨o,rfl,k⟩
def tD {σ ρ:Type} {b:σ->(Nat->D)->(Nat->Option Row)->Nat->Prop} {a:ρ->Ex->(Nat->D)->(Nat->Option Row)->Nat->Prop} {o:ρ} (k:a o .ret t h e):LK b a (.inr o) .ret t h e:=⟨o,rfl,k⟩
def aA {σ ρ:Type} {a:σ->Option (σ⊕ρ)} {b:Code} (d:σ->(Nat->D)->(Nat->Option Row)->Nat->Prop) (f:ρ->Ex->(Nat->D)->(Nat->Option Row)->Nat->Prop) {q:σ} {j:ρ} (w:aQ a q=some j) (y:d q t h e)
  (k:∀s t h e,d s t h e->∀c,a s=some c->dL T Γ N FU [.code b] (LK d f c) .normal t h e)
  (g:∀x t h e,f j x t h e->dL T Γ N FU ws Q x t h e):Wm T Γ N FU b ws Q t h e:=by
 have key:∀(n:Nat) (s:σ) (t:Nat->D) (h:Nat->Option Row) (e:Nat),d s t h e->rB a n s=some j->∃x l,iter (ib T Γ N FU b) n ⟨t,h,e⟩=some (x,l)∧dL T Γ N FU ws Q x l.t l.h l.e:=by
  intro n
  induction n with
  | zero=>intro s t h e _ i;cases i
  | succ n z =>
   intro s t h e A i;simp only[rB]at i;cases r:a s with
   | none=>rw[r]at i;cases i
   | some c =>
    rw[r]at i;obtain⟨x,u,B,v⟩:=Dh _ _ _ _ _ (show NG T Γ N FU b t h e (LK d f c) from k s t h e A c r);simp only[iter,B];cases x with
    | normal =>
     obtain⟨l,rfl,p⟩:=v;exact z l u.t u.h u.e p i
    | exit m =>
     obtain⟨o,rfl,p⟩:=v;simp only[ajw]at i;subst i;exact⟨_,_,rfl,g _ _ _ _ p⟩
    | ret =>
     obtain⟨o,rfl,p⟩:=v;simp only[ajw]at i;subst i;exact⟨_,_,rfl,g _ _ _ _ p⟩
 exact key FU q t h e y w
def B3 {d:D} {g:Nat} {A B A' B':(Nat->D)->Prop} (a:Uu d t g A B) (h1:∀t,A t->A' t) (h2:∀t,B t->B' t):Uu d t g A' B':=by
 cases d with
 | bool b=>exact⟨fun c=>h1 _ (a.1 c),fun c=>h2 _ (a.2 c)⟩
 | _=>exact a
def Ik {d:D} {g:Nat} {A B S A' B' S':(Nat->D)->Prop} (a:wpS d t g A B S) (b:∀t,A t->A' t) (c:∀t,B t->B' t) (e:∀t,S t->S' t):wpS d t g A' B' S':=by
 unfold wpS at a ⊢;split at a
 ·exact e _ a
 ·exact B3 a b c
def G5 {α:Type} {x:Option α} {K K':α->Prop} (b:u6 x K) (c:∀a,K a->K' a):u6 x K':=by
 cases x with
 | none=>exact b
 | some a=>exact c a b
def Sn {ops:List Oper} {gd:Option (Nat×Bool)} {A B A' B':(Nat->D)->Prop} (b:wpG ops t gd A B) (c:∀t,A t->A' t) (d:∀t,B t->B' t):wpG ops t gd A' B':=by
 unfold wpG at b ⊢;split
 ·exact c _ b
 ·rename_i j a;refine G5 b fun g e=>Ik e ?_ ?_ d
  ·intro t f;cases a<;>simp_all
  ·intro t f;cases a<;>simp_all
def B5 {o:Oper} {K K':(Nat->D)->cr->Prop} (d:Sm T Γ e o t h K) (h1:∀t E,K t E->K' t E):Sm T Γ e o t h K':=by
 unfold Sm at d ⊢;split
 ·rename_i f;rw[f]at d;exact B3 d (fun _ h=>h1 _ _ h) (fun _ h=>h1 _ _ h)
 ·rename_i g;split at d
  ·rename_i c a b f;exact absurd f (g _ _ _)
  ·exact G5 d (fun _ h=>h1 _ _ h)
def zd {ops:List Oper} {K K':(Nat->D)->(Nat->Option Row)->Prop} (h1:∀t h,K t h->K' t h):∀(l:List Oper) (t:Nat->D) (h:Nat->Option Row),HL T Γ N e ops l t h K->HL T Γ N e ops l t h K'
 | [],t,h,hk=>h1 _ _ hk
 | o::l,t,h,hk=>by
  unfold HL at hk ⊢;exact⟨hk.1,Sn hk.2 (fun t a=>B5 a fun t E b=>zd h1 l _ _ b) (fun t a=>zd h1 l _ _ a)⟩
def za {ops:List Oper} {K K':(Nat->D)->(Nat->Option Row)->List mE->Prop} (h1:∀t h fs,K t h fs->K' t h fs):∀(l:List Oper) (t:Nat->D) (h:Nat->Option Row) (fs:List mE),runK T Γ N e ops l t h fs K->runK T Γ N e ops l t h fs K'
 | [],t,h,fs,hk=>h1 _ _ _ hk
 | o::l,t,h,fs,hk=>by
  unfold runK at hk ⊢;exact⟨hk.1,Sn hk.2 (fun t a=>B5 a fun t E b=>za h1 l _ _ _ b) (fun t a=>za h1 l _ _ _ a)⟩
def acF {ops:Array Oper} {a:Bool} {K K':(Nat->D)->(Nat->Option Row)->Prop} (b:wpR T Γ N ops a t h e K) (c:∀t h,K t h->K' t h):wpR T Γ N ops a t h e K':=by
 unfold wpR at b ⊢;cases a with
 | true=>exact za (fun t h fs d=>⟨d.1,c _ _ d.2⟩) _ _ _ _ b
 | false=>exact zd c _ _ _ b
def YW {F:Nat} : ∀(c:Code) (t:Nat->D) (h:Nat->Option Row) (e:Nat) (K K':Kt),NG T Γ N F c t h e K->(∀x t h e,K x t h e->K' x t h e)->NG T Γ N F c t h e K':=by
 intro c
 induction c with
 | skip=>intro t h e K K' d hm;exact hm _ _ _ _ d
 | region i ops draw=>intro t h e K K' d hm;exact acF d fun t h p=>hm _ _ _ _ p
 | seq a b j k =>
  intro t h e K K' d hm;refine j _ _ _ _ _ d fun x t h e f =>?_;cases x with
  | normal=>exact k _ _ _ _ _ f hm
  | exit n=>exact hm _ _ _ _ f
  | ret=>exact hm _ _ _ _ f
 | cond c x y ihx ihy =>
  intro t h e K K' d hm;unfold NG at d ⊢;cases c with
  | tmp g=>exact B3 d (fun t l=>ihx _ _ _ _ _ l hm) (fun t l=>ihy _ _ _ _ _ l hm)
  | const v =>
   cases v with
   | bool b =>
    cases b with
    | true=>exact ihx _ _ _ _ _ d hm
    | false=>exact ihy _ _ _ _ _ d hm
   | _=>exact d
  | _=>exact d
 | block id b o =>
  intro t h e K K' d hm;refine o _ _ _ _ _ d fun x t h e f =>?_;cases x with
  | normal=>exact hm _ _ _ _ f
  | ret=>exact hm _ _ _ _ f
  | exit n =>
   unfold ZM at f ⊢;simp only at f ⊢;split at f
   ·rename_i m;rw[if_pos m];exact hm _ _ _ _ f
   ·rename_i m;rw[if_neg m];exact hm _ _ _ _ f
 | loop b o =>
  intro t h e K K' d hm;obtain⟨x,s,q,r⟩:=d;exact⟨x,s,q,hm _ _ _ _ r⟩
 | exit id=>intro t h e K K' d hm;exact hm _ _ _ _ d
 | ret=>intro t h e K K' d hm;exact hm _ _ _ _ d
 | _=>intro t h e K K' d;exact d.elim
def CK {σ:Type} (J:σ->(Nat->D)->(Nat->Option Row)->Nat->Prop) (P:σ->Prop) (R:Kt):Kt:=fun x t h e =>
 match x with
 | .normal=>∃s,P s∧J s t h e
 | x=>R x t h e
def aC {σ:Type} {J:σ->(Nat->D)->(Nat->Option Row)->Nat->Prop} {P:σ->Prop} {R:Kt} : CK J P R .normal t h e = ∃s,P s∧J s t h e:=al3
end
section
variable {h:Nat->Option Row}
def JB {k:IntKind} {n:Int} : canon (.int k n)=.int k n:=al3
def JC {b:ByteArray} : canon (.str b)=.str b:=al3
def Ot {a b:Bool} {n:Nat} {xs:List D} : canon (.sl a b n xs)=.sl false false n xs:=al3
def Fy {xs:List D} : jP (.agg xs)=.agg (xs.map canon):=al3
def clB (x s o n:Nat):Option Row->Option (D×List Nat)
 | some r=>if o+n*s<=r.cells.length then some (.sl false false n ((r.cells.drop o).take (n*s)),[x]) else none
 | none=>none
def OE {x s o n:Nat} {r:Row} : clB x s o n (some r)=if o+n*s<=r.cells.length then some (.sl false false n ((r.cells.drop o).take (n*s)),[x]) else none:=al3
def clP (x o:Nat):Option Row->Option (D×List Nat)
 | some r=>if o<=r.cells.length then some (.ip (r.cells.drop o),[x]) else none
 | none=>none
def OI {x o:Nat} {r:Row} : clP x o (some r)=if o<=r.cells.length then some (.ip (r.cells.drop o),[x]) else none:=al3
def Oy {k:IntKind} {n:Int} : cO h (.int k n)=some (.int k n,[]):=al3
def JE {b:Bool} : cO h (.bool b)=some (.bool b,[]):=al3
def U9 {a b:Bool} {n:Nat} {xs:List D} : cO h (.sl a b n xs)=some (.sl false false n xs,[]):=al3
def Ov {xs:List D} : cO h (.agg xs)=some (.agg (xs.map canon),[]):=al3
def U8 {xs:List D} : cO h (.ip xs)=some (.ip xs,[]):=al3
def U7 {f:Nat} : cO h (.fn f)=some (.fn f,[]):=al3
def Ow {x v s o n:Nat} : cO h (.buf x v s o n)=clB x s o n (live h x v):=by
 simp only[cO,bL,eL];cases live h x v with
 | none=>rfl
 | some r=>by_cases a:o+n*s<=r.cells.length<;>simp[clB,a,canon]
def Oz {x v o:Nat} : cO h (.ptr x v o)=clP x o (live h x v):=by
 simp only[cO,bL];cases live h x v with
 | none=>rfl
 | some r=>simp only[clP]
def Z3 {k:IntKind} {n:Int} : gL h (.int k n)=some ([.int k n],[]):=al3
def Z4 {b:ByteArray} : gL h (.str b)=some ([.str b],[]):=al3
def aes {a b:Bool} {n:Nat} {xs:List D} : gL h (.sl a b n xs)=some ([.sl a b n xs],[]):=al3
def Z1 {xs:List D} : gL h (.agg xs)=some (xs,[]):=al3
def cvB:Option (D×List Nat)->Option (List D×List Nat)
 | some (d,fr)=>some ([d],fr)
 | none=>none
def OQ {d:D} {fr:List Nat} : cvB (some (d,fr))=some ([d],fr):=al3
def Z2 {x v s o n:Nat} : gL h (.buf x v s o n)=cvB (clB x s o n (live h x v)):=by
 simp only[gL,eL];cases live h x v with
 | none=>rfl
 | some r=>by_cases a:o+n*s<=r.cells.length<;>simp[clB,cvB,a]
def clF (h:Nat->Option Row):Option (D×List Nat)->Option cr
 | some (d,fr)=>some ⟨d,kr h fr⟩
 | none=>none
def OG {d:D} {fr:List Nat} : clF h (some (d,fr))=some ⟨d,kr h fr⟩:=al3
def US {x v s o n:Nat} : oL h (.buf x v s o n)=clF h (clB x s o n (live h x v)):=by
 simp only[oL,sJ,eL];cases live h x v with
 | none=>rfl
 | some r=>by_cases a:o+n*s<=r.cells.length<;>simp[clB,clF,a,canon,jP]
variable {Γ:Env} {f g e:Nat} {l:Bool} {G:Option (D×Row)->List D->Option (RK×Option Row)} {lent:Option (D×Row)} {ajj:List D} {dst:Option Nat} {fr:List Nat}
def Kg:(Am.ext Γ f l G).lends g=if g=f then l else Γ.lends g:=al3
def Vz:(Am.ext Γ f l G).sem g lent ajj=if g=f then G lent ajj else Γ.sem g lent ajj:=al3
def Vy {d:Nat} : (Am.ext Γ f l G).own d=Γ.own d:=al3
def KP {d:Nat} : bn.own d=true:=al3
def P6 {d i:Nat} : (Am.keep d Γ).own i=(i != d&&Γ.own i):=al3
def GH {d i:Nat} : (Am.keep d Γ).lends i=Γ.lends i:=al3
def P7 {d i:Nat} : (Am.keep d Γ).sem i lent ajj=Γ.sem i lent ajj:=al3
def En (b:Bool) (Γ:Env) (h:Nat->Option Row) (e:Nat) (dst:Option Nat) (g:Nat) (a:List D):Option cr :=
 if b then
  match a with
  | .buf x v s o n::rest=>sH Γ h e dst g x v (.buf 0 0 s o n) rest
  | .ptr x v o::rest=>sH Γ h e dst g x v (.ptr 0 0 o) rest
  | .mp x v::rest=>sH Γ h e dst g x v (.mp 0 0) rest
  | _=>none
 else xm Γ h e dst g a
def acX (p:Option (Nat×Nat×Nat)) (Γ:Env) (h:Nat->Option Row) (e:Nat) (dst:Option Nat) (g:Nat) (a:List D):Option cr :=
 match p with
 | some p=>wH h e dst p a
 | none =>
  match Γ.grw g with
  | some p=>zA h p a
  | none=>En (Γ.lends g) Γ h e dst g a
def agH (p:Option Grow) (Γ:Env) (h:Nat->Option Row) (e:Nat) (dst:Option Nat) (g:Nat) (a:List D):Option cr :=
 match p with
 | some p=>zA h p a
 | none=>En (Γ.lends g) Γ h e dst g a
def Jt {a:List D} : acX none Γ h e dst g a=agH (Γ.grw g) Γ h e dst g a:=al3
def Js {a:List D} : agH none Γ h e dst g a=En (Γ.lends g) Γ h e dst g a:=al3
def Vv {f:Nat} {l:Bool} {G:Option (D×Row)->List D->Option (RK×Option Row)} : (Am.ext Γ f l G).grw g=Γ.grw g:=al3
def P3 {d:Nat} : (Am.keep d Γ).grw g=Γ.grw g:=al3
def PW {f:Nat} {p:Nat×Nat×Nat} : (Am.GF f p Γ).grw g=Γ.grw g:=al3
def KL:bn.grw g=none:=al3
def Ju {p:Nat×Nat×Nat} {a:List D} : acX (some p) Γ h e dst g a=wH h e dst p a:=al3
def Vw {f:Nat} {l:Bool} {G:Option (D×Row)->List D->Option (RK×Option Row)} : (Am.ext Γ f l G).ins g=Γ.ins g:=al3
def P4 {d:Nat} : (Am.keep d Γ).ins g=Γ.ins g:=al3
def KM:bn.ins g=none:=al3
def PX {f:Nat} {p:Nat×Nat×Nat} : (Am.GF f p Γ).ins g=if g=f then some p else Γ.ins g:=al3
def GG {f:Nat} {p:Nat×Nat×Nat} : (Am.GF f p Γ).lends g=Γ.lends g:=al3
def PZ {f:Nat} {p:Nat×Nat×Nat} {l:Option (D×Row)} {ajj:List D} : (Am.GF f p Γ).sem g l ajj=Γ.sem g l ajj:=al3
def PY {f:Nat} {p:Nat×Nat×Nat} {d:Nat} : (Am.GF f p Γ).own d=Γ.own d:=al3
def ZR (ty k b x y s c o f n m:Nat) (i:Int) (e:Nat) (d:Nat):Option Row->Option Row->Option cr
 | some r,some a =>
   if r.fz=false∧a.fz=false∧r.lst=true∧a.lst=true∧x≠y∧s=k∧c=k∧r.ty=ty∧a.ty=ty∧o=0∧f=0∧r.cells.length=n*k∧a.cells.length=m*k∧0<=i∧i<=n∧0<m∧(n+m)*b<=140737488355328 then
    some ⟨.buf d e k 0 (n+m),[(y,none),(x,none),(d,some ⟨e,ty,r.cells.take (i.toNat*k)++(a.cells++r.cells.drop (i.toNat*k)),false,true,false⟩)]⟩
   else none
 | _,_=>none
def U3 {ty k a x v s o n y b c f m d:Nat} {i:Int} : wH h e (some d) (ty,k,a) [.buf x v s o n,.int .i64 i,.buf y b c f m]=ZR ty k a x y s c o f n m i e d (live h x v) (live h y b):=by
 simp only[wH,ZR];cases live h x v with
 | none=>rfl
 | some r=>cases live h y b<;>rfl
def Fq {ty k b x y s c o f n m : Nat} {i : Int} {d : Nat} {r a : Row} : ZR ty k b x y s c o f n m i e d (some r) (some a) = if r.fz = false ∧ a.fz = false ∧ r.lst = true ∧ a.lst = true ∧ x ≠ y ∧ s = k ∧ c = k ∧ r.ty = ty ∧ a.ty = ty ∧ o = 0 ∧ f = 0 ∧ r.cells.length = n * k ∧ a.cells.length = m * k ∧ 0 <= i ∧ i <= n ∧ 0 < m ∧ (n + m) * b <= 140737488355328 then
        some ⟨.buf d e k 0 (n + m), [(y, none), (x, none), (d, some ⟨e, ty, r.cells.take (i.toNat * k) ++ (a.cells ++ r.cells.drop (i.toNat * k)), false, true, false⟩)]⟩
      else none := Eq.trans rfl rfl
def U5 {a:List D} : jL Γ h e dst (.fn g) a=acX (Γ.ins g) Γ h e dst g a:=by
 simp only[jL,acX,En];cases Γ.ins g with
 | none=>cases Γ.grw g<;>rfl
 | some p=>rfl
def Xk (h:Nat->Option Row) (e:Nat) (dst:Option Nat) (fr:List Nat):Option (RK×Option Row)->Option cr
 | some (.clean r,_)=>some ⟨r,if jS r then [] else kr h fr⟩
 | some (.fresh ty s n cells,_) =>
  match dst with
  | some d=>if fr.contains d=false then some ⟨.buf d e s 0 n,(if sV cells then [] else kr h fr)++[(d,some ⟨e,ty,cells,false,true,false⟩)]⟩ else none
  | none=>none
 | _=>none
def acW (Γ:Env) (h:Nat->Option Row) (e:Nat) (dst:Option Nat) (g:Nat):Option (List D×List Nat)->Option cr
 | some (ajj,fr)=>Xk h e dst fr (Γ.sem g none ajj)
 | none=>none
def Jv {a:List D} : En false Γ h e dst g a=acW Γ h e dst g (bS h a):=by
 simp only[En,ajT,if_false,xm,acW];cases bS h a with
 | none=>rfl
 | some p =>
  obtain⟨ajj,fr⟩:=p;simp only;cases c:Γ.sem g none ajj with
  | none=>rfl
  | some q =>
   obtain⟨b,o⟩:=q;cases b<;>rfl
def Jr:acW Γ h e dst g (some (ajj,fr))=Xk h e dst fr (Γ.sem g none ajj):=al3
def aaJ (h:Nat->Option Row) (fr:List Nat):Bool->List (Nat×Option Row)
 | true=>[]
 | false=>kr h fr
def Kr:aaJ h fr true=[]:=al3
def Gh:aaJ h fr false=kr h fr:=al3
def PA {b:Bool} : aaJ h [] b=[]:=by cases b<;>rfl
def Fu {r:D} {o:Option Row} : Xk h e dst fr (some (.clean r,o))=some ⟨r,aaJ h fr (jS r)⟩:=by
 simp only[Xk]<;>cases jS r<;>rfl
def VB:kr h []=[]:=al3
def PB {x:Nat} : kr h (x::fr)=(x,(h x).map wX)::kr h fr:=al3
def JF:bS h []=some ([],[]):=al3
def caC (p:Option (D×List Nat)) (q:Option (List D×List Nat)):Option (List D×List Nat) :=
 match p,q with
 | some (c,fr),some (a,b)=>some (c::a,fr++b)
 | _,_=>none
def Ob {d:D} {fr a:List Nat} {b:List D} : caC (some (d,fr)) (some (b,a))=some (d::b,fr++a):=al3
def Fz {d:D} {a:List D} : bS h (d::a)=caC (cO h d) (bS h a):=by
 simp only[bS];cases cO h d with
 | none=>rfl
 | some p=>cases bS h a<;>rfl
variable {T:Nat->Option Ty} {s:St} {rs:List ResultVar} {r:ResultVar}
def Ru:xc T s []=some ([],[]):=al3
def Lb:xc T s (r::rs)=caC (Rs T s r) (xc T s rs):=by
 simp only[xc];cases Rs T s r with
 | none=>rfl
 | some p=>cases xc T s rs<;>rfl
def Rt {t:Nat->D} {i:Nat} : Rs T ⟨t,h,e⟩ (.tmp i)=cO h (t i):=al3
def afN (T:Nat->Option Ty) (h:Nat->Option Row) (d:D) (τ:Option Ty):Option (D×List Nat) :=
 match τ,d with
 | some τ,.ptr x v o=>match fK τ h (.ptr x v o) with|some E=>some (jP E.val,[])|none=>none
 | _,_=>none
def K9 {t:Nat->D} {i ty:Nat} : Rs T ⟨t,h,e⟩ (.cell i ty)=afN T h (t i) (T ty):=al3
def afO:Option cr->Option (D×List Nat)
 | some E=>some (jP E.val,[])
 | none=>none
def La {d:D} {w:List (Nat×Option Row)} : afO (some ⟨d,w⟩)=some (jP d,[]):=al3
def Rr {τ:Ty} {x v o:Nat} : afN T h (.ptr x v o) (some τ)=afO (fK τ h (.ptr x v o)):=by
 simp only[afN,afO]
def afl (p:Option (List D×List Nat)):Option (RK×Option Row) :=
 match p with
 | some (ds,_)=>some (.clean (nR ds),none)
 | none=>none
def J2 {a:List D} {fr:List Nat} : afl (some (a,fr))=some (.clean (nR a),none):=al3
def F7:gu .clean T none rs s=afl (xc T s rs):=by
 simp only[gu,sU,nD,abz,afl]<;>cases xc T s rs<;>rfl
def Fv {ty a n d:Nat} {cells:List D} {o:Option Row} : Xk h e (some d) fr (some (.fresh ty a n cells,o))=if fr.contains d=false then some ⟨.buf d e a 0 n,aaJ h fr (sV cells)++[(d,some ⟨e,ty,cells,false,true,false⟩)]⟩ else none:=by
 simp only[Xk]<;>cases sV cells<;>rfl
def Ch {k:IntKind} : ∀l:List Int,sV (al (eI k) l)=true
 | []=>rfl
 | x::l=>by
  have:=Ch (k:=k) l;simp only[bY,Bj,List.cons_append,List.nil_append,sV,jS,this,Bool.and_self]
def F8 {ty a i:Nat} {t:Nat->D} : gu (.fresh ty a) T none [.tmp i] ⟨t,h,e⟩=sg ty a h (t i):=al3
def Vl {ty a x v o n:Nat} : sg ty a h (.buf x v a o n)=yX ty a o n (live h x v):=by simp[sg]
def Pd {ty a o n:Nat} {r:Row} : yX ty a o n (some r)=if r.fz=false∧r.ty=ty∧o+n*a<=r.cells.length then some (.fresh ty a n ((r.cells.drop o).take (n*a)),none) else none:=al3
def HE {d:D} : nR [d]=d:=al3
def HF {d a:D} {b:List D} : nR (d::a::b)=.tup (d::a::b):=al3
end
def Vk (k:IntKind):(eI k).size=1:=al3
def Pc {α:Type} (e:iV α):(dU e).size=1:=al3
section
variable {α:Type} (E:iV α) {l m:List α} {x x' z:α} {i a b n c:Int} {B:Nat}
def s5 (h:P.idx l i=some x):0<=i∧i<l.length:=by
 unfold P.idx at h;split at h
 ·assumption
 ·cases h
def ME (h:P.idx l i=some x):l[i.toNat]? = some x:=by
 unfold P.idx at h;split at h
 ·exact h
 ·cases h
def y3 (h:P.idx l i=some x):(al E l).drop (i.toNat*E.size)=E.cells x++al E (l.drop (i.toNat+1)):=by
 have h':=ME h;obtain⟨a,rfl⟩:=ajO.1 h';rw[pQ,ala a];rfl
def ly (a:Nat) (h:P.idx l i=some x):(al E l).drop (i.toNat*E.size+a)=(E.cells x++al E (l.drop (i.toNat+1))).drop a:=by
 rw[<- ak1,y3 E h]
def kY (h:P.idx l i=some x):i.toNat*E.size+E.size<=l.length*E.size:=by
 have h':=s5 h;have:i.toNat+1<=l.length:=by omega
 have:=aj2 E.size this
 rwa [akZ]at this
def bk (h:P.idx l i=some x):(0<=i∧i<l.length)∧(al E l).drop (i.toNat*E.size)=E.cells x++al E (l.drop (i.toNat+1))∧i.toNat*E.size+E.size<=l.length*E.size:=⟨s5 h,y3 E h,kY E h⟩
def ku (a s:Nat) (b:a+s<=E.size) (h:P.idx l i=some x):i.toNat*E.size+a+s<=l.length*E.size:=by
 have:=kY E h;omega
def TW:∀(l:List α) (i:Nat) (x:α),l[i]? = some x->∀x',al E (l.set i x')=(al E l).take (i*E.size)++E.cells x'++(al E l).drop (i*E.size+E.size)
 | [],i,x,h,x'=>by simp at h
 | y::l,0,x,h,x'=>by
  rw[List.set_cons_zero,bY,bY,ak3,alb,akV,akl,akX,E.len,akq,akD,akY (by rw[E.len];exact ajo _),akV]
 | y::l,i+1,x,h,x'=>by
  have b:=TW l i x (by simpa using h) x';rw[List.set_cons_succ,bY,bY,b,akZ];have a:=E.len y;have c:(E.cells y++al E l).take (i*E.size+E.size)=E.cells y++(al E l).take (i*E.size):=by rw[List.take_append,a,akC (by omega),ak0]
  have d:(E.cells y++al E l).drop (i*E.size+E.size+E.size)=(al E l).drop (i*E.size+E.size):=by
   rw[akX,a,akY (by omega),akV,ak0]
  rw[c,d];simp only[aky]
def fL (fo:Nat) (cs:List D) (h:P.idx l i=some x) (d:E.cells x'=putCells (E.cells x) fo cs) (e:fo+cs.length<=E.size):putCells (al E l) (i.toNat*E.size+fo) cs=al E (l.set i.toNat x'):=by
 have h':=ME h;rw[TW E l i.toNat x h' x',d];have b:=y3 E h;have o:=kY E h;have q:=bN E l;have f:=E.len x;have a:al E l=(al E l).take (i.toNat*E.size)++(E.cells x++(al E l).drop (i.toNat*E.size+E.size)):=by
  have g:=ak2 (i.toNat*E.size) (al E l);have j:(al E l).drop (i.toNat*E.size+E.size)=al E (l.drop (i.toNat+1)):=by
   rw[<- ak1,b,akX,f,akq,akD,akY (by omega),akV]
  rw[j,<- b,g]
 generalize (al E l).drop (i.toNat*E.size+E.size)=r at *;generalize k:(al E l).take (i.toNat*E.size)=p at *;have c:p.length=i.toNat*E.size:=by rw[<- k];simp;omega
 unfold putCells;rw[a];have m:(p++(E.cells x++r)).take (i.toNat*E.size+fo)=p++(E.cells x).take fo:=by
  rw[List.take_append,c,akC (by omega),akA,akB (by omega)]
 have n:(p++(E.cells x++r)).drop (i.toNat*E.size+fo+cs.length)=(E.cells x).drop (fo+cs.length)++r:=by
  rw[ajG,akX,c,akY (by omega),akA,akV,akz (by omega)]
 rw[m,n];simp only[aky]
def abJ (h:P.idx l i=some x):putCells (al E l) (i.toNat*E.size) (E.cells x')=al E (l.set i.toNat x'):=by
 have:=fL E (x':=x') 0 (E.cells x') h (by unfold putCells;simp[E.len]) (by rw[E.len];omega);simpa using this
def abq (h:Io B n c z=some m):m=List.replicate n.toNat z∧0<=n∧n<=c∧c<=maxLen∧c.toNat*B<=140737488355328:=by
 unfold Io at h;split at h
 ·cases h;exact⟨rfl,by assumption⟩
 ·cases h
def mk_one (h:Io B n n z=some m):0<=n∧n.toNat=m.length∧m.length<=maxLen∧p7 m.length (E.cells z)=al E m∧m.length*B<=140737488355328:=by
 obtain⟨rfl,a,_,c,b⟩:=abq h;refine⟨a,by simp,by simp;omega,by rw[Ph];simp,by simpa using b⟩
def C6 (h:EZ l a b=some m):0<=a∧0<=b∧a.toNat<=b.toNat∧b.toNat<=l.length∧b.toNat-a.toNat=m.length∧(List.take (m.length*E.size) (List.drop (a.toNat*E.size) (al E l))=al E m):=by
 unfold EZ at h;split at h
 ·rename_i d;cases h;have c:((l.drop a.toNat).take (b.toNat-a.toNat)).length=b.toNat-a.toNat:=by simp;omega
  refine⟨d.1,by omega,by omega,by omega,c.symm,?_⟩;rw[c,pQ,kI]
 ·cases h
def afT (h:EZ l a b=some m):0<=a∧0<=b∧(a.toNat<=b.toNat∧b.toNat<=l.length)∧b.toNat-a.toNat=m.length∧(List.take (m.length*E.size) (List.drop (a.toNat*E.size) (al E l))=al E m):=by
 obtain⟨c,d,e,f,g,i⟩:=C6 E h;exact⟨c,d,⟨e,f⟩,g,i⟩
def abW (h:EZ l a (l.length:Int)=some m):0<=a∧0<=a∧a.toNat<=l.length∧l.length-a.toNat=m.length∧(List.take (m.length*E.size) (List.drop (a.toNat*E.size) (al E l))=al E m):=by
 obtain⟨b,f,c,g,d,e⟩:=C6 E h;simp only[Int.toNat_natCast]at c d;exact⟨b,b,c,d,e⟩
def TZ (h:EZ l 0 b=some m):0<=b∧0<=b∧m.length<=l.length∧b.toNat=m.length∧(List.take (m.length*E.size) (al E l)=al E m):=by
 obtain⟨f,c,g,i,d,e⟩:=C6 E h;have a:b.toNat=m.length:=by simpa using d
 refine⟨c,c,by omega,a,by simpa using e⟩
def Je {n:List α} (h:ou B l m=some n):n=l++m∧n.length<=maxLen∧n.length*B<=140737488355328:=by
 unfold ou at h;split at h
 ·rename_i a;cases h;exact⟨rfl,by rw[akn];exact a.1,by rw[akn];exact a.2⟩
 ·cases h
def jJ {n:List α} (h:ou B l [x]=some n):l.length+1=n.length∧al E l++E.cells x=al E n∧n.length<=maxLen∧n.length*B<=140737488355328:=by
 obtain⟨rfl,a,b⟩:=Je h;exact⟨by simp,by rw[jn];simp[al],a,b⟩
def yM {n:List α} (h:ou B [] l=some n):n=l∧l.length<=maxLen∧l.length*B<=140737488355328:=by
 obtain⟨rfl,a,b⟩:=Je h;exact⟨rfl,a,b⟩
end
def Ve {k:IntKind} {x y z:Int} (h:Xt k x y=some z):¬y=0∧k.wrap (x.tdiv y)=z:=by
 unfold Xt at h;split at h
 ·cases h
 ·cases h;exact⟨by assumption,rfl⟩
def V3 {k:IntKind} {x y z:Int} (h:X7 k x y=some z):¬y=0∧x.tmod y=z:=by
 unfold X7 at h;split at h
 ·cases h
 ·cases h;exact⟨by assumption,rfl⟩
def EX {k:IntKind} {x y z:Int} (h:I0 k x y=some z):¬y<0∧k.wrap (x*2 ^ (min y.toNat k.bits))=z:=by
 unfold I0 at h;split at h
 ·cases h
 ·cases h;exact⟨by assumption,rfl⟩
def wx {k:IntKind} {x y z:Int} (h:AN k x y=some z):¬y<0∧x.fdiv (2 ^ (min y.toNat k.bits))=z:=by
 unfold AN at h;split at h
 ·cases h
 ·cases h;exact⟨by assumption,rfl⟩
def U0 (op:BinOp) (k:IntKind) (x y:Int):Fp op k x y=mR op k x y:=al3
def uh.emp {P:Program} {f:FuncId} {i:RK} {a:Option Row} (v:uh P f none [.sl true true 0 []] i a) (x:uh P f none [.sl true false 0 []] i a):uh P f none [.sl false false 0 []] i a:=by
 intro w M vs k b;have l:=b.2 0 _ rfl;generalize m:vs.getD 0 undef=u at l;cases l with
 | sl A c nl tight n xs o p q y g z r s t =>
  cases A with
  | none =>
   refine v w M vs k ⟨b.1,fun j d e =>?_,b.tab⟩;cases j with
   | zero=>cases e;rw[m];exact .sl none c true true 0 [] o p q (fun _=>⟨fun _=>⟨rfl,(g rfl).2⟩,fun h=>by cases h⟩) g (fun _=>(g rfl).2) r s t
   | succ j=>simp at e
  | some A =>
   refine x w M vs k ⟨b.1,fun j d e =>?_,b.tab⟩;cases j with
   | zero=>cases e;rw[m];exact .sl (some A) c true false 0 [] o p q (fun _=>⟨(fun h=>by cases h),fun _ h=>by cases h⟩) g (fun h=>by cases h) r s t
   | succ j=>simp at e
def cn.aeP {P:Program} {T:Nat->Option Ty} {Γ:Env} (e:jH P T) (g:bV P Γ) (h:P.follows .mixedOrders=true) {α β:Type} {E:iV α} {F:List α->Option β} {R:β->RK} {mode:Mode} {f:FuncId} {a:Func} (d:P.funcs[f]? = some a) (b:(match a.body with|some c=>codeOk c|none=>true)=true)
  (k:(a.name == "runtime.NumGoroutine")=false∧a.body.isNone=false) (i:1<=a.ntmps)
  (m:∀r,F []=some r->kD mode T Γ FU a none [.sl true true 0 []]=some (R r,none))
  (n:∀r,F []=some r->kD mode T Γ FU a none [.sl true false 0 []]=some (R r,none))
  (o:∀l r,0<l.length->F l=some r->kD mode T Γ FU a none [.sl false false l.length (al E l)]=some (R r,none)):cn P f (eu (dS (j0 E)) F R) where
 calls lent ajj rk out p:=by
  obtain⟨rfl,rfl,l,r,rfl,j,rfl⟩:=u4 p;cases l with
  | nil=>exact uh.emp (lN e g h d b i rfl (m r j)) (lN e g h d b i rfl (n r j))
  | cons x l=>exact lN e g h d b i rfl (o (x::l) r (by simp) j)
 callable:=⟨a,d,k⟩
def adk {α:Type} (E:iV α) {B:Nat} {l n:List α} {i:Int} {x:α} (h:aaX B l i [x]=some n):0<=i∧i<=(l.length:Int)∧l.length+1=n.length∧n.length*B<=140737488355328 ∧
  (al E l).take (i.toNat*E.size)++(E.cells x++(al E l).drop (i.toNat*E.size))=al E n:=by
 unfold aaX at h;split at h
 ·rename_i b;cases h;obtain⟨c,d,-,e⟩:=b;have a:l.length+1=(l.take i.toNat++([x]++l.drop i.toNat)).length:=by simp;omega
  refine⟨c,d,a,by rw[<- a];exact e,?_⟩;rw[jn,jn,kI,pQ];simp[al]
 ·cases h
def SA {w:World} {M:Nat->Prop} {k:IntKind} {n:Int} {u:Value} (h:RP w M (.int k n) u):u=.int k n:=by cases h;rfl
def acw {vs:Array Value} (h:vs.size=1):vs = #[vs.getD 0 undef]:=by
 apply aks
 ·simp[h]
 ·intro i a b;have:i=0:=by omega
  subst this;simp[akr a]
def iw (b:Nat) {ty:Nat} {fr:Nat×Nat} : ∀(vs:List Value) (o:Nat) (w:World) (a:Array Value),w.heap[b]? = some (.cells a ty fr)->o+vs.length<=a.size ->
  (w.setCells b o vs).os=w.os∧(w.setCells b o vs).tape=w.tape∧(w.setCells b o vs).output=w.output∧(w.setCells b o vs).heap.size=w.heap.size∧(∀k,k≠b->(w.setCells b o vs).heap[k]? = w.heap[k]?) ∧
  ∃c,(w.setCells b o vs).heap[b]? = some (.cells c ty fr)∧c.size=a.size∧∀j,c[j]? = if o<=j∧j<o+vs.length then vs[j-o]? else a[j]?
 | [],o,w,a,h,_=>⟨rfl,rfl,rfl,rfl,fun k _=>rfl,a,h,rfl,fun j=>by rw[if_neg (by simp)]⟩
 | v::r,o,w,a,h,g=>by
  simp only[List.length_cons]at g;have d:(w.setCell ⟨b,o,none⟩ v).heap[b]? = some (.cells (a.setIfInBounds o v) ty fr):=by
   simp[World.setCell,ajx,h]
  obtain⟨i,l,m,n,p,c,q,s,t⟩:=iw b r (o+1) (w.setCell ⟨b,o,none⟩ v) _ d (by simp;omega);refine⟨i,l,m,n.trans (by simp[World.setCell]),fun k e=>(p k e).trans (by simp[World.setCell,ajx,Ne.symm e]),c,q,by simpa using s,fun j =>?_⟩;rw[t j,alc];simp only[List.length_cons]
  by_cases d:o+1<=j∧j<o+1+r.length
  ·rw[if_pos d,if_pos (by omega)];have:j-o=(j-(o+1))+1:=by omega
   rw[this,akk]
  ·rw[if_neg d]
   by_cases f:o=j
   ·subst f;rw[if_pos rfl,if_pos (by omega),if_pos (by omega),akq];rfl
   ·rw[if_neg f,if_neg (by omega)]
def vm1:=ai @Li<|ai @Rz<|ai @Ry<|ai @Lg<|ai @HM<|ai @Lh<|ai @aY<|ai @yp<|ai @wR<|ai @bc<|ai @zR<|ai @D9<|ai @HO<|ai @Lf<|ai @LJ<|ai @H6<|ai @Rw<|ai @Ld<|ai @HJ<|ai @LM<|ai @H7<|ai @H8<|ai @Eg<|ai @Rx<|ai @Le<|ai @HK<|ai @LN<|ai @Ia<|ai @Ib<|ai @Eh<|ai @RX<|ai @R1<|ai @Wv<|ai @Wy<|ai @Hw<|ai @D6<|ai @Hy<|ai @D7<|ai @OX<|ai @O3<|ai @OW<|ai @O2<|ai @FG<|ai @FI<|ai @JM<|ai @JT<|ai @OY<|ai @O4<|ai @OU<|@O0
def vm2:=ai @JR<|ai @JW<|ai @Bf<|ai @Bh<|ai @zB<|ai @zH<|ai @zC<|ai @zI<|ai @JO<|ai @JP<|ai @JN<|ai @JU<|ai @xA<|ai @xB<|ai @zD<|ai @zJ<|ai @JL<|ai @JS<|ai @Vf<|ai @DB<|ai @DC<|ai @DF<|ai @OT<|ai @OZ<|ai @DA<|ai @DE<|ai @QZ<|ai @Q9<|ai @Jo<|ai @Dn<|ai @JI<|ai @Pr<|ai @FP<|ai @FO<|ai @GB<|ai @GA<|ai @cA<|ai @DP<|ai @cI<|ai @W2<|ai @Jg<|ai @Jf<|@Ki
def vm3:=ai @Kj<|ai @Ed<|ai @H4<|ai @H3<|ai @Ef<|ai @yy<|ai @wT<|ai @wU<|ai @wV<|ai @Ec<|ai @zU<|ai @Ee<|ai @ve<|ai @H0<|ai @zT<|ai @B1<|ai @V7<|ai @QK<|ai @K8<|ai @K7<|ai @Kx<|ai @UX<|ai @N6<|ai @ZL<|ai @EM<|ai @UW<|ai @Jj<|ai @Fk<|ai @UY<|ai @Jk<|ai @JB<|ai @JC<|ai @Ot<|ai @Fy<|@OE
def vm4:=ai @OI<|ai @Oy<|ai @JE<|ai @U9<|ai @Ov<|ai @U8<|ai @U7<|ai @Ow<|ai @Oz<|ai @Z3<|ai @Z4<|ai @aes<|ai @Z1<|ai @Z2<|ai @OQ<|ai @Kg<|ai @Vz<|ai @U5<|ai @Jv<|ai @Jr<|ai @Fu<|ai @Kr<|ai @Gh<|ai @PA<|ai @VB<|ai @PB<|ai @JF<|ai @Fz<|ai @Ob<|ai @Ru<|ai @Lb<|ai @Rt<|ai @K9<|ai @Rr<|ai @La<|ai @F7<|ai @J2<|ai @Fv<|ai @Ch<|ai @F8<|ai @Vl<|ai @Pd<|ai @HE<|ai @HF<|ai @U0<|ai @Bu<|@bY
def vmk:=ai @Sb<|@Sc
def vmc:=ai @true_and<|ai @and_true<|ai @ajT<|ai @ajt<|ai @aj5<|ai @ak7<|ai @akD<|ai @ak8<|ai @alb<|ai @aj4<|ai @ako<|ai @List.contains_nil.{0}<|ai @akV<|ai @ak6<|ai @ak5<|ai @ajL<|ai @akk<|ai @decide_true<|ai @beq_self_eq_true.{0}<|ai @List.isEmpty_nil.{0}<|ai @List.isEmpty_cons.{0}<|ai @Option.map_none.{0,0}<|ai @ajv<|ai @List.all_cons.{0}<|ai @List.all_nil.{0}<|ai @ald<|ai @Bool.and_true<|ai @akF<|ai @ale<|ai @Bool.and_self<|ai @and_self<|ai @akl<|ai @ajU<|ai @ak3<|ai @Nat.sub_zero<|ai @ajp<|ai @ajo<|ai @ajw<|ai @alf<|ai @Bool.or_self<|@alg
def vm5:=ai @HN<|ai @aeq<|ai @Jl<|ai @Fl<|ai @Zv<|ai @US<|ai @OG<|ai @Vy<|ai @KP<|ai @P6<|ai @GH<|@P7
def vmu:=ai @Az.eq_1<|ai @Az.eq_2<|ai @ev.eq_1<|ai @ev.eq_2<|ai @ev.eq_4<|ai @qu.eq_1<|ai @qu.eq_2<|ai @qu.eq_3<|ai @qu.eq_4<|ai @fP.eq_1<|ai @fP.eq_2<|ai @Fo.eq_1<|ai @Fo.eq_3<|ai @nC.eq_1<|ai @nC.eq_2<|ai @nC.eq_3<|ai @jB.eq_1<|ai @jB.eq_2<|ai @jB.eq_3<|ai @jB.eq_4<|ai @jB.eq_5<|ai @jB.eq_6<|ai @jB.eq_7<|ai @jB.eq_10<|ai @jB.eq_11<|ai @jB.eq_12<|ai @jB.eq_13<|ai @jB.eq_14<|ai @jB.eq_15<|ai @YM.eq_1<|ai @YM.eq_4<|ai @adB.eq_1<|ai @aS.eq_1<|ai @aS.eq_2<|ai @gN.eq_1<|ai @gN.eq_3<|ai @fK.eq_1<|ai @fK.eq_2<|ai @live.eq_1<|ai @lA.eq_1<|ai @lA.eq_2<|ai @Ds.uO.eq_1<|ai @Ds.uO.eq_3<|ai @ez.eq_1<|ai @ez.eq_2<|ai @ez.eq_4<|ai @ez.eq_5<|ai @jS.eq_1<|ai @jS.eq_2<|ai @jS.eq_4<|ai @jS.eq_5<|ai @jS.eq_6<|ai @sV.eq_1<|ai @sV.eq_2<|ai @Ew.eq_2<|ai @Ew.eq_3<|ai @Ew.eq_4<|ai @alive.eq_3<|ai @nm.eq_2<|ai @jM.eq_1<|ai @jM.eq_5<|ai @jM.eq_6<|ai @iK.eq_1<|ai @tY.eq_1<|ai @pO.eq_1<|ai @cU.eq_1<|ai @cU.eq_2<|ai @mU.eq_1<|ai @iI.eq_3<|ai @iH.eq_1<|ai @ka.eq_1<|ai @ka.eq_2<|ai @fieldAt.eq_1<|ai @fc.eq_1<|ai @tP.eq_1<|ai @kH.eq_1<|ai @content.eq_1<|ai @content.eq_2<|ai @putCells.eq_1<|ai @eqD.eq_1<|ai @eqD.eq_2<|ai @AM.eq_1<|ai @AM.eq_2<|ai @bu.eq_1<|ai @bu.eq_3<|ai @bu.eq_4<|ai @s8.eq_1<|ai @z6.eq_2<|ai @z6.eq_3<|@z6.eq_4
def aia:=ai @Jt<|ai @Js<|ai @Vv<|ai @P3<|ai @PW<|ai @KL<|ai @Ju<|ai @Vw<|ai @P4<|ai @KM<|ai @PX<|ai @GG<|ai @PZ<|ai @PY<|ai @U3<|@Fq
section
variable {T:Nat->Option Ty} {Γ:Env} {N F e:Nat} {Q Q':Kt} {t:Nat->D} {h:Nat->Option Row}
def jY (hm:∀x t h e,Q x t h e->Q' x t h e):∀(ws:List W) (x:Ex) (t:Nat->D) (h:Nat->Option Row) (e:Nat),dL T Γ N F ws Q x t h e->dL T Γ N F ws Q' x t h e
 | [],x,t,h,e,hk=>hm _ _ _ _ hk
 | .code c::ws,x,t,h,e,hk=>by
  unfold dL at hk ⊢;cases x with
  | normal=>exact YW c t h e _ _ hk (fun x t h e b=>jY hm ws x t h e b)
  | exit n=>exact jY hm ws _ t h e hk
  | ret=>exact jY hm ws _ t h e hk
 | .blk id::ws,x,t,h,e,hk=>by
  unfold dL ZM at hk ⊢;cases x with
  | normal=>exact jY hm ws _ t h e hk
  | exit n =>
   simp only at hk ⊢;split at hk
   ·rename_i a;rw[if_pos a];exact jY hm ws _ t h e hk
   ·rename_i a;rw[if_neg a];exact jY hm ws _ t h e hk
  | ret=>exact jY hm ws _ t h e hk
def tp:∀(ws:List W) (k:Nat),dL T Γ N F ws Q=dL T Γ N F (ws.take k) (dL T Γ N F (ws.drop k) Q)
 | ws,0=>by simp[dL]
 | [],k+1=>by simp[dL]
 | .code c::ws,k+1=>by
  rw[ak8,ak7];funext x t h e;unfold dL;rw[tp ws k]
 | .blk id::ws,k+1=>by
  rw[ak8,ak7];funext x t h e;unfold dL;rw[tp ws k]
variable {σ:Type} {ops l:List Oper} {ws:List W} {dst:Option Nat} {fs:List mE} {d:D} {g:Nat}
def wF {J:σ->(Nat->D)->(Nat->Option Row)->Nat->Prop} {P:σ->Prop} {R:Kt} (a:∀s t h e,J s t h e->P s->R .normal t h e):∀x t h e,CK J P R x t h e->R x t h e:=by
 intro x t h e b;cases x with
 | normal=>obtain⟨s,c,d⟩:=b;exact a s t h e d c
 | exit n=>exact b
 | ret=>exact b
def zb (a:∀x t h e,Q x t h e->Q' x t h e) (b:mL T Γ N F ops l ws Q t h e):mL T Γ N F ops l ws Q' t h e:=zd (fun t h c=>jY a ws _ _ _ _ c) _ _ _ b
def zc (b:∀x t h e,Q x t h e->Q' x t h e) (c:nS T Γ N F ops l ws Q t h e fs):nS T Γ N F ops l ws Q' t h e fs:=za (fun t h fs a=>⟨a.1,jY b ws _ _ _ _ a.2⟩) _ _ _ _ c
def wm (k:Nat):mL T Γ N F ops l ws Q t h e=mL T Γ N F ops l (ws.take k) (dL T Γ N F (ws.drop k) Q) t h e:=by unfold mL;rw[tp ws k]
def wo (k:Nat):nS T Γ N F ops l ws Q t h e fs=nS T Γ N F ops l (ws.take k) (dL T Γ N F (ws.drop k) Q) t h e fs:=by unfold nS;rw[tp ws k]
def JQ (k:Nat) {o:Oper} : tw T Γ N F o ops l ws Q t h e=tw T Γ N F o ops l (ws.take k) (dL T Γ N F (ws.drop k) Q) t h e:=by
 unfold tw;congr 1;funext t E;rw[wm k]
def JV (k:Nat) {o:Oper} : wJ T Γ N F o ops l ws Q t h e fs=wJ T Γ N F o ops l (ws.take k) (dL T Γ N F (ws.drop k) Q) t h e fs:=by
 unfold wJ;congr 1;funext t E;rw[wo k]
def OV {o:Oper} (a:∀x t h e,Q x t h e->Q' x t h e) (b:tw T Γ N F o ops l ws Q t h e):tw T Γ N F o ops l ws Q' t h e:=B5 b fun _ _ c=>zb a c
def O1 {o:Oper} (a:∀x t h e,Q x t h e->Q' x t h e) (b:wJ T Γ N F o ops l ws Q t h e fs):wJ T Γ N F o ops l ws Q' t h e fs:=B5 b fun _ _ c=>zc a c
variable (k:Nat) (J:σ->(Nat->D)->(Nat->Option Row)->Nat->Prop) (P:σ->Prop)
def qV {x y:Code} (a:∀s t h e,J s t h e->P s->dL T Γ N F (ws.drop k) Q .normal t h e) (f:Nz T Γ N F d g x y (ws.take k) (CK J P (dL T Γ N F (ws.drop k) Q)) t h e):Nz T Γ N F d g x y ws Q t h e:=by
 unfold Nz at f ⊢;have i:∀c:Code,dL T Γ N F (.code c::ws) Q=dL T Γ N F (.code c::ws.take k) (dL T Γ N F (ws.drop k) Q):=fun c=>tp (.code c::ws) (k+1);rw[i,i];exact B3 f (fun _ b=>jY (wF a) _ _ _ _ _ b) (fun _ b=>jY (wF a) _ _ _ _ _ b)
def cR {b:Bool} {o:Oper} (a:∀s t h e,J s t h e->P s->dL T Γ N F (ws.drop k) Q .normal t h e) (f:zw T Γ N F d g b o ops l (ws.take k) (CK J P (dL T Γ N F (ws.drop k) Q)) t h e):zw T Γ N F d g b o ops l ws Q t h e:=by
 unfold zw at f ⊢;refine Ik f (fun t c =>?_) (fun t c =>?_) (fun t c =>?_)
 ·cases b
  ·simp only[ajT,if_false]at c ⊢;rw[wm k];exact zb (wF a) c
  ·simp only[if_true]at c ⊢;rw[JQ k];exact OV (wF a) c
 ·cases b
  ·simp only[ajT,if_false]at c ⊢;rw[JQ k];exact OV (wF a) c
  ·simp only[if_true]at c ⊢;rw[wm k];exact zb (wF a) c
 ·rw[wm k];exact zb (wF a) c
def acp {b:Bool} {o:Oper} (a:∀s t h e,J s t h e->P s->dL T Γ N F (ws.drop k) Q .normal t h e) (f:zx T Γ N F d g b o ops l (ws.take k) (CK J P (dL T Γ N F (ws.drop k) Q)) t h e fs):zx T Γ N F d g b o ops l ws Q t h e fs:=by
 unfold zx at f ⊢;refine Ik f (fun t c =>?_) (fun t c =>?_) (fun t c =>?_)
 ·cases b
  ·simp only[ajT,if_false]at c ⊢;rw[wo k];exact zc (wF a) c
  ·simp only[if_true]at c ⊢;rw[JV k];exact O1 (wF a) c
 ·cases b
  ·simp only[ajT,if_false]at c ⊢;rw[JV k];exact O1 (wF a) c
  ·simp only[if_true]at c ⊢;rw[wo k];exact zc (wF a) c
 ·rw[wo k];exact zc (wF a) c
end
def mkW {α β γ:Type} (ty:Nat) (E:iV γ) (A:kc α) (F:List γ->α->Option (List γ×β)) (R:β->RK):Option (D×Row)->List D->Option (RK×Option Row):=fun lent a =>
 match lent with
 | some (.buf 0 0 s o n,⟨0,ty',cells,false,true,false⟩)=>open Classical in
  if h:ty'=ty∧s=E.size∧∃p:List D×List γ×List D×α,cells=p.1++(al E p.2.1++p.2.2.1)∧o=p.1.length∧n=p.2.1.length∧a=A.ds p.2.2.2 then
   (F (Classical.choose h.2.2).2.1 (Classical.choose h.2.2).2.2.2).map fun r=>(R r.2,some ⟨0,ty,(Classical.choose h.2.2).1++(al E r.1++(Classical.choose h.2.2).2.2.1),false,true,false⟩)
  else none
 | _=>none
def W5 {γ:Type} {E:iV γ} {p a q c:List D} {l b:List γ} (h:p++(al E l++q)=a++(al E b++c)) (d:p.length=a.length) (e:l.length=b.length):p=a∧l=b∧q=c:=by
 obtain⟨f,g⟩:=ak9 h d;obtain⟨i,j⟩:=ak9 g (by rw[bN,bN,e]);exact⟨f,xM E _ _ i,j⟩
def abo {α β γ:Type} (ty:Nat) (E:iV γ) (A:kc α) (F:List γ->α->Option (List γ×β)) (R:β->RK) (c b:List D) (l:List γ) (a:α) :
  mkW ty E A F R (some (.buf 0 0 E.size c.length l.length,⟨0,ty,c++(al E l++b),false,true,false⟩)) (A.ds a)=(F l a).map fun r=>(R r.2,some ⟨0,ty,c++(al E r.1++b),false,true,false⟩):=by
 have h:ty=ty∧E.size=E.size∧∃p:List D×List γ×List D×α,c++(al E l++b)=p.1++(al E p.2.1++p.2.2.1)∧c.length=p.1.length∧l.length=p.2.1.length∧A.ds a=A.ds p.2.2.2:=⟨rfl,rfl,(c,l,b,a),rfl,rfl,rfl,rfl⟩;simp only[mkW];rw[dif_pos h];obtain⟨d,e,f,g⟩:=Classical.choose_spec h.2.2;obtain⟨i,j,k⟩:=W5 d e f;rw[<- A.inj _ _ g,<- i,<- j,<- k]
def QB {α β γ:Type} {ty:Nat} {E:iV γ} {A:kc α} {F:List γ->α->Option (List γ×β)} {R:β->RK} {lent:Option (D×Row)} {e:List D} {f:RK} {d:Option Row} (h:mkW ty E A F R lent e=some (f,d)) :
  ∃c l b a g r,lent=some (.buf 0 0 E.size c.length l.length,⟨0,ty,c++(al E l++b),false,true,false⟩)∧e=A.ds a∧F l a=some (g,r)∧f=R r∧d=some ⟨0,ty,c++(al E g++b),false,true,false⟩:=by
 unfold mkW at h;split at h
 ·split at h
  ·rename_i i;obtain⟨rfl,rfl,i⟩:=i;rw[ajm]at h;grind
  ·cases h
 ·cases h
def cn.agT {P:Program} {T:Nat->Option Ty} {Γ:Env} (k:jH P T) (m:bV P Γ) (n:P.follows .mixedOrders=true) {α β γ:Type} {ty:Nat} {E:iV γ} {A:kc α} {F:List γ->α->Option (List γ×β)} {R:β->RK} {mode:Mode} {f:FuncId} {e:Func} (j:P.funcs[f]? = some e) (i:(match e.body with|some c=>codeOk c|none=>true)=true)
  (o:(e.name == "runtime.NumGoroutine")=false∧e.body.isNone=false) (p:∀a,(A.ds a).length+1<=e.ntmps)
  (h:∀d b l a g r,F l a=some (g,r)->kD mode T Γ FU e (some (.buf 0 0 E.size d.length l.length,⟨0,ty,d++(al E l++b),false,true,false⟩)) (A.ds a)=some (R r,some ⟨0,ty,d++(al E g++b),false,true,false⟩)):cn P f (mkW ty E A F R) where
 calls lent ajj rk out q:=by
  obtain⟨d,l,b,a,g,r,rfl,rfl,s,rfl,rfl⟩:=QB q;exact lN k m n j i (p a) rfl (h d b l a g r s)
 callable:=⟨e,j,o⟩
end Go.Proofs.YtobnihfgnbnncaaGreat.Am
