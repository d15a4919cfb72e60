import Derived.Test.YtobnihfgnbnncaaGreatJb
set_option linter.unusedSimpArgs false
set_option linter.unusedVariables false
set_option linter.defProp false
noncomputable section
open Go.Proofs.Tryz
namespace Go.Proofs.YtobnihfgnbnncaaGreat.Am
open Go.RowKit
section
variable {T:Nat->Option Ty} {h h':Nat->Option Row} {e:Nat} {o:Oper} {Γ:Env}
def qX {x v:Nat} (a:h x=h' x):ic h x v=ic h' x v:=by simp[ic,a]
def o0 {x v:Nat} {q:Row×Nat×Nat×Nat×List D} (a:ic h x v=some q):x<PK:=by
 obtain⟨r,ty,s,nv,cs⟩:=q;exact (jK a).2.2.2.2.1
def D6:∀(l:List (Nat×Option Row)) {h h':Nat->Option Row},(∀p∈l,h (rt p.1)=h' (rt p.1))->mJ h l=mJ h' l
 | [],_,_,_=>rfl
 | (k,r)::l,h,h',c=>by
  have d:h (rt k)=h' (rt k):=c (k,r) (by simp);have e:B5 h k r=B5 h' k r:=by
   unfold B5;split
   ·rfl
   ·rename_i a;have:rt k=k % PK:=by unfold rt;rw[if_neg a]
    rw[<- this,d]
  unfold mJ;rw[e];congr 1;refine D6 l fun p f =>?_
  by_cases b:rt p.1=rt k
  ·rw[b,az,az]
  ·rw[aC _ _ b,aC _ _ b];grind
def D7:∀(l:List (Nat×Option Row)) {h:Nat->Option Row},∀p∈mJ h l,∃q∈l,p.1=rt q.1
 | [],_,p,a=>by simp[mJ]at a
 | (k,r)::l,h,p,a=>by
  unfold mJ at a;rcases ajF.1 a with rfl|a
  ·simp_all
  ·obtain⟨q,b,c⟩:=D7 l p a;grind
def YJ {τ:Ty} {p d:D} {E:cw} (a:p6 τ e h p d=some E):∀q∈E.hw,q.1<PK∧(q.1∈nm p∨q.1∈nm d):=by
 unfold p6 at a;split at a<;>try (cases a;done)
 rename_i f k g;split at a<;>try (cases a;done)
 rename_i r ty s nv cs n;have i:=o0 n;split at a<;>try (cases a;done)
 have one:∀ {l:Option Row} (q:Nat×Option Row),q∈[(f,l)]->q.1<PK∧(q.1∈nm (.ptr f k g)∨q.1∈nm d):=by
  intro l q c;simp only[ajT]at c;subst c;exact⟨i,.inl (by simp[nm,jR])⟩
 have b:∀ {m:Option (List D)},Nu τ f r ty s nv cs g m=some E->∀q∈E.hw,q.1<PK∧(q.1∈nm (.ptr f k g)∨q.1∈nm d):=by
  intro m a;unfold Nu at a;grind
 unfold I9 at a;split at a
 ·rename_i o t u v w;split at a<;>try (cases a;done)
  split at a
  ·split at a<;>try (cases a;done)
   unfold Ns at a;grind
  ·split at a<;>try (cases a;done)
   rename_i j;split at a<;>try (cases a;done)
   split at a<;>try (cases a;done)
   unfold Dp at a;split at a<;>try (cases a;done)
   cases a;intro q c;rcases ajF.1 c with rfl|c
   ·exact⟨j,.inr (by simp[nm,jR])⟩
   ·exact one q c
 ·exact b a
def X7 {τ:Ty} {p:D} {E:cw} (a:s4 τ h p=some E):∀q∈E.hw,q.1<PK∧q.1∈nm p:=by
 unfold s4 at a;split at a<;>try (cases a;done)
 rename_i e f g;split at a<;>try (cases a;done)
 rename_i r ty s nv cs d;have b:=o0 d;split at a<;>try (cases a;done)
 unfold TH at a;split at a<;>try (cases a;done)
 cases a;intro q c;simp only[ajT]at c;subst c;exact⟨b,by simp[nm,jR]⟩
def YL {τ:Ty} {p d:D} {E:cw} (a:s8 τ e h p d=some E):∀q∈E.hw,q.1<PK∧(q.1∈nm p∨q.1∈nm d):=by
 unfold s8 at a;split at a<;>try (cases a;done)
 rename_i g i j;split at a<;>try (cases a;done)
 rename_i r ty s nv cs f;have b:=o0 f;split at a<;>try (cases a;done)
 unfold Uc at a;split at a<;>try (cases a;done)
 split at a<;>try (cases a;done)
 unfold stZ at a;split at a<;>try (cases a;done)
 cases a;intro q c;simp only[ajT]at c;subst c;exact⟨b,.inl (by simp[nm,jR])⟩
def X6 {τ:Ty} {d:D} (b:∀x∈nm d,x<2*PK->h x=h' x):s4 τ h d=s4 τ h' d:=by
 unfold s4;split
 ·rename_i x v o
  by_cases c:x<2*PK
  ·rw[qX (b x (by simp[nm,jR]) c)]
  ·have a:∀h:Nat->Option Row,ic h x v=none:=by
    intro h;cases e:ic h x v with
    | none=>rfl
    | some q=>have:=o0 e;omega
   rw[a,a]
 ·rfl
def YK {τ:Ty} {p d:D} (c:∀x∈nm p,x<2*PK->h x=h' x):s8 τ e h p d=s8 τ e h' p d:=by
 unfold s8;split
 ·rename_i x v o
  by_cases a:x<2*PK
  ·rw[qX (c x (by simp[nm,jR]) a)]
  ·have b:∀h:Nat->Option Row,ic h x v=none:=by
    intro h;cases f:ic h x v with
    | none=>rfl
    | some q=>have:=o0 f;omega
   rw[b,b]
 ·rfl
def X8 {τ:Ty} {d:D} (b:∀x∈nm d,x<2*PK->h x=h' x):s5 τ h d=s5 τ h' d:=by
 unfold s5;split
 ·rename_i x v o
  by_cases c:x<2*PK
  ·rw[qX (b x (by simp[nm,jR]) c)]
  ·have a:∀h:Nat->Option Row,ic h x v=none:=by
    intro h;cases e:ic h x v with
    | none=>rfl
    | some q=>have:=o0 e;omega
   rw[a,a]
 ·rfl
def YI {τ:Ty} {p d:D} (f:∀x∈nm p,x<2*PK->h x=h' x) (g:∀x∈nm d,x<2*PK->h x=h' x):p6 τ e h p d=p6 τ e h' p d:=by
 unfold p6;split
 ·rename_i x v o
  by_cases a:x<2*PK
  rotate_left
  ·have c:∀h:Nat->Option Row,ic h x v=none:=by
    intro h;cases i:ic h x v with
    | none=>rfl
    | some q=>have:=o0 i;omega
   rw[c,c]
  rw[qX (f x (by simp[nm,jR]) a)];split
  ·split
   ·unfold I9;split
    ·rename_i y j k l n
     by_cases b:y<2*PK
     ·rw[dy (g y (by simp[nm,jR]) b)]
     grind
    ·rfl
   ·rfl
  ·rfl
 ·rfl
def gF {vs:Operand->D} {x:Nat} (a:x∈iU o vs):rt x∈cY o vs:=ajy.2 ⟨x,a,rfl⟩
def rn {vs:Operand->D} {y:Operand} (d:y∈o.op.operands.toList) (e:∀a b c,o.op ≠ .pick a b c) (f:∀a,o.op ≠ .move a) (g:∀a b c,o.op ≠ .makeFunc a b c) {x:Nat} (h:x∈nm (vs y)):x∈iU o vs:=by
 unfold iU;grind
def JH {vs:Operand->D} {q:D} {a:List D} (j:jH vs o.op=some (q,a)) (k:∀x∈cY o vs,h x=h' x):∀d∈a,∀x∈nm d,h (rt x)=h' (rt x):=by
 obtain⟨c,f,e,g,_,b⟩:=qN j;subst b;intro d l x i;obtain⟨y,m,rfl⟩:=ajy.1 l;exact k _ (gF (rn (y:=y) (by simp[e,Op.operands,Call.operands,g];simp_all) (by simp[e]) (by simp[e]) (by simp[e]) i))
def Ou {g:Nat} {a:List D} (i:∀d∈a,∀x∈nm d,h (rt x)=h' (rt x)):u9 Γ e h g a=u9 Γ e h' g a:=by
 unfold u9;split
 ·rename_i x v c rest;have b:bX (EH h) rest=bX (EH h') rest:=kE fun d k x f=>e9 (i d (akV _ k) x f)
  by_cases l:x<2*PK
  ·have:=i _ akU x (by simp[nm,jR]);rw[jD l]at this;rw[qX this,b]
  ·have j:∀h:Nat->Option Row,ic h x v=none:=by
    intro h;cases m:ic h x v with
    | none=>rfl
    | some q=>have:=o0 m;omega
   rw[j,j]
 ·rfl
def Pj {vs:Operand->D} (f:∀x∈cY o vs,h x=h' x):qQ Γ e h o.dst (jH vs o.op)=qQ Γ e h' o.dst (jH vs o.op):=by
 unfold qQ;split
 ·rename_i d g b c i;unfold Gb;split
  ·rw[kE fun d c x a=>e9 (JH i f d c x a)]
  ·rfl
 ·rfl
def Te {vs:Operand->D} (i:∀x∈cY o vs,h x=h' x):yb T Γ e o vs h=yb T Γ e o vs h':=by
 unfold yb;split
 ·rename_i ty p a;split
  ·have d:∀x∈nm (vs p),x<2*PK->h x=h' x:=fun x b f=>by
    have:=i _ (gF (rn (y:=p) (by simp[a,Op.operands]) (by simp[a]) (by simp[a]) (by simp[a]) b))
    rwa [jD f]at this
   unfold x4;rw[X8 d,X6 d]
  ·rfl
 ·rename_i ty p x a;split
  ·have d:∀x∈nm (vs p),x<2*PK->h x=h' x:=fun y b f=>by
    have:=i _ (gF (rn (y:=p) (by simp[a,Op.operands]) (by simp[a]) (by simp[a]) (by simp[a]) b))
    rwa [jD f]at this
   unfold yc;rw[YI d (fun y b f=>by
    have:=i _ (gF (rn (y:=x) (by simp[a,Op.operands]) (by simp[a]) (by simp[a]) (by simp[a]) b))
    rwa [jD f]at this),YK d]
  ·rfl
 ·rename_i c a;unfold D1;split
  ·rename_i g j k;exact Ou (JH (by rw[a];exact k) i)
  ·rfl
 ·rfl
def S9 {vs:Operand->D} (hx:∀x∈cY o vs,h x=h' x):sf T Γ e o vs h=sf T Γ e o vs h':=by
 have b:tP T Γ e o vs (EH h)=tP T Γ e o vs (EH h'):=XI fun x a=>e9 (hx _ (gF a));unfold sf;rw[b,Te hx,Pj hx];split
 ·rfl
 split
 ·rfl
 ·cases c:tP T Γ e o vs (EH h') with
  | none=>rfl
  | some E =>
   simp only[or2];rw[D6 E.hw fun p d=>hx _ (gF (J9 c p d))]
def Ta {vs:Operand->D} {E:cw} (b:sf T Γ e o vs h=some E):∀p∈E.hw,p.1∈cY o vs:=by
 unfold sf at b;split at b
 ·rename_i G a;simp only[ajH]at b;subst b;unfold jd at a;split at a<;>try (cases a;done)
  rotate_left
  ·rename_i ty i;split at a<;>try (cases a;done)
   rename_i d n;split at a<;>try (cases a;done)
   split at a<;>try (cases a;done)
   unfold mkA at a;split at a<;>try (cases a;done)
   rename_i t;cases a;intro p k;simp only[ajT]at k;subst k;have A:d∈iU o vs:=by
    unfold iU;simp_all
   have:=gF A
   rwa [jD (by omega)]at this
  rename_i ty l c i;split at a<;>try (cases a;done)
  rename_i d n;split at a<;>try (cases a;done)
  split at a<;>try (cases a;done)
  unfold rE at a;split at a<;>try (cases a;done)
  split at a<;>try (cases a;done)
  split at a<;>try (cases a;done)
  rename_i t;cases a;intro p k;simp only[ajT]at k;subst k;have A:d∈iU o vs:=by
   unfold iU;simp_all
  have:=gF A
  rwa [jD (by omega)]at this
 split at b
 ·rename_i G j;simp only[ajH]at b;subst b;unfold qQ at j;split at j<;>try (cases j;done)
  rename_i d g B n u;obtain⟨c,f,C,F,m,w⟩:=qN u;unfold Gb at j;split at j<;>try (cases j;done)
  obtain⟨_,_,_,_,_,_,_,_,_,L,rfl⟩:=Aj j;intro p k;simp only[ajT]at k;subst k;have A:d∈iU o vs:=by
   unfold iU;simp_all
  have:=gF A
  rwa [jD (by omega)]at this
 ·unfold or2 at b;split at b
  ·rename_i X M N;simp only[ajH]at b;subst b;intro p k;obtain⟨q,O,P⟩:=D7 M p k;rw[P];exact gF (J9 N q O)
  ·unfold yb at b;split at b
   ·rename_i ty p i;split at b<;>try (cases b;done)
    unfold x4 orE at b;split at b
    ·rename_i G H;simp only[ajH]at b;subst b;intro q m;obtain⟨Q,z⟩:=X7 H q m;have:q.1∈iU o vs:=rn (y:=p) (by simp[i,Op.operands]) (by simp[i]) (by simp[i]) (by simp[i]) z;have:=gF this
     rwa [jD (by omega)]at this
    rw[J8 b];simp_all
   ·rename_i ty p x i;split at b<;>try (cases b;done)
    intro q m;have I:q.1<PK∧(q.1∈nm (vs p)∨q.1∈nm (vs x)):=by
     unfold yc orE at b;split at b
     ·rename_i G H;simp only[ajH]at b;subst b;exact YL H q m
     ·exact YJ b q m
    obtain⟨Q,z⟩:=I;have:q.1∈iU o vs:=by
     rcases z with z|z
     ·exact rn (y:=p) (by simp[i,Op.operands]) (by simp[i]) (by simp[i]) (by simp[i]) z
     ·exact rn (y:=x) (by simp[i,Op.operands]) (by simp[i]) (by simp[i]) (by simp[i]) z
    have:=gF this
    rwa [jD (by omega)]at this
   ·rename_i c i;unfold D1 at b;split at b<;>try (cases b;done)
    rename_i g B u;obtain⟨Y,f,C,F,m,w⟩:=qN u;cases C;obtain⟨x,v,K,rest,r,ty,s,nv,cs,p,aju,R,d,S,U,V,_,_,_,_,_,rfl⟩:=we b;have W:=o0 V;intro q m;simp only[ajT]at m;subst m;obtain⟨y,Z,J⟩:∃y∈c.args.toList,vs y=.ptr x v K:=by
     have:(.ptr x v K:D)∈c.args.toList.map vs:=by grind
     simp_all
    have:x∈iU o vs:=rn (y:=y) (by simp[i,Op.operands,Call.operands,F];simp_all) (by simp[i]) (by simp[i]) (by simp[i]) (by rw[J];simp[nm,jR]);have:=gF this
    rwa [jD (by omega)]at this
   ·cases b
def adk {vs a:Operand->D} (hx:∀y∈o.op.operands.toList,vs y=a y):sf T Γ e o vs h=sf T Γ e o a h∧cY o vs=cY o a:=by
 obtain⟨i,j⟩:=afy (T:=T) (Γ:=Γ) (e:=e) (h:=EH h) hx;have k:jd T Γ e o vs=jd T Γ e o a:=by
  unfold jd;split
  ·rename_i ty l c b;rw[hx l (by simp[b,Op.operands]),hx c (by simp[b,Op.operands])]
  ·rfl
  ·rfl
 have g:∀c,o.op=.call c->jH vs (.call c)=jH a (.call c):=by
  intro c b;unfold jH;simp only;split
  ·rename_i f d;rw[hx f (by simp[b,Op.operands,Call.operands,d]),akX fun y m=>hx y (by simp[b,Op.operands,Call.operands,d];simp_all)]
  ·rfl
 have n:yb T Γ e o vs h=yb T Γ e o a h:=by
  unfold yb;split
  ·rename_i ty p b;rw[hx p (by simp[b,Op.operands])]
  ·rename_i ty p x b;rw[hx p (by simp[b,Op.operands]),hx x (by simp[b,Op.operands])]
  ·simp_all
  ·rfl
 have q:jH vs o.op=jH a o.op:=by
  by_cases r:∃c,o.op=.call c
  ·grind
  ·unfold jH;simp_all
 unfold sf cY;simp_all
end
structure mL where
 tc:List Nat
 q:Bool
def yp (ops:Array Oper) (t:Nat->D) (o:Oper):Option Bool :=
 match o.guard with
 | none=>some true
 | some (j,a) =>
  match (ops[j]?).bind (·.dst) with
  | some g=>match t g with | .bool b=>some (b==a) | .skp=>some false|_=>none
  | none=>none
def fQ (t:Nat->D) (dst:Option Nat) (d:D):Nat->D :=
 match dst with
 | none=>t
 | some i=>cd t i d
def fits (N:Nat) (dst:Option Nat):Bool :=
 match dst with
 | none=>true
 | some i=>decide (i<N)
def step1 (T:Nat->Option Ty) (Γ:Env) (N e:Nat) (ops:Array Oper) (o:Oper) (t:Nat->D) (h:Nat->Option Row):Option ((Nat->D)×(Nat->Option Row)×mL) :=
 if fits N o.dst then
  match yp ops t o with
  | some true =>
   match sf T Γ e o (ev t) h with
   | some E=>some (fQ t o.dst E.val,aV h E.hw,⟨cY o (ev t),E.hw.isEmpty⟩)
   | none=>none
  | some false=>some (fQ t o.dst .skp,h,⟨[],true⟩)
  | none=>none
 else none
section
variable {P:Program} {T:Nat->Option Ty} {N:Nat} {M:Nat->Prop} {L:kZ} {w0:World} {blk:Nat->Option (Nat×Nat)} {t:Nat->D} {h:Nat->Option Row} {a:Act} {w:World} {e:Nat} {o:Oper} {Γ:Env} {ops:Array Oper}
def BP {V:Nat->Nat->Prop} (p:Inv N M L w0 blk V t h a w) {b:Bool} (c:yp ops t o=some b):Region.wanted o (yielded ops a.tmps)=b:=by
 unfold yp at c;split at c
 ·rename_i i;simp only[ajH]at c;subst c;simp[Region.wanted,i]
 ·rename_i j e i;split at c
  ·rename_i g l;split at c
   ·rename_i q m;simp only[ajH]at c;subst c;have f:=p.slots g;rw[m]at f;have d:=y3 f;have r:a.tmps[g]? = some (.bool q):=by
     simp only[ajD]at d;cases k:a.tmps[g]? with
     | none=>rw[k]at d;cases d
     | some v=>simp_all
    have n:yielded ops a.tmps j=some q:=by
     unfold yielded;simp_all
    simp only[Region.wanted,i,n];simp_all
   ·rename_i m;simp only[ajH]at c;subst c;have f:=p.slots g;rw[m]at f;have d:a.tmps.getD g undef=undef:=f;have n:yielded ops a.tmps j=none:=by
     unfold yielded;rw[l];simp only[ajD]at d;cases k:a.tmps[g]? with
     | none=>simp_all
     | some v=>rw[k]at d;simp only[Option.getD_some]at d;subst d;simp only[Option.bind_some,k];rfl
    simp only[Region.wanted,i,n]<;>cases e<;>rfl
   ·cases c
  ·cases c
def Inv.afY {V:Nat->Nat->Prop} (b:Inv N M L w0 blk V t h a w) (c:fits N o.dst=true) {d:D} {v:Value} (e:RT w (Own M h blk) h blk V d v):Inv N M L w0 blk V (fQ t o.dst d) h (a.put o.dst v) w:=by
 cases f:o.dst with
 | none=>simpa [fQ,Act.put] using b
 | some i =>
  rw[f]at c;exact b.put (by simpa [fits] using c) e
def Nv (u:jN P T) (y:bY P Γ) {done:List Nat} {q:Nat->D} {h':Nat->Option Row} {f:mL} {K:Act->World->Prop} {Q:Exit->Act->World->Prop} (i:vR N M L w0 blk e done t h a w)
  (b:step1 T Γ N e ops o t h=some (q,h',f)) (z:∀d,o.dst=some d->d∉done) (r:∀s m c,vR N M L w0 c e (o.dst.toList++done) q h' s m->K s m) :
  if Region.wanted o (yielded ops a.tmps) then o.wp P a w K Q∨(o.asks P a w∧LetsOut Q) else K (a.put o.dst undef) w:=by
 unfold step1 at b;split at b
 ·rename_i l;split at b
  ·rename_i p;rw[BP i.inv p];simp only[if_true];split at b
   ·rename_i E A;simp only[ajH,Prod.mk.injEq]at b;obtain⟨rfl,rfl,_⟩:=b;have:=Tb u y i (fun d j=>⟨z d j,by rw[j]at l;simpa [fits] using l⟩) A;refine .inl (this.wp fun v m B =>?_);obtain⟨c,k,C⟩:=B;exact r _ _ c ⟨k.inv.afY l C,k.nv⟩
   ·cases b
  ·rename_i p;rw[BP i.inv p];simp only[aj4,if_false];simp only[ajH,Prod.mk.injEq]at b;obtain⟨rfl,rfl,_⟩:=b;have g:∀x,x∈done->x∈o.dst.toList++done:=fun x hx=>ajN _ hx;exact r _ _ blk ⟨(i.inv.afY l (d := .skp) (v:=undef) rfl).weaken fun x n hx=>hx.step (.refl e h) g,i.nv.step (.refl e h) g⟩
  ·cases b
 ·cases b
def gL {x:Nat} : ∀ {l:List (Nat×Option Row)} {h:Nat->Option Row},(∀p∈l,p.1≠x)->aV h l x=h x
 | [],_,_=>rfl
 | (y,r)::l,h,hn=>by
  simp only[aV];rw[gL (fun p a=>hn p (by simp[a]))];exact aC _ _ (fun e=>hn (y,r) (by simp) e.symm)
def Cp {x:Nat} : ∀ {l:List (Nat×Option Row)} {h h':Nat->Option Row},(∃p∈l,p.1=x)->aV h l x=aV h' l x
 | [],_,_,he=>by simp_all
 | (y,r)::l,h,h',he=>by
  simp only[aV]
  by_cases hl:∃p∈l,p.1=x
  ·exact Cp hl
  ·have c:∀p∈l,p.1≠x:=fun p b a=>hl ⟨p,b,a⟩;rw[gL c,gL c];obtain⟨p,b,a⟩:=he;rcases ajF.1 b with rfl|b
   ·simp only at a;subst a;rw[az,az]
   grind
def Oa {l l':List (Nat×Option Row)} {h:Nat->Option Row} (hd:∀p∈l,∀q∈l',p.1≠q.1):aV (aV h l) l'=aV (aV h l') l:=by
 funext x
 by_cases h1:∃p∈l,p.1=x
 ·obtain⟨p,b,rfl⟩:=h1;rw[gL (fun q f e=>hd p b q f e.symm)];exact Cp ⟨p,b,rfl⟩
 ·have d:∀p∈l,p.1≠x:=fun p b a=>h1 ⟨p,b,a⟩;rw[gL d]
  by_cases h2:∃p∈l',p.1=x
  ·exact Cp h2
  ·have c:∀p∈l',p.1≠x:=fun p b a=>h2 ⟨p,b,a⟩;rw[gL c,gL c,gL d]
def Yw {t:Nat->D} {x y:Option Nat} {v u:D} (hne:∀d,x=some d->y≠some d):fQ (fQ t x v) y u=fQ (fQ t y u) x v:=by
 cases x with
 | none=>rfl
 | some i =>
  cases y with
  | none=>rfl
  | some j=>exact acE t v u (fun e=>hne i rfl (by rw[e]))
def Wu {t:Nat->D} {x:Option Nat} {v:D} {s:Nat} (hne:x≠some s):fQ t x v s=t s:=by
 cases x with
 | none=>rfl
 | some i=>exact aC _ _ (fun e=>hne (by rw[e]))
def Sb {t t1:Nat->D} {h m:Nat->Option Row} {f:mL} (b:step1 T Γ N e ops o t h=some (t1,m,f)) :
  ∃v hw,t1=fQ t o.dst v∧m=aV h hw∧(∀p∈hw,p.1∈f.tc)∧(f.q=true->hw=[]) ∧
   ∀a h',(∀s∈o.looksAt ops,t s=a s)->(∀x∈f.tc,h x=h' x)->step1 T Γ N e ops o a h'=some (fQ a o.dst v,aV h' hw,f):=by
 have k:∀a:Nat->D,(∀s∈o.looksAt ops,t s=a s)->yp ops t o=yp ops a o:=by
  intro a c;unfold yp;split
  ·rfl
  ·rename_i j n r;split
   ·rename_i g d;rw[c g (by simp[Oper.looksAt,r,d])]
   ·rfl
 have l:∀a:Nat->D,(∀s∈o.looksAt ops,t s=a s)->∀y∈o.op.operands.toList,ev t y=ev a y:=by
  intro a c y F;cases y with
  | tmp i=>exact c i (by unfold Oper.looksAt;grind)
  | const v=>rfl
  | global g=>rfl
  | func f=>rfl
 unfold step1 at b;split at b
 ·rename_i u;split at b
  ·rename_i d;split at b
   ·rename_i E q;simp only[ajH,Prod.mk.injEq]at b;obtain⟨rfl,rfl,rfl⟩:=b;refine⟨E.val,E.hw,rfl,rfl,Ta q,fun w=>by simpa using w,fun a h' c hh =>?_⟩;obtain⟨z,A⟩:=adk (T:=T) (Γ:=Γ) (e:=e) (h:=h) (l a c);have G:sf T Γ e o (ev a) h'=some E:=by
     rw[<- q,z];exact (S9 (fun x B=>hh x (by rw[A];exact B))).symm
    unfold step1;grind
   ·cases b
  ·rename_i d;simp only[ajH,Prod.mk.injEq]at b;obtain⟨rfl,rfl,rfl⟩:=b;refine⟨.skp,[],rfl,rfl,fun p C=>by simp at C,fun _=>rfl,fun a h' c hh =>?_⟩;unfold step1;rw[if_pos u,<- k a c,d];rfl
  ·cases b
 ·cases b
def SK (T:Nat->Option Ty) (Γ:Env) (N e:Nat) (ops:Array Oper) (F:Nat->mL):List Nat->(Nat->D)->(Nat->Option Row)->(Nat->D)->(Nat->Option Row)->Prop
 | [],t,h,a,h'=>t=a∧h=h'
 | i::L,t,h,a,h'=>∃o t1 b,ops[i]? = some o∧step1 T Γ N e ops o t h=some (t1,b,F i)∧SK T Γ N e ops F L t1 b a h'
def adg (l a:List Nat):Bool:=l.all fun x => !a.contains x
structure UI (ops:Array Oper) (F:Nat->mL) (j i:Nat):Prop where
 apart:∀oj oi,ops[j]? = some oj->ops[i]? = some oi->oj.apart ops oi=true
 foot:((F j).q&&(F i).q||adg (F j).tc (F i).tc)=true
def swap {F:Nat->mL} {i j:Nat} {L:List Nat} {t H:Nat->D} {h h':Nat->Option Row} (K:SK T Γ N e ops F (j::i::L) t h H h') (I:UI ops F j i):SK T Γ N e ops F (i::j::L) t h H h':=by
 obtain⟨v,t1,h1,c,w,u,t2,P,f,z,b⟩:=K;obtain⟨a1,a2,a3⟩:=Oper.apart_spec (I.apart v u c f);obtain⟨Q,J,rfl,rfl,R,S,g⟩:=Sb w;obtain⟨vi,A,rfl,rfl,M,U,k⟩:=Sb z;have a:=I.foot;simp only[Bool.or_eq_true,aj6]at a;have d1:∀x∈(F i).tc,∀p∈J,p.1≠x:=by
  intro x m p B C;rcases a with⟨h1,_⟩|h1
  ·simp_all
  ·simp only[adg,ajJ]at h1;grind
 have d2:∀x∈(F j).tc,∀p∈A,p.1≠x:=by
  intro x m p B C;rcases a with⟨_,h1⟩|h1
  ·simp_all
  ·simp only[adg,ajJ]at h1;grind
 have n:=k t h (fun s E=>Wu (fun o=>a1 s o E)) (fun x m=>gL (d1 x m));have r:=g (fQ t u.dst vi) (aV h A) (fun s E=>(Wu (fun o=>a3 s o E)).symm) (fun x m=>(gL (d2 x m)).symm);refine⟨u,_,_,f,n,v,_,_,c,r,?_⟩;rw[Yw (x:=u.dst) (y:=v.dst) (fun d o G=>a2 d G o),Oa (l:=A) (l':=J) (fun p B q O C=>d1 p.1 (M p B) q O C.symm)];exact b
def front {F:Nat->mL} {i:Nat} {a:List Nat} : ∀ {pre:List Nat} {t c:Nat->D} {h h':Nat->Option Row},SK T Γ N e ops F (pre++i::a) t h c h'->(∀j∈pre,UI ops F j i)->SK T Γ N e ops F (i::(pre++a)) t h c h'
 | [],_,_,_,_,hr,_=>hr
 | j::pre,t,c,h,h',hr,hi=>by
  obtain⟨g,t1,l,d,f,b⟩:=hr;have m:=front (pre:=pre) b (fun k n=>hi k (by simp[n]));exact swap ⟨g,t1,l,d,f,m⟩ (hi j (by simp))
def direct (o:Oper):List Nat:=(o.after.toList.filter (Region.binds .any)).map (·.on)
def zb:List Oper->List (List Nat)->List (List Nat)
 | [],acc=>acc
 | o::l,acc=>zb l (acc++[direct o++(direct o).flatMap fun k=>acc.getD k []])
def aft (ops:Array Oper):List (List Nat):=zb ops.toList []
def FM (S:Nat->Prop):∀(l:List Oper) (acc:List (List Nat)) (k:Nat),k=acc.length->(∀i j,j∈acc.getD i []->i<k->(∀m o,ops[m]? = some o->S m->∀d∈direct o,S d)->(∀o,ops[i]? = some o->∀d∈direct o,S d)->S j) ->
  (∀j,l[j]? = ops[k+j]?)->∀i j,j∈(zb l acc).getD i []->(∀m o,ops[m]? = some o->S m->∀d∈direct o,S d)->(∀o,ops[i]? = some o->∀d∈direct o,S d)->S j
 | [],acc,k,hk,a,e,i,j,b,g,h=>by
  simp only[zb]at b;grind
 | o::l,acc,k,hk,a,e,i,j,b,g,h=>by
  simp only[zb]at b;refine FM S l _ (k+1) (by simp[hk]) ?_ (fun j=>by have:=e (j+1);grind) i j b g h;intro c s f n p q
  by_cases r:c<k
  ·grind
  ·obtain rfl:c=k:=by omega
   have:(acc++[direct o++(direct o).flatMap fun k=>acc.getD k []]).getD c []=direct o++(direct o).flatMap fun k=>acc.getD k []:=by
    simp_all
   rw[this]at f;have t:ops[c]? = some o:=by have:=e 0;simp_all
   grind
def adb {S:Nat->Prop} {i j:Nat} (a:j∈(aft ops).getD i []) (b:∀m o,ops[m]? = some o->S m->∀d∈direct o,S d) (c:∀o,ops[i]? = some o->∀d∈direct o,S d):S j :=
 FM S ops.toList [] 0 rfl (fun i j a _ _ _=>by simp at a) (fun j=>by simp) i j a b c
def aai (acc:List Nat):List Nat->Nat
 | []=>0
 | k::l=>(2 ^ k ||| acc.getD k 0) ||| aai acc l
def FN:List Oper->List Nat->List Nat
 | [],acc=>acc
 | o::l,acc=>FN l (acc++[aai acc (direct o)])
def Vh (ops:Array Oper):List Nat:=FN ops.toList []
def Vj {a:List Nat} {j:Nat} : ∀ {l:List Nat},(aai a l).testBit j=true->j∈l∨∃k∈l,(a.getD k 0).testBit j=true
 | [],h=>by simp[aai]at h
 | k::l,h=>by
  simp only[aai,Nat.testBit_or,Bool.or_eq_true,Nat.testBit_two_pow,decide_eq_true_eq]at h;rcases h with (rfl|h)|h
  ·simp_all
  ·simp_all
  ·rcases Vj h with h|⟨b,c,d⟩
   ·simp_all
   grind
def DN:∀(l:List Oper) (a:List Nat) (c:List (List Nat)),a.length=c.length->(∀i j,(a.getD i 0).testBit j=true->j∈c.getD i [])->∀i j,((FN l a).getD i 0).testBit j=true->j∈(zb l c).getD i []
 | [],_,_,_,h,i,j,d=>h i j d
 | o::l,a,c,e,h,i,j,d=>by
  refine DN l _ _ (by simp[e]) (fun f n b =>?_) i j d
  by_cases g:f<a.length
  ·rw[aj7,akm g,<- aj7]at b;grind
  ·by_cases m:f=a.length
   ·subst m;rw[aj7,ako (ajz _),akB]at b;simp only[List.getElem?_cons_zero,Option.getD_some]at b;rw[e,aj7,ako (ajz _),akB];simp only[List.getElem?_cons_zero,Option.getD_some,akT,akS];rcases Vj b with b|⟨k,p,b⟩
    ·exact .inl b
    grind
   grind
def Z5 {i j:Nat} (h:((Vh ops).getD i 0).testBit j=true):j∈(aft ops).getD i [] :=
 DN ops.toList [] [] rfl (fun i j h=>by simp at h) i j h
def UQ (ops:Array Oper) (F:Nat->mL):Prop:=∀j i,j<i->i<ops.size->j∈(aft ops).getD i []∨UI ops F j i
def Y2 (hT:jN P T) (hΓ:bY P Γ) {F:Nat->mL} {Q:Exit->Act->World->Prop} {t':Nat->D} {h':Nat->Option Row} (hp:UQ ops F) (q:∀i o,ops[i]? = some o->∀d∈direct o,d<i)
  (ag:∀(i j:Nat) (oi oj:Oper) (d:Nat),ops[i]? = some oi->ops[j]? = some oj->oi.dst=some d->oj.dst=some d->i=j) (hQ:∀G H f done,vR N M L w0 f e done t' h' G H->Q .normal G H) :
  ∀(n:Nat) (LL:List Nat) (listed:Array Bool) (t:Nat->D) (h:Nat->Option Row) (a:Act) (w:World) (blk:Nat->Option (Nat×Nat)) (done:List Nat),LL.length=n->(∀i,i∈LL↔listed.getD i true=false)->LL.Pairwise (· < ·)->(∀i∈LL,i<ops.size)->listed.size=ops.size ->
   (∀i o,ops[i]? = some o->listed.getD i false=true->∀d∈direct o,listed.getD d false=true)->(∀d∈done,∃i o,ops[i]? = some o∧o.dst=some d∧listed.getD i false=true) ->
   SK T Γ N e ops F LL t h t' h'->vR N M L w0 blk e done t h a w->wpAny P .any ops Q n listed a w:=by
 intro n
 induction n with
 | zero =>
  intro LL listed t h a w blk done U V W hlt x hdown g I X;have:LL=[]:=akF U;subst this;obtain⟨rfl,rfl⟩:=I;refine⟨?_,hQ a w blk done X⟩;refine List.eq_nil_iff_forall_not_mem.2 fun i Y =>?_;have:=(mem_ready.1 Y).1;grind
 | succ n ih =>
  intro LL listed t h a w blk done U V W hlt x hdown g I X;refine⟨fun J =>?_,fun i Y =>?_⟩
  ·cases LL with
   | nil=>simp at U
   | cons i LL =>
    obtain⟨o,t1,h1,y,_⟩:=I;have K:i∈Region.ready .any ops listed:=by
     refine mem_ready.2 ⟨(V i).1 (by simp),o,y,fun O z hb =>?_⟩;have b:O.on∈direct o:=ajy.2 ⟨O,ak0.2 ⟨by simpa using z,hb⟩,rfl⟩;have ah:=q i o y _ b
     by_cases hm:O.on∈i::LL
     ·rcases ajF.1 hm with hm|hm
      ·omega
      ·have:=(ak1.1 W).1 _ hm;omega
     grind
    grind
  ·obtain⟨Z,o,y,R⟩:=mem_ready.1 Y;have A:i∈LL:=(V i).2 Z;obtain⟨p,l,rfl⟩:=List.append_of_mem A;have B:i<listed.size:=by grind
   have C:∀d∈direct o,listed.getD d false=true:=by
    intro d b;obtain⟨O,z,rfl⟩:=ajy.1 b;grind
   have E:∀j∈p,UI ops F j i:=by
    intro j hj;have aa:j<i:=by
     grind
    rcases hp j i aa (hlt i A) with hc|hc
    ·have aj:listed.getD j false=true:=adb (S:=fun m=>listed.getD m false=true) hc (fun m om hm ab d b=>hdown m om hm ab d b) (fun o' r d b=>by
      grind)
     grind
    ·exact hc
   obtain⟨o',t1,h1,r,s,u⟩:=front I E;rw[y]at r;cases r;unfold wpOp;simp only[y];refine Nv hT hΓ X s (fun d b ak =>?_) (fun G H f ad =>?_)
   ·grind
   ·have ai:∀k,(listed.setIfInBounds i true).getD k false=true↔k=i∨listed.getD k false=true:=by
     intro k
     by_cases c:k=i
     ·subst c;simp[B]
     ·rw[getD_set_ne false (Ne.symm c)];simp[c]
    have v:∀k,(listed.setIfInBounds i true).getD k true=false↔k≠i∧listed.getD k true=false:=by
     intro k
     by_cases c:k=i
     ·grind
     ·rw[getD_set_ne true (Ne.symm c)];simp[c]
    have al:(p++i::l).Nodup:=W.imp (fun h=>Nat.ne_of_lt h);refine ih (p++l) (listed.setIfInBounds i true) t1 h1 G H f _ (by grind) (fun k =>?_) ?_ (fun k hk=>hlt k (by grind)) (by simpa using x) (fun k ok hk ae d b =>?_) (fun d b =>?_) u ad
    ·rw[v];constructor
     ·intro hk;have ao:k∈p++i::l:=by grind
      grind
     grind
    ·grind
    ·grind
    ·rcases akT.1 b with b|b
     ·grind
     ·obtain⟨k,ok,hk,aq,ae⟩:=g d b;grind
end
def Dj (T:Nat->Option Ty) (Γ:Env) (N e:Nat) (ops:Array Oper):List Oper->(Nat->D)->(Nat->Option Row)->Option ((Nat->D)×(Nat->Option Row)×List mL)
 | [],t,h=>some (t,h,[])
 | o::l,t,h =>
  match step1 T Γ N e ops o t h with
  | some (t1,a,f) =>
   match Dj T Γ N e ops l t1 a with
   | some (t2,h2,fs)=>some (t2,h2,f::fs)
   | none=>none
  | none=>none
def MY:List Nat->Bool
 | []=>true
 | x::l => !l.contains x&&MY l
def aay (ops:Array Oper):Bool:=MY (ops.toList.filterMap (·.dst))
def U1 (ops:Array Oper) (j i:Nat):Bool :=
 match ops[j]?,ops[i]? with
 | some oj,some oi=>oj.apart ops oi
 | _,_=>true
def S8 (ops:Array Oper):Bool :=
 (ops.toList.zipIdx.all fun p=>(direct p.1).all fun d=>decide (d<p.2)) &&
 ((List.range ops.size).all fun i=>(List.range i).all fun j=>((Vh ops).getD i 0).testBit j||U1 ops j i)
def Lc (ops:Array Oper):List (Nat×Nat):=(List.range ops.size).flatMap fun i=>((List.range i).filter fun j => !((Vh ops).getD i 0).testBit j).map fun j=>(j,i)
def abP (fs:List mL) (p:Nat×Nat):Bool :=
 match fs[p.1]?,fs[p.2]? with
 | some f,some g=>f.q&&g.q||adg f.tc g.tc
 | _,_=>false
def F4 (ops:Array Oper) (fs:List mL):Bool:=(Lc ops).all (abP fs)
inductive Ex where
 | normal
 | exit (n:Nat)
 | ret
structure St where
 t:Nat->D
 h:Nat->Option Row
 e:Nat
def iter (f:St->Option (Ex×St)):Nat->St->Option (Ex×St)
 | 0,_=>none
 | n+1,s =>
  match f s with
  | some (.normal,s1)=>iter f n s1
  | r=>r
def zy (T:Nat->Option Ty) (Γ:Env) (N:Nat) (ops:Array Oper) (a:Bool) (s:St):Option (Ex×St) :=
 match Dj T Γ N s.e ops ops.toList s.t s.h with
 | some (t,h,fs)=>if !a||F4 ops fs then some (.normal,⟨t,h,s.e+1⟩) else none
 | none=>none
def Ss (d:D) (x y:Option (Ex×St)):Option (Ex×St) :=
 match d with
 | .bool b=>if b then x else y
 | _=>none
def agw (r:Option (Ex×St)) (k:St->Option (Ex×St)):Option (Ex×St) :=
 match r with
 | some (.normal,s)=>k s
 | r=>r
def Uz (id:Nat) (r:Option (Ex×St)):Option (Ex×St) :=
 match r with
 | some (.exit n,s)=>if n=id then some (.normal,s) else some (.exit n,s)
 | r=>r
def il (T:Nat->Option Ty) (Γ:Env) (N F:Nat):Code->St->Option (Ex×St)
 | .skip,s=>some (.normal,s)
 | .region _ ops draw,s=>zy T Γ N ops draw s
 | .seq a b,s=>agw (il T Γ N F a s) (il T Γ N F b)
 | .cond c x y,s=>Ss (ev s.t c) (il T Γ N F x s) (il T Γ N F y s)
 | .block id b,s=>Uz id (il T Γ N F b s)
 | .loop b,s=>iter (il T Γ N F b) F s
 | .exit id,s=>some (.exit id,s)
 | .ret,s=>some (.ret,s)
 | _,_=>none
def codeOk:Code->Bool
 | .region _ ops draw=>aay ops&&(!draw||S8 ops)
 | .seq a b=>codeOk a&&codeOk b
 | .cond _ x y=>codeOk x&&codeOk y
 | .block _ b=>codeOk b
 | .loop b=>codeOk b
 | _=>true
section
variable {P:Program} {T:Nat->Option Ty} {N:Nat} {M:Nat->Prop} {L:kZ} {w0:World} {blk:Nat->Option (Nat×Nat)} {t:Nat->D} {h:Nat->Option Row} {a:Act} {w:World} {e:Nat} {o:Oper} {Γ:Env} {ops:Array Oper}
def K6:∀ {l:List Nat},MY l=true->l.Nodup
 | [],_=>List.nodup_nil
 | x::l,h=>by
  simp only[MY,aj6,Bool.not_eq_true',List.contains_eq_mem,decide_eq_false_iff_not]at h;exact List.nodup_cons.2 ⟨h.1,K6 h.2⟩
def IG:∀ {l:List Oper} {done:List Nat},(l.filterMap (·.dst)).Nodup->(∀o∈l,∀d,o.dst=some d->d∉done)->∀o a,l=o::a->(a.filterMap (·.dst)).Nodup∧∀b∈a,∀d,b.dst=some d->d∉o.dst.toList++done:=by
 grind
def A5 (s:jN P T) (u:bY P Γ) {Q:Exit->Act->World->Prop} : ∀ {l:List Oper} {t g:Nat->D} {h h':Nat->Option Row} {fs:List mL} {a:Act} {w:World} {blk:Nat->Option (Nat×Nat)} {done:List Nat},
  Dj T Γ N e ops l t h=some (g,h',fs)->(l.filterMap (·.dst)).Nodup->(∀o∈l,∀d,o.dst=some d->d∉done)->vR N M L w0 blk e done t h a w ->
  (∀i j c done,vR N M L w0 c e done g h' i j->Q .normal i j)->wpList P ops Q l a w
 | [],t,g,h,h',fs,a,w,blk,done,b,_,_,k,m=>by
  simp only[Dj,ajH,Prod.mk.injEq]at b;obtain⟨rfl,rfl,_⟩:=b;exact m a w blk done k
 | o::l,t,g,h,h',fs,a,w,blk,done,b,x,v,k,m=>by
  simp only[Dj]at b;split at b
  ·rename_i t1 A f y;split at b
   ·rename_i t2 B z n;simp only[ajH,Prod.mk.injEq]at b;obtain⟨rfl,rfl,_⟩:=b;obtain⟨p,q⟩:=IG x v o l rfl;have:=Nv (K:=wpList P ops Q l) (Q:=Q) s u k y (v o (by simp)) (fun i j c r=>A5 s u n p q r m);unfold wpList;exact this
   ·cases b
  ·cases b
def B8 {F:Nat->mL} : ∀ {l:List Oper} {k:Nat} {t b:Nat->D} {h h':Nat->Option Row} {fs:List mL},Dj T Γ N e ops l t h=some (b,h',fs)->(∀j,l[j]? = ops[k+j]?)->(∀j f,fs[j]? = some f->F (k+j)=f) ->
  fs.length=l.length∧SK T Γ N e ops F (List.range' k l.length) t h b h'
 | [],k,t,b,h,h',fs,a,_,_=>by
  simp only[Dj,ajH,Prod.mk.injEq]at a;obtain⟨rfl,rfl,rfl⟩:=a;exact⟨rfl,rfl,rfl⟩
 | o::l,k,t,b,h,h',fs,a,d,g=>by
  simp only[Dj]at a;split at a
  ·rename_i t1 i f s;split at a
   ·rename_i t2 u m c;simp only[ajH,Prod.mk.injEq]at a;obtain⟨rfl,rfl,rfl⟩:=a;obtain⟨n,p⟩:=B8 (k:=k+1) c (fun j=>by have:=d (j+1);grind) (fun j q r=>by have:=g (j+1) q (by simpa using r);rwa [show k+(j+1)=k+1+j by omega]at this);refine⟨by simp[n],o,t1,i,by have:=d 0;simp_all,?_,p⟩;have:=g 0 f rfl;simp_all
   ·cases a
  ·cases a
def Holds (N:Nat) (M:Nat->Prop) (L:kZ) (w0:World) (s:St) (a:Act) (w:World):Prop:=∃blk,vR N M L w0 blk s.e [] s.t s.h a w
def Jd (Z:jN P T) (hΓ:bY P Γ) (hm:P.follows .mixedOrders=true) {id:Nat} {b:Bool} {s:St} {x:Ex} {s':St} {Q:Exit->Act->World->Prop} (z:zy T Γ N ops b s=some (x,s')) (g:(aay ops&&(!b||S8 ops))=true)
  (hH:Holds N M L w0 s a w) (hQ:∀A B,Holds N M L w0 s' A B->Q .normal A B):x=.normal∧(Code.region id ops b).wp P Q a w:=by
 unfold zy at z;split at z
 ·rename_i t h fs n;split at z
  ·rename_i c;simp only[ajH,Prod.mk.injEq]at z;obtain⟨rfl,rfl⟩:=z;refine⟨rfl,?_⟩;simp only[aj6]at g;have E:(ops.toList.filterMap (·.dst)).Nodup:=K6 g.1;obtain⟨blk,K⟩:=hH;have p:∀A B e done,vR N M L w0 e s.e done t h A B->Q .normal A B:=by
    intro A B e done G;refine hQ A B ⟨e,G.inv.weaken fun x v O =>?_,fun x r ty s nv cs k1 k2 k3 k4 =>?_⟩
    ·rcases O with⟨J,O|⟨O,_⟩⟩|⟨J,R,h3,h4⟩
     ·exact .inl ⟨J,.inl (by simp only;omega)⟩
     ·exact .inl ⟨J,.inl (by simp only;omega)⟩
     ·exact .inr ⟨J,by simp only;omega,fun _=>by simp only;omega,h4⟩
    ·have:=G.nv x r ty s nv cs k1 k2 k3 k4;grind
   cases b with
   | false =>
    apply wp_region_list;exact A5 Z hΓ n E (done:=[]) (fun o _ d _=>by simp) K p
   | true =>
    simp only[akP,aks]at c g;apply wp_region_any hm;have C:=g.2;simp only[S8,aj6]at C
    let F:Nat->mL:=fun i=>fs.getD i ⟨[],true⟩
    obtain⟨aa,q⟩:=B8 (F:=F) (k:=0) n (fun j=>by simp) (fun j f hj=>by grind);have D:∀i o,ops[i]? = some o->∀d∈direct o,d<i:=by
     intro i o ho d hd;have h1:=C.1;rw[ajJ]at h1;have u:(o,i)∈ops.toList.zipIdx:=by
      grind
     grind
    have H:∀(i j:Nat) (oi oj:Oper) (d:Nat),ops[i]? = some oi->ops[j]? = some oj->oi.dst=some d->oj.dst=some d->i=j:=by
     have key:∀(l:List Oper),(l.filterMap (·.dst)).Nodup->∀(i j:Nat) (oi oj:Oper) (d:Nat),l[i]? = some oi->l[j]? = some oj->oi.dst=some d->oj.dst=some d->i=j:=by
      intro l
      induction l with
      | nil=>simp_all
      | cons o l ih =>
       grind
     intro i j oi oj d y hj;exact key ops.toList E i j oi oj d (by simpa using y) (by simpa using hj)
    have m:UQ ops F:=by
     intro j i I y
     by_cases S:((Vh ops).getD i 0).testBit j=true
     ·exact .inl (Z5 S)
     ·refine .inr ⟨fun oj oi U V =>?_,?_⟩
      ·have R:=C.2;rw[ajJ]at R;have:=R i (ak2.2 y);rw[ajJ]at this;have:=this j (ak2.2 I);simp only[Bool.or_eq_true]at this;rcases this with h'|h'
       ·exact absurd h' S
       ·simpa [U1,U,V] using h'
      ·rw[F4,ajJ]at c;have u:(j,i)∈Lc ops:=by
        refine akS.2 ⟨i,ak2.2 y,ajy.2 ⟨j,ak0.2 ⟨ak2.2 I,?_⟩,rfl⟩⟩;simpa using S
       have:=c _ u;have W:i<fs.length:=by grind
       have X:j<fs.length:=by omega
       simp only[abP,ajL X,ajL W]at this;grind
    rw[aj8,<- List.range_eq_range']at q;have ab:∀i,(Array.replicate ops.size false).getD i false=false:=by
     intro i
     by_cases y:i<ops.size
     ·simp[Array.getD,y]
     grind
    have Y:∀i,(Array.replicate ops.size false).getD i true=false↔i<ops.size:=by
     grind
    exact Y2 Z hΓ m D H p ops.size (List.range ops.size) (Array.replicate ops.size false) s.t s.h a _ blk [] (by simp) (fun i=>by grind) ak3 (fun i y=>ak2.1 y) (by simp)
     (fun i o _ hl=>by grind) (fun d hd=>by simp at hd) q ⟨K.inv.drew,K.nv⟩
  ·cases z
 ·cases z
def Gn:Ex->Exit
 | .normal =>.normal
 | .exit n =>.exit n
 | .ret =>.ret
def kl (E:jN P T) (G:bY P Γ) (H:P.follows .mixedOrders=true) {F:Nat} : ∀(c:Code) (s:St) (x:Ex) (i:St) (Q:Exit->Act->World->Prop) (a:Act) (w:World),il T Γ N F c s=some (x,i)->codeOk c=true->Holds N M L w0 s a w ->
  (∀j k,Holds N M L w0 i j k->Q (Gn x) j k)->c.wp P Q a w:=by
 intro c
 induction c with
 | skip =>
  intro s x i Q a w e _ l h;simp only[il,ajH,Prod.mk.injEq]at e;obtain⟨rfl,rfl⟩:=e;exact wp_skip (h a w l)
 | region id ops draw =>
  intro s x i Q a w e f l h;simp only[il]at e;have I:x=.normal:=by
   unfold zy at e;grind
  subst I;exact (Jd E G H e f l h).2
 | seq b c m ihc =>
  intro s x i Q a w e f l h;simp only[codeOk,aj6]at f;simp only[il,agw]at e;apply wp_seq;split at e
  ·rename_i p o;exact m s .normal p _ a w o f.1 l (fun j k g=>ihc p x i Q j k e f.2 g h)
  ·rename_i r q;refine m s x i _ a w e f.1 l (fun j k g =>?_);cases x with
   | normal=>simp_all
   | exit n=>exact h j k g
   | ret=>exact h j k g
 | cond c b d m y =>
  intro s x i Q a w e f l h;simp only[codeOk,aj6]at f;simp only[il]at e;unfold Ss at e;split at e
  ·rename_i B J;obtain⟨blk,z⟩:=l;have C:=z.inv.ev c;rw[J]at C;refine wp_cond (t:=B) (y3 C) ?_;cases B with
   | true=>exact m s x i Q a w e f.1 ⟨blk,z⟩ h
   | false=>exact y s x i Q a w e f.2 ⟨blk,z⟩ h
  ·cases e
 | block id b u =>
  intro s x i Q a w e f l h;simp only[il]at e;apply wp_block;unfold Uz at e;split at e
  ·rename_i n p o;refine u s (.exit n) p _ a w o f l (fun j k g =>?_);split at e
   ·rename_i A;simp only[ajH,Prod.mk.injEq]at e;obtain⟨rfl,rfl⟩:=e;simp only[Gn,Exit.inBlock,A,if_true];exact h j k g
   ·rename_i A;simp only[ajH,Prod.mk.injEq]at e;obtain⟨rfl,rfl⟩:=e;simp only[Gn,Exit.inBlock,A,if_false];exact h j k g
  ·rename_i r q;refine u s x i _ a w e f l (fun j k g =>?_);cases x with
   | normal=>exact h j k g
   | exit n=>simp_all
   | ret=>exact h j k g
 | loop b u =>
  intro s x i Q a w e f l h;simp only[il]at e;refine wp_loop_ghost (fun n a w=>∃s,Holds N M L w0 s a w∧iter (il T Γ N F b) n s=some (x,i)) F ⟨s,l,e⟩ ?_;intro n a w ⟨p,v,o⟩;cases n with
  | zero=>simp[iter]at o
  | succ n =>
   simp only[iter]at o;split at o
   ·rename_i D K;exact u p .normal D _ a w K f v (fun j k g=>⟨n,by omega,D,g,o⟩)
   ·rename_i r q;refine u p x i _ a w o f v (fun j k g =>?_);cases x with
    | normal=>simp_all
    | exit n=>exact h j k g
    | ret=>exact h j k g
 | exit id =>
  intro s x i Q a w e _ l h;simp only[il,ajH,Prod.mk.injEq]at e;obtain⟨rfl,rfl⟩:=e;exact wp_exit (h a w l)
 | ret =>
  intro s x i Q a w e _ l h;simp only[il,ajH,Prod.mk.injEq]at e;obtain⟨rfl,rfl⟩:=e;exact wp_ret (h a w l)
 | _=>intro s x i Q a w e;simp[il]at e
end
def Ry (T:Nat->Option Ty) (s:St):ResultVar->Option (D×List Nat)
 | .tmp i=>cR s.h (s.t i)
 | .cell i ty =>
  match T ty,s.t i with
  | some τ,.ptr x v o=>match fK τ s.h (.ptr x v o) with|some E=>some (jU E.val,[])|none=>none
  | _,_=>none
def xx (T:Nat->Option Ty) (s:St):List ResultVar->Option (List D×List Nat)
 | []=>some ([],[])
 | r::rs =>
  match Ry T s r with
  | some (d,fr)=>match xx T s rs with
   | some (ds,a)=>some (d::ds,fr++a)
   | none=>none
  | none=>none
def nX:List D->D
 | [d]=>d
 | ds =>.tup ds
inductive Mode where
 | clean|same|tight
 | fresh (ty s:Nat)
def cG:Option (D×Row)->List D->St
 | none,args=>⟨fun i=>args.getD i .und,fun _=>none,0⟩
 | some (d0,r),args=>⟨fun i=>(d0::args).getD i .und,fun x=>if x=0 then some { r with v:=0 } else none,1⟩
def nI:Option (D×Row)->St->Option (Option Row)
 | none,_=>some none
 | some (_,r),s =>
  match s.h 0 with
  | some a=>if a.v=0∧a.fz=false∧a.ty=r.ty∧(a.mp=r.mp∧xr a=true) then some (some a) else none
  | none=>none
def abJ:Option (D×Row)->List Nat->Bool
 | none,_=>true
 | some _,fr => !fr.contains 0
def s9 (T:Nat->Option Ty) (lent:Option (D×Row)) (rs:List ResultVar) (s:St):Option (RK×Option Row) :=
 match xx T s rs,nI lent s with
 | some (a,fr),some o=>if abJ lent fr then some (.clean (nX a),o) else none
 | _,_=>none
def Mw (lent:Option (D×Row)) (rs:List ResultVar) (s:St):Option (RK×Option Row) :=
 match rs with
 | [.tmp i] =>
  match s.t i,nI lent s with
  | .buf 0 0 sz o n,some (some r)=>some (.same sz o n,some r)
  | _,_=>none
 | _=>none
def Kg:D->Option (RK×Option Row)
 | .sl nl a n xs=>some (.clean (.sl nl a n xs),none)
 | _=>none
def Gl (lent:Option (D×Row)) (rs:List ResultVar) (s:St):Option (RK×Option Row) :=
 match lent,rs with
 | none,[.tmp i]=>Kg (s.t i)
 | _,_=>none
def zg (ty s o n:Nat):Option Row->Option (RK×Option Row)
 | some r=>if r.fz=false∧r.ty=ty∧o+n*s<=r.cells.length then some (.fresh ty s n ((r.cells.drop o).take (n*s)),none) else none
 | none=>none
def sA (ty s:Nat) (h:Nat->Option Row):D->Option (RK×Option Row)
 | .buf x v a o n=>if a=s then zg ty s o n (live h x v) else none
 | .sl _ b 0 _=>if b=true then some (.fresh ty s 0 [],none) else none
 | _=>none
def vg (ty s:Nat) (rs:List ResultVar) (a:St):Option (RK×Option Row) :=
 match rs with
 | [.tmp i]=>sA ty s a.h (a.t i)
 | _=>none
def gu (a:Mode) (T:Nat->Option Ty) (lent:Option (D×Row)) (rs:List ResultVar) (s:St):Option (RK×Option Row) :=
 match a with
 | .clean=>s9 T lent rs s
 | .same=>Mw lent rs s
 | .tight=>Gl lent rs s
 | .fresh ty sz=>vg ty sz rs s
def kM (a:Mode) (T:Nat->Option Ty) (Γ:Env) (F:Nat) (d:Func) (lent:Option (D×Row)) (b:List D):Option (RK×Option Row) :=
 match d.body with
 | some c =>
  if d.ntmps<=PK then
   match il T Γ d.ntmps F c (cG lent b) with
   | some (.exit _,_)=>none
   | some (_,s)=>gu a T lent d.results.toList ⟨s.t,EH s.h,s.e⟩
   | none=>none
  else none
 | none=>none
def Hk:Option (D×Row)->Bool
 | none=>true
 | some (.buf 0 0 _ _ _,_)=>true
 | some (.ptr 0 0 _,_)=>true
 | some (.mp 0 0,_)=>true
 | _=>false
def G6:Option (D×Row)->List D->Nat
 | none,aju=>aju.length
 | some _,aju=>aju.length+1
section
variable {P:Program} {T:Nat->Option Ty} {N:Nat} {M:Nat->Prop} {L:kZ} {w0:World} {blk:Nat->Option (Nat×Nat)} {a:Act} {w:World} {Γ:Env}
def Inv.aeW {V:Nat->Nat->Prop} {t:Nat->D} {h:Nat->Option Row} (d:Inv N M L w0 blk V t h a w) (fr:List Nat):rT M h blk fr M where
 le b c := .inl c
 no x i r g e f c:=d.notM e f c
def Di (a:Array Value):ResultVar->Sem Value
 | .tmp t=>pure (a.getD t undef)
 | .cell b t=>do loadVar t (<- asAddr (a.getD b undef))
def HQ (a:Func) (b:Array Value):results a b=(do
  let vs <- a.results.mapM (Di b)
  pure (if h:vs.size=1 then vs[0] else .tuple vs)):=by
 unfold results;congr 1
def Yz (l:jN P T) {f:Nat->Prop} {ty:Nat} {τ:Ty} {g c:Nat} {xs:List D} {d:D} (m:T ty=some τ) (b:At w f g c xs) (n:xs.length=τ.size) (e:lI τ xs=some d) :
  ∃u,(loadVar ty ⟨g,c,none⟩).run P w=.ok u w∧RP w f d u:=by
 obtain⟨h,i,o,p,q⟩:=b.Dw;have j:τ.ds.vo=false->xs.length=1∧xs=[d]:=by
  intro k;simp only[lI,k,aj4,if_false]at e;grind
 have a:=mB (l ty τ m) w g c h (by rw[i,n]) o (fun k=>by simp_all);refine⟨_,a,?_⟩;cases r:τ.ds.vo with
 | true =>
  simp only[lI,r,if_true,ajH]at e;subst e;exact .agg xs h i p q
 | false =>
  grind
def abY (y:jN P T) {q:Nat->Prop} {V:Nat->Nat->Prop} {s:St} (j:Inv N M L w0 blk V s.t s.h a w) {r:ResultVar} {d:D} {fr:List Nat} (c:Ry T s r=some (d,fr)) (hl:rT M s.h blk fr q):∃u,(Di a.tmps r).run P w=.ok u w∧RP w q d u:=by
 cases r with
 | tmp i =>
  simp only[Ry]at c;exact⟨a.tmps.getD i undef,rfl,j.cR c hl (j.slots i)⟩
 | cell i ty =>
  simp only[Ry]at c;split at c
  ·rename_i τ x v o z A;split at c
   ·rename_i E e;simp only[ajH,Prod.mk.injEq]at c;obtain⟨rfl,_⟩:=c;have f:=j.slots i;rw[A]at f;simp only[fK]at e;split at e
    ·rename_i B h;obtain⟨t,C⟩:=cP h;split at e
     ·rename_i F;split at e
      ·rename_i I k;simp only[ajH]at e;subst e;obtain⟨g,G,l⟩:=f.2 B t C;have m:=((j.rowAt t G (jy h)).drop o).take τ.size;obtain⟨u,n,p⟩:=Yz y z m (by simp;omega) k;refine⟨u,?_,(p.less fun b H=>hl.le b H).jU⟩;simp only[Di,l,asAddr,aj2,Sem.run_pure,Result.andThen_ok,n]
      ·cases e
     ·cases e
    ·cases e
   ·cases c
  ·cases c
def RO (g:jN P T) {i:Nat->Prop} {V:Nat->Nat->Prop} {s:St} (k:Inv N M L w0 blk V s.t s.h a w):∀(rs:List ResultVar) (b:List D) (fr:List Nat),xx T s rs=some (b,fr)->rT M s.h blk fr i ->
  ∃c:List Value,(rs.mapM (Di a.tmps)).run P w=.ok c w∧c.length=b.length∧∀j d,b[j]? = some d->RP w i d (c.getD j undef)
 | [],b,fr,h,_=>by
  simp only[xx,ajH,Prod.mk.injEq]at h;simp_all
 | r::rs,b,fr,h,l=>by
  simp only[xx]at h;split at h
  ·rename_i d m n;split at h
   ·rename_i e f o;simp only[ajH,Prod.mk.injEq]at h;obtain⟨rfl,rfl⟩:=h;obtain⟨c,v,p,x⟩:=RO g k rs e f o l.right;obtain⟨u,q,t⟩:=abY (P:=P) g k n l.left;refine⟨u::c,?_,by simp[p],fun j d y =>?_⟩
    ·simp_all
    grind
   ·cases h
  ·cases h
def uw (k:jN P T) {i:Nat->Prop} {V:Nat->Nat->Prop} {s:St} (l:Inv N M L w0 blk V s.t s.h a w) {f:Func} {b:List D} {fr:List Nat} (h:xx T s f.results.toList=some (b,fr)) (m:rT M s.h blk fr i) :
  ∃v,(results f a.tmps).run P w=.ok v w∧RP w i (nX b) v:=by
 obtain⟨e,n,g,c⟩:=RO (P:=P) k l _ b fr h m;have o:(f.results.mapM (Di a.tmps)).run P w=.ok e.toArray w:=by
  rw[aki,Sem.run_map,n];rfl
 rw[HQ];simp only[aj2,o,Result.andThen_ok,Sem.run_pure];refine⟨_,rfl,?_⟩
 match e,b,g,c with
 | [u],[d],_,c=>simpa [nX] using c 0 d rfl
 | [],[],_,_=>exact .tup [] [] rfl (fun j x p=>by simp at p)
 | q::r::e,d1::d2::b,g,c =>
  have:¬(q::r::e).toArray.size=1:=by simp
  rw[dif_neg this];exact .tup _ _ (by simpa using g) c
def rj {a:Func} {b:Array Value} {i:Nat} (h:a.results.toList=[.tmp i]):(results a b).run P w=.ok (b.getD i undef) w:=by
 have c:a.results = #[.tmp i]:=by rw[<- h]
 rw[HQ,c];simp[Di]
def Inv.vg {V:Nat->Nat->Prop} {s:St} {q Q:Nat} (t:Inv N M L w0 blk V s.t s.h a w) {G:Func} {y:RK} {out:Option Row} (e:Am.vg q Q G.results.toList s=some (y,out)) :
  out=none∧∃v ty p n cells,y=.fresh ty p n cells∧(results G a.tmps).run P w=.ok v w∧xC w0 w M (LB L) v y:=by
 unfold Am.vg at e;split at e
 ·rename_i i k;have f:=t.slots i;unfold sA at e;split at e
  ·rename_i x v p o n z;rw[z]at f;split at e
   ·rename_i B;subst B;unfold zg at e;split at e
    ·rename_i r l;split at e
     ·rename_i h;obtain⟨R,S,T⟩:=h;simp only[ajH,Prod.mk.injEq]at e;obtain⟨rfl,rfl⟩:=e;refine⟨rfl,a.tmps.getD i undef,_,_,_,_,rfl,rj k,?_⟩;obtain⟨H,hv⟩:=cP l;have U:((r.cells.drop o).take (n*p)).length=n*p:=by simp;omega
      rcases t.Bh l f with⟨g,o',c,cs,C,I,J,D,g4,W,g7,K⟩|⟨C,rfl,J,A,D⟩
      ·by_cases X:0<c∨o=0
       ·obtain⟨Y,Z⟩:=W X;subst Y;refine .inl ⟨(g.1,g.2+o),c,cs,I,(show w0.heap.size<=g.1∨LB L g.1 from t.base H C),by simp_all,J,D,Z,by omega,fun j d m =>?_⟩;rw[eD]at m;split at m
        ·rw[ajR];refine⟨(K _ _ m).1,(K _ _ m).2.less fun b E =>?_⟩;rcases E with E|rfl
         ·exact .inl E
         ·exact .inr ⟨x,r,g,H,R,C,rfl⟩
        ·cases m
       ·have hn:n=0:=by omega
        have F:c=0:=by omega
        subst hn F;exact .inr ⟨rfl,by simp,_,I⟩
      ·exact .inr ⟨rfl,by simp,A,D⟩
     ·cases e
    ·cases e
   ·cases e
  ·rename_i O tg xs z;rw[z]at f;split at e
   ·rename_i aa;simp only[ajH,Prod.mk.injEq]at e;obtain⟨rfl,rfl⟩:=e;refine⟨rfl,a.tmps.getD i undef,_,_,_,_,rfl,rj k,.inr ⟨rfl,rfl,?_⟩⟩;have hr:RP w (Own M s.h blk) (.sl O tg 0 xs) (a.tmps.getD i undef):=f;generalize a.tmps.getD i undef=u at *;cases hr with
    | sl A c O tight n xs us h1 h2 h3 h4 h5 h6 h7 h8 =>
     simp_all
   ·cases e
  ·cases e
 ·cases e
def yH {args:List D} {vs:Array Value} {n i:Nat} (a:vs.size=args.length):(vs++Array.replicate (n-vs.size) undef).getD i undef=vs.getD i undef∨args.getD i .und=.und:=by
 by_cases b:i<args.length
 ·left;have:i<vs.size:=by omega
  simp[ajD,ak4 this]
 simp_all
def Xi {h:Nat->Option Row} (d:∀k r,h k=some r->k<2*PK∧xr r=true):EH h=h:=by
 funext k
 by_cases e:k<2*PK
 ·rw[u5 e];cases a:h k with
  | none=>rfl
  | some r =>
   simp only[Option.map_some,E9];split
   ·rename_i c;obtain⟨f,vs,b⟩:=BX (d k r a).2 c;cases r;simp only at b;subst b;rfl
   ·rfl
 ·have g:h k=none:=by
   cases a:h k with
   | none=>rfl
   | some r=>simp_all
  rw[g];unfold EH;rw[if_neg e];cases a:h (k % PK) with
  | none=>rfl
  | some r =>
   simp only[Option.bind_some,uj];split
   ·rename_i c;obtain⟨f,vs,b⟩:=BX (d _ r a).2 c;rw[b];rfl
   ·rfl
def Fh {h:Nat->Option Row} (b:∀k r,h k=some r->k<2*PK∧r.mp=false):EH h=h:=by
 funext k
 by_cases c:k<2*PK
 ·rw[u5 c];cases a:h k with
  | none=>rfl
  | some r =>
   simp only[Option.map_some,E9,(b k r a).2];rfl
 ·have d:h k=none:=by
   cases a:h k with
   | none=>rfl
   | some r=>simp_all
  rw[d];unfold EH;rw[if_neg c];cases a:h (k % PK) with
  | none=>rfl
  | some r =>
   simp only[Option.bind_some,uj,(b _ r a).2];rfl
def lU (hT:jN P T) (hΓ:bY P Γ) (hm:P.follows .mixedOrders=true) {K:Mode} {f:FuncId} {A:Func} {F:Nat} {lent:Option (D×Row)} {a:List D} {rk:RK} {ad:Option Row} (hf:P.funcs[f]? = some A)
  (V:(match A.body with|some c=>codeOk c|none=>true)=true) (hn:G6 lent a<=A.ntmps) (W:Hk lent=true)
  (d:kM K T Γ F A lent a=some (rk,ad)):uC P f lent a rk ad:=by
 unfold kM at d;split at d<;>try (cases d;done)
 rename_i c hc;rw[hc]at V;simp only at V;split at d<;>try (cases d;done)
 rename_i aa;split at d<;>try (cases d;done)
 rename_i x s az hv;cases lent with
 | none =>
  intro w M vs hM h;have hI:Inv A.ntmps M none w (fun _=>none) (fun x v=>x<A.ntmps∧v<0) (cG none a).t (cG none a).h { tmps:=vs++Array.replicate (A.ntmps-vs.size) undef,defers:=[] } w:={
   tab:=fun b e=>(h.tab b e).less fun b e=>by
    rcases e with e|⟨x,r,g,l,_⟩
    ·exact e
    ·cases l
   below:=eK.refl _ _
   mlt:=hM
   lent:=fun b e=>absurd e tX
   pin:=fun B I=>by cases I
   defers:=rfl
   tsz:=by have:=h.1;simp only[G6]at hn;simp;omega
   slots:=fun i=>by
    simp only[cG];rcases yH (n:=A.ntmps) (i:=i) h.1 with he|he
    ·rw[he]
     by_cases hi:i<a.length
     ·have C:=h.2 i _ (ajL hi);have L:a.getD i .und=a[i]:=by simp_all
      rw[L];exact bZ (C.less fun b e=>by
       rcases e with e|⟨x,r,g,l,_⟩
       ·exact e
       ·cases l)
     ·have L:a.getD i .und=.und:=by simp_all
      rw[L];trivial
    ·rw[he];trivial
   rows:=fun x r l=>by cases l
   inj:=fun x y r s g g' l=>by cases l
   big:=aa
   pha:=fun y r g J=>by cases J
   ali:=fun y r g J=>by cases J }
  apply calls_of_wp hf hc;refine kl hT hΓ hm c (cG none a) x s _ _ _ hv V ⟨_,⟨(by rw[Fh (fun k r X=>by cases X)];exact hI.weaken fun x v l=>absurd l.2 (Nat.not_lt_zero _)),fun x r ty s nv cs l=>by cases l⟩⟩ (fun U w' hH =>?_);obtain⟨q,ae⟩:=hH;obtain⟨sE,N⟩:∃sE:St,sE=⟨s.t,EH s.h,s.e⟩:=⟨_,rfl⟩;have hI':Inv A.ntmps M none w q (VE A.ntmps s.e [] s.h) sE.t sE.h U w':=by rw[N];exact ae.inv
  rw[<- N]at d;have t:Below w.heap.size w w':=hI'.below.below (fun b e=>absurd e tX);have u:U.defers=[]∧∃v,(results A U.tmps).run P w'=.ok v w'∧(∃v',Ending.returned v=.returned v'∧Below w.heap.size w w'∧xC w w' M (fun _=>False) v' rk):=by
   refine⟨hI'.defers,?_⟩;cases K with
   | clean =>
    simp only[gu,s9,nI]at d;split at d<;>try (cases d;done)
    rename_i ds fr o O ho;split at d<;>try (cases d;done)
    simp only[ajH,Prod.mk.injEq]at d;obtain⟨rfl,_⟩:=d;obtain⟨v,E,z⟩:=uw (P:=P) hT hI' O (hI'.aeW fr);exact⟨v,E,v,rfl,t,z⟩
   | same =>
    simp only[gu,Mw,nI]at d;grind
   | tight =>
    simp only[gu,Gl]at d;split at d<;>try (cases d;done)
    rename_i i _ ag;have Y:=hI'.slots i;generalize sE.t i=dd at *;unfold Kg at d;split at d<;>try (cases d;done)
    rename_i nl tg n xs;simp only[ajH,Prod.mk.injEq]at d;obtain⟨rfl,_⟩:=d;have ao:RP w' (Own M sE.h q) (.sl nl tg n xs) (U.tmps.getD i undef):=Y;exact⟨U.tmps.getD i undef,rj ag,_,rfl,t,ao.less fun b e =>.inl e⟩
   | fresh au s0 =>
    obtain⟨rfl,v,ty,sz,n,cells,rfl,E,z⟩:=hI'.vg (P:=P) d;refine⟨v,E,v,rfl,t,?_⟩;rcases z with⟨g,k1,cs,k2,k3,k4⟩|z
    ·exact .inl ⟨g,k1,cs,k2,k3.imp id (fun e=>absurd e tX),k4⟩
    ·exact .inr z
  cases x with
  | normal=>exact u
  | ret=>exact u
  | exit n=>simp_all
 | some p =>
  obtain⟨d0,r⟩:=p;intro w M B u0 vs hM hgoM hz ah ab ai h;have Q:∀b,Own M (cG (some (d0,r)) a).h (fun x=>if x=0 then B else none) b↔(M b∨wW B b):=by
   intro b;constructor
   ·rintro (e|⟨x,R,g,l,_,I,he⟩)
    ·exact .inl e
    ·simp only[cG]at l;split at l
     ·rename_i h0;subst h0;simp only[if_true]at I;exact .inr ⟨g,I,he.symm⟩
     ·cases l
   ·rintro (e|⟨g,I,he⟩)
    ·exact .inl e
    ·exact .inr ⟨0,{ r with v:=0 },g,rfl,hz,by simpa using I,he.symm⟩
  have hI:Inv A.ntmps M (MS B) w (fun x=>if x=0 then B else none) (fun x v=>x<A.ntmps∧v<1) (cG (some (d0,r)) a).t (cG (some (d0,r)) a).h { tmps:=(#[u0]++vs)++Array.replicate (A.ntmps-(#[u0]++vs).size) undef,defers:=[] } w:={
   tab:=fun b e=>(h.tab b e).less fun b e=>(Q b).1 e
   below:=eK.refl _ _
   mlt:=hM
   lent:=fun b e=>hgoM b (L7.1 e)
   pin:=fun aA I=>by
    cases I;exact⟨⟨by simp only[G6]at hn;omega,ak5⟩,fun R _ _=>⟨rfl,fun g _=>rfl⟩⟩
   defers:=rfl
   tsz:=by have:=h.1;simp only[G6]at hn;simp;omega
   slots:=fun i=>by
    simp only[cG];rcases yH (args:=d0::a) (vs:=#[u0]++vs) (n:=A.ntmps) (i:=i) (by simp[h.1];omega) with he|he
    ·rw[he];cases i with
     | zero =>
      have L:(#[u0]++vs).getD 0 undef=u0:=by simp[Array.getElem?_append]
      rw[L];simp only[akt];cases d0 with
      | buf x v sz o n =>
       have S:x=0∧v=0:=by
        simp only[Hk]at W;grind
       obtain⟨rfl,rfl⟩:=S;exact⟨⟨by simp only[G6]at hn;omega,ak5⟩,fun R C h2=>by simpa using ai.2 ⟨0,0,[],false,false,false⟩ rfl rfl⟩
      | ptr x v o =>
       have S:x=0∧v=0:=by
        simp only[Hk]at W;grind
       obtain⟨rfl,rfl⟩:=S;exact⟨⟨by simp only[G6]at hn;omega,ak5⟩,fun R C h2=>by simpa using ai.2 ⟨0,0,[],false,false,false⟩ rfl rfl⟩
      | mp x v =>
       have S:x=0∧v=0:=by
        simp only[Hk]at W;grind
       obtain⟨rfl,rfl⟩:=S;exact⟨⟨by simp only[G6]at hn;omega,ak5⟩,fun R C h2=>by simpa using ai.2 ⟨0,0,[],false,false,false⟩ rfl rfl⟩
      | _=>simp[Hk]at W
     | succ i =>
      have L:(#[u0]++vs).getD (i+1) undef=vs.getD i undef:=by
       simp only[ajD];rw[Array.getElem?_append_right (by simp)];simp
      rw[L];simp only[aku]
      by_cases hi:i<a.length
      ·have C:=h.2 i _ (ajL hi);have L:a.getD i .und=a[i]:=by simp_all
       rw[L];exact bZ (C.less fun b e=>(Q b).1 e)
      ·have L:a.getD i .und=.und:=by simp_all
       rw[L];trivial
    ·rw[he];trivial
   rows:=fun x R l=>by
    simp only[cG]at l;split at l
    ·rename_i h0;subst h0;simp only[ajH]at l;subst l;refine⟨fun hn=>⟨hn,ak5⟩,?_⟩;simp only[if_true];cases B with
     | none=>exact ab
     | some g =>
      exact⟨.inr (L7.2 ⟨g,rfl,rfl⟩),eS.keep (r':={ r with v:=0 }) ab rfl rfl rfl rfl (fun b C h2=>⟨C,fun e=>h2 ((Q b).1 e),rfl⟩)⟩
    ·cases l
   inj:=fun x y m r2 g g' l J _ _ _=>by
    simp_all
   big:=aa
   pha:=fun y m g J hm _ j x s n hj=>by
    simp only[cG]at J;split at J
    ·simp only[ajH]at J;subst J;obtain⟨ks,av,hc⟩:=BX ah hm;grind
    ·cases J
   ali:=fun y m g J aB=>by
    simp only[cG]at J;grind }
  have Z:EH (cG (some (d0,r)) a).h=(cG (some (d0,r)) a).h:=by
   refine Xi fun k R X =>?_;simp only[cG]at X;split at X
   ·rename_i h0;subst h0;simp only[ajH]at X;subst X;exact⟨(by have:=dx;omega),by simpa [xr] using ah⟩
   ·cases X
  have aq:Iz (cG (some (d0,r)) a).e [] (cG (some (d0,r)) a).h:=by
   intro x R ty s nv cs l aw;simp only[cG]at l;split at l
   ·simp only[ajH]at l;subst l;intro aC;obtain⟨ks,av,hc⟩:=BX ah aw;simp_all
   ·cases l
  apply calls_of_wp hf hc;refine kl hT hΓ hm c (cG (some (d0,r)) a) x s _ _ _ hv V ⟨_,⟨(by rw[Z];exact hI.weaken fun x v l =>.inl ⟨l.1,.inl l.2⟩),aq⟩⟩ (fun U w' hH =>?_);obtain⟨q,ae⟩:=hH;obtain⟨sE,N⟩:∃sE:St,sE=⟨s.t,EH s.h,s.e⟩:=⟨_,rfl⟩;have hI':Inv A.ntmps M (MS B) w q (VE A.ntmps s.e [] s.h) sE.t sE.h U w':=by rw[N];exact ae.inv
  rw[<- N]at d;have t:eK (wW B) w w':=⟨hI'.below.os,hI'.below.tape,hI'.below.output,hI'.below.size,fun k X hn=>hI'.below.block k X (fun e=>hn (L7.1 e))⟩;have G:∀m,nI (some (d0,r)) sE=some (some m)->sE.h 0=some m∧m.v=0∧m.fz=false∧(m.ty=r.ty∧(m.mp=r.mp∧xr m=true))∧q 0=B∧(∀g,B=some g->w'.shape? g.1=w.shape? g.1)∧(∀b,(M b∨wW B b)->Own M sE.h q b):=by
   intro m hl;simp only[nI]at hl;split at hl<;>try (cases hl;done)
   rename_i r2 h2;split at hl<;>try (cases hl;done)
   rename_i aj;simp only[ajH]at hl;subst hl;obtain⟨c1,c2,c3⟩:=aj;obtain⟨_,k2⟩:=hI'.pin _ rfl;obtain⟨k3,k4⟩:=k2 r2 h2 c1;refine⟨h2,c1,c2,c3,k3,k4,?_⟩;rintro b (e|⟨g,I,he⟩)
   ·exact .inl e
   ·exact .inr ⟨0,r2,g,h2,c2,k3.trans I,he.symm⟩
  have H:∀m,nI (some (d0,r)) sE=some (some m)->US w' (fun b=>M b∨wW B b) B m:=by
   intro m hl;obtain⟨C,_,_,h4,h5,_,h7⟩:=G m hl;have:=(hI'.rows 0 m C).2;rw[h5]at this;cases B with
   | none=>exact this
   | some g =>
    exact eS.keep this.2 rfl rfl rfl rfl (fun b C h2=>⟨C,fun e=>h2 (h7 b e),rfl⟩)
  have u:U.defers=[]∧∃v,(results A U.tmps).run P w'=.ok v w'∧(∃v',Ending.returned v=.returned v'∧eK (wW B) w w'∧aer w w' M B r ad∧aet w w' M B v' rk):=by
   refine⟨hI'.defers,?_⟩;cases K with
   | clean =>
    simp only[gu,s9]at d;split at d<;>try (cases d;done)
    rename_i ds fr o O ho;split at d<;>try (cases d;done)
    rename_i ax;simp only[abJ,Bool.not_eq_true',List.contains_eq_mem,decide_eq_false_iff_not]at ax;simp only[ajH,Prod.mk.injEq]at d;obtain⟨rfl,rfl⟩:=d;cases o with
    | none =>
     simp only[nI]at ho;grind
    | some m =>
     obtain⟨C,h2,h3,h4,h5,h6,h7⟩:=G m ho;have ak:rT M sE.h q fr (fun b=>M b∨wW B b):=by
      refine⟨h7,fun x l R g ar I e =>?_⟩;rcases e with e|⟨g',ay,he⟩
      ·exact hI'.notM ar I e
      ·have:x=0:=hI'.inj x 0 R m g g' ar C I (h5.trans ay) he;simp_all
     obtain⟨v,E,z⟩:=uw (P:=P) hT hI' O ak;exact⟨v,E,v,rfl,t,⟨h4.1,h3,h4.2,h6,H m ho⟩,z⟩
   | same =>
    simp only[gu,Mw]at d;split at d<;>try (cases d;done)
    rename_i i ag;split at d<;>try (cases d;done)
    rename_i sz o n m ht ho;simp only[ajH,Prod.mk.injEq]at d;obtain⟨rfl,rfl⟩:=d;obtain⟨C,h2,h3,h4,h5,h6,h7⟩:=G m ho;refine⟨U.tmps.getD i undef,rj ag,_,rfl,t,⟨h4.1,h3,h4.2,h6,H m ho⟩,?_⟩;have Y:=hI'.slots i;rw[ht]at Y;refine⟨trivial,fun R _ _ =>?_⟩;have:=Y.2 m C h2;rw[h5]at this;exact this
   | tight =>
    simp only[gu,Gl]at d;cases d
   | fresh au s0 =>
    obtain⟨rfl,v,ty,sz,n,cells,rfl,E,z⟩:=hI'.vg (P:=P) d;refine⟨v,E,v,rfl,t,trivial,?_⟩;rcases z with⟨g,k1,cs,k2,k3,k4⟩|z
    ·exact .inl ⟨g,k1,cs,k2,k3.imp id (fun e=>L7.1 e),k4⟩
    ·exact .inr z
  cases x with
  | normal=>exact u
  | ret=>exact u
  | exit n=>simp_all
def ext (Γ:Env) (f:Nat) (l:Bool) (G:Option (D×Row)->List D->Option (RK×Option Row)):Env:=⟨fun g=>if g=f then l else Γ.lends g,fun g lent aju=>if g=f then G lent aju else Γ.sem g lent aju,Γ.own,Γ.hint,Γ.ins,Γ.grw,Γ.nst,Γ.nx⟩
def bY.ext (b:bY P Γ) {f:Nat} {l:Bool} {G:Option (D×Row)->List D->Option (RK×Option Row)} (d:∀lent aju c a,G lent aju=some (c,a)->uC P f lent aju c a) (e:eY P f):bY P (Am.ext Γ f l G):=by
 refine⟨fun g lent aju c a h =>?_,b.ins,b.grw,b.lnd,b.res⟩;simp only[Am.ext]at h;split at h
 ·simp_all
 ·exact b.calls g lent aju c a h
def bs:Env:=⟨fun _=>false,fun _ _ _=>none,fun _=>true,fun _=>none,fun _=>none,fun _=>none,fun _=>none,{}⟩
def bY.none:bY P bs:=⟨fun f lent a c b h=>(by cases h),fun f p h=>(by cases h),fun f p h=>(by cases h),fun f p h=>(by cases h),fun f p h=>(by cases h)⟩
def keep (d:Nat) (Γ:Env):Env:=⟨Γ.lends,Γ.sem,fun i=>i != d&&Γ.own i,Γ.hint,Γ.ins,Γ.grw,Γ.nst,Γ.nx⟩
def bY.keep (a:bY P Γ) (d:Nat):bY P (Am.keep d Γ):=⟨a.calls,a.ins,a.grw,a.lnd,a.res⟩
def GP (f:Nat) (p:Nat×Nat×Nat) (Γ:Env):Env:=⟨Γ.lends,Γ.sem,Γ.own,Γ.hint,fun g=>if g=f then some p else Γ.ins g,Γ.grw,Γ.nst,Γ.nx⟩
def bY.GP (a:bY P Γ) {f:Nat} {p:Nat×Nat×Nat} (b:Zm P f p):bY P (Am.GP f p Γ):=⟨a.calls,fun g q h=>by
 simp only[Am.GP]at h;split at h
 ·simp_all
 ·exact a.ins g q h,a.grw,a.lnd,a.res⟩
def xt (d:Nat) (p:Nat×Nat×Nat) (Γ:Env):Env:=⟨Γ.lends,Γ.sem,Γ.own,Γ.hint,Γ.ins,Γ.grw,fun i=>if i=d then some p else Γ.nst i,Γ.nx⟩
def bY.xt (a:bY P Γ) (d:Nat) (p:Nat×Nat×Nat):bY P (Am.xt d p Γ):=⟨a.calls,a.ins,a.grw,a.lnd,a.res⟩
def sj (f:Nat) (p:Nat×(Nat->Nat->Nat->Nat->List D->List D->Option (D×List D))) (Γ:Env):Env:=⟨Γ.lends,Γ.sem,Γ.own,Γ.hint,Γ.ins,Γ.grw,Γ.nst,⟨fun g=>if g=f then some p else Γ.nx.lnd g,Γ.nx.res⟩⟩
def bY.sj (b:bY P Γ) {f:Nat} {p:Nat×(Nat->Nat->Nat->Nat->List D->List D->Option (D×List D))} (e:eY P f) (i:∀ty t s o cs a d c,p.2 ty t s o cs a=some (d,c)->L5 P f ty t s o cs a d c):bY P (Am.sj f p Γ):=⟨b.calls,b.ins,b.grw,fun g q h=>by
 simp only[Am.sj]at h;split at h
 ·simp_all
 ·exact b.lnd g q h,b.res⟩
def B0 (f:Nat) (p:List D->Option (Nat×Nat×Nat×Nat×Nat×List D)) (Γ:Env):Env:=⟨Γ.lends,Γ.sem,Γ.own,Γ.hint,Γ.ins,Γ.grw,Γ.nst,⟨Γ.nx.lnd,fun g=>if g=f then some p else Γ.nx.res g⟩⟩
def bY.B0 (b:bY P Γ) {f:Nat} {p:List D->Option (Nat×Nat×Nat×Nat×Nat×List D)} (c:eY P f) (d:∀a ty t s S n cs,p a=some (ty,t,s,S,n,cs)->L4 P f a ty t s S n cs):bY P (Am.B0 f p Γ):=⟨b.calls,b.ins,b.grw,b.lnd,fun g q h=>by
 simp only[Am.B0]at h;split at h
 ·simp_all
 ·exact b.res g q h⟩
end
def tL (ty t s o:Nat) (cs a:List D):St:=⟨fun i=>(.ptr 0 0 o::a).getD i .und,oI (jz ty t s 0 cs),1⟩
def aaH (t s:Nat) (b:List D):List D->Option (D×List D)
 | [.nr c d _ a]=>if c=t∧d=s then some (nX b,a) else none
 | _=>none
def Pq (ty t s:Nat):Option (List D×List Nat)->Option Row->Option (D×List D)
 | some (a,fr),some r=>if r.v=0∧r.fz=false∧r.ty=ty∧r.mp=true∧fr.all (fun k=>rt k != 0)=true then aaH t s a r.cells else none
 | _,_=>none
def XM (T:Nat->Option Ty) (ty t s:Nat) (rs:List ResultVar) (a:St):Option (D×List D):=Pq ty t s (xx T ⟨a.t,EH a.h,a.e⟩ rs) (a.h 0)
def wR (T:Nat->Option Ty) (Γ:Env) (F:Nat) (b:Func) (ty t s o:Nat) (cs a:List D):Option (D×List D) :=
 match b.body with
 | some c =>
  if b.ntmps<=PK then
   match il T Γ b.ntmps F c (tL ty t s o cs a) with
   | some (.exit _,_)=>none
   | some (_,st)=>XM T ty t s b.results.toList st
   | none=>none
  else none
 | none=>none
def aaF (x S n:Nat) (ty:Nat):List D->Option (Nat×Nat×Nat×Nat×Nat×List D)
 | [.nr t s _ cs]=>if x<PK then some (ty,t,s,S,n,cs) else none
 | _=>none
def Po (x v S n:Nat):Option Row->Option (Nat×Nat×Nat×Nat×Nat×List D)
 | some r=>if r.v=v∧r.fz=false∧r.mp=true then aaF x S n r.ty r.cells else none
 | none=>none
def Vu (h:Nat->Option Row):D->Option (Nat×Nat×Nat×Nat×Nat×List D)
 | .buf x v S 0 n=>Po x v S n (h x)
 | _=>none
def aaE (rs:List ResultVar) (a:St):Option (Nat×Nat×Nat×Nat×Nat×List D) :=
 match rs with
 | [.tmp i]=>Vu a.h (a.t i)
 | _=>none
def A4 (T:Nat->Option Ty) (Γ:Env) (F:Nat) (b:Func) (a:List D):Option (Nat×Nat×Nat×Nat×Nat×List D) :=
 match b.body with
 | some c =>
  if b.ntmps<=PK then
   match il T Γ b.ntmps F c (cG none a) with
   | some (.exit _,_)=>none
   | some (_,st)=>aaE b.results.toList st
   | none=>none
  else none
 | none=>none
section
variable {P:Program} {T:Nat->Option Ty} {N:Nat} {M:Nat->Prop} {L:kZ} {w0:World} {blk:Nat->Option (Nat×Nat)} {a:Act} {w:World} {Γ:Env}
def NQ (hT:jN P T) (hΓ:bY P Γ) (hm:P.follows .mixedOrders=true) {f:FuncId} {K:Func} {F:Nat} {ty t s o:Nat} {cs a ad:List D} {d:D} (hf:P.funcs[f]? = some K)
  (W:(match K.body with|some c=>codeOk c|none=>true)=true) (hn:a.length+1<=K.ntmps)
  (z:wR T Γ F K ty t s o cs a=some (d,ad)):L5 P f ty t s o cs a d ad:=by
 unfold wR at z;split at z<;>try (cases z;done)
 rename_i c hc;rw[hc]at W;simp only at W;split at z<;>try (cases z;done)
 rename_i ae;split at z<;>try (cases z;done)
 rename_i x st al hv;intro w M blk E C m vs L N hM hdis X hR A;have az:=dx;have ag:∀k r,E k=some r->r.fz=false:=by
  intro k r G;rw[L]at G;rcases kx G with⟨_,rfl⟩|⟨_,_,_,_,_,rfl⟩<;>rfl
 have H:∀b,Own M E blk b↔(M b∨yY blk E b):=by
  intro b;constructor
  ·rintro (e|⟨k,r,g,C,_,h2,h3⟩)
   ·exact .inl e
   ·exact .inr ⟨k,r,g,C,h2,h3⟩
  ·rintro (e|⟨k,r,g,C,h2,h3⟩)
   ·exact .inl e
   ·exact .inr ⟨k,r,g,C,ag k r C,h2,h3⟩
 have Y:E 0=some ⟨0,ty,cs.mapIdx (uz 0 s),false,true,true⟩:=by rw[L];exact yE
 obtain⟨LL,Z⟩:∃LL:kZ,LL=some (some m,yY blk E):=⟨_,rfl⟩;have O:∀b,LB LL b↔yY blk E b:=by
  intro b;subst Z;constructor
  ·rintro⟨p,hp,h⟩;cases hp;rcases h with⟨g,S,rfl⟩|h
   ·cases S;exact⟨0,_,m,Y,X,rfl⟩
   ·exact h
  ·exact fun h=>⟨_,rfl,.inr h⟩
 have hI:Inv K.ntmps M LL w blk (fun x v=>x<K.ntmps∧v<1) (tL ty t s o cs a).t E { tmps:=(#[Value.pointer (some ⟨m.1,m.2+o,none⟩)]++vs)++Array.replicate (K.ntmps-(#[Value.pointer (some ⟨m.1,m.2+o,none⟩)]++vs).size) undef,defers:=[] } w:={
  tab:=fun b e=>(A.tab b e).less fun b e=>(H b).1 e
  below:=eK.refl _ _
  mlt:=hM
  lent:=fun b e=>hdis b ((O b).1 e)
  pin:=fun p hp=>by
   subst Z;cases hp;exact⟨⟨by omega,ak5⟩,fun r' _ _=>⟨X,fun g _=>rfl⟩⟩
  defers:=rfl
  tsz:=by have:=A.1;simp;omega
  slots:=fun i=>by
   simp only[tL];rcases yH (args := .ptr 0 0 o::a) (vs:=#[.pointer (some ⟨m.1,m.2+o,none⟩)]++vs) (n:=K.ntmps) (i:=i) (by simp[A.1];omega) with he|he
   ·rw[he];cases i with
    | zero =>
     have e1:(#[Value.pointer (some ⟨m.1,m.2+o,none⟩)]++vs).getD 0 undef=.pointer (some ⟨m.1,m.2+o,none⟩):=by simp[Array.getElem?_append]
     rw[e1];simp only[akt];exact⟨⟨by omega,ak5⟩,fun r' _ _=>⟨m,X,rfl⟩⟩
    | succ i =>
     have e1:(#[Value.pointer (some ⟨m.1,m.2+o,none⟩)]++vs).getD (i+1) undef=vs.getD i undef:=by
      simp only[ajD];rw[Array.getElem?_append_right (by simp)];simp
     rw[e1];simp only[aku]
     by_cases hi:i<a.length
     ·have C:=A.2 i _ (ajL hi);have e1:a.getD i .und=a[i]:=by simp[List.getD,hi]
      rw[e1];exact bZ (C.less fun b e=>(H b).1 e)
     ·have e1:a.getD i .und=.und:=by simp[List.getD,alW (alS hi)]
      rw[e1];trivial
   ·rw[he];trivial
  rows:=fun k r G=>by
   refine⟨fun hn =>?_,?_⟩
   ·rw[L]at G;rcases kx G with⟨rfl,rfl⟩|⟨o',_,_,rfl,_,rfl⟩
    ·exact⟨hn,ak5⟩
    ·have:=gR 0 o';omega
   ·have:=hR.rows k r G;cases S:blk k with
    | none=>rw[S]at this;exact this
    | some g =>
     rw[S]at this;exact⟨.inr ((O g.1).2 ⟨k,r,g,G,S,rfl⟩),this.keep rfl rfl rfl rfl fun b U q2=>⟨U,fun e=>q2 ((H b).1 e),rfl⟩⟩
  inj:=hR.inj
  big:=ae
  pha:=hR.pha
  ali:=fun y r g hy hz=>by rw[ag y r hy]at hz;cases hz }
 have ah:Iz (tL ty t s o cs a).e [] (tL ty t s o cs a).h:=by
  intro k r' aA s' ao aq V aB ai;simp only[tL,oI]at V;split at V
  ·simp only[ajH]at V;subst V;simp only[jz,ajU,D.nr.injEq,and_true]at ai;obtain⟨_,_,rfl,_⟩:=ai;exact fun _=>⟨by simp[tL],fun _=>by simp[tL]⟩
  ·cases V
 have ar:EH (tL ty t s o cs a).h=E:=L.symm;apply calls_of_wp hf hc;refine kl hT hΓ hm c (tL ty t s o cs a) x st _ _ _ hv W ⟨_,⟨(by rw[ar];exact hI.weaken fun x v V=>Or.inl ⟨V.1,Or.inl V.2⟩),ah⟩⟩ (fun a' w' hH =>?_);obtain⟨u,au⟩:=hH;have hI':=au.inv;unfold XM Pq at z;split at z<;>try (cases z;done)
 rename_i ds fr r1 aj Q;split at z<;>try (cases z;done)
 rename_i aa;obtain⟨c1,c2,c3,c4,c5⟩:=aa;unfold aaH at z;split at z<;>try (cases z;done)
 rename_i t' s' ao aq j;split at z<;>try (cases z;done)
 rename_i av;obtain⟨rfl,rfl⟩:=av;simp only[ajH,Prod.mk.injEq]at z;obtain⟨rfl,rfl⟩:=z;have aw:=gZ Q c4 j pT;obtain⟨p1,p2⟩:=(hI'.pin (some m,yY blk E) Z).2 _ aw c1;have R:=L6 (blk:=u) Q c4 j pT;rw[c3]at R;have hQ:∀b,(M b∨yY (tQ u 0) C b)->Own M (EH st.h) u b:=by
  rintro b (e|e)
  ·exact .inl e
  ·rw[N]at e;obtain⟨k,r',g',q0,U,q2,q3⟩:=(R b).1 e;refine .inr ⟨k,r',g',U,?_,q2,q3⟩;rcases fB Q c4 j pT q0 U with⟨_,rfl⟩|⟨_,_,_,_,_,rfl⟩<;>exact c2
 have ab:rT M (EH st.h) u fr (fun b=>M b∨yY (tQ u 0) C b):=by
  refine⟨hQ,fun k G r' g ak S e =>?_⟩;rcases e with e|e
  ·exact hI'.notM ak S e
  ·rw[N]at e;obtain⟨l,r2,g',q0,U,q2,q3⟩:=(R _).1 e;have:=hI'.inj k l r' r2 g g' ak U S q2 q3.symm;subst this;have:=ajJ.1 c5 _ G;simp[q0]at this
 obtain⟨v,ax,ay⟩:=uw (P:=P) (s:=⟨st.t,EH st.h,st.e⟩) hT hI' aj ab;have I:=hI'.afL Q c4 j c2 pT hQ;rw[c3,<- N]at I;have J:a'.defers=[]∧∃v,(results K a'.tmps).run P w'=.ok v w'∧(∃v' B,Ending.returned v=.returned v'∧eK (yY blk E) w w'∧B 0=some m∧w'.shape? m.1=w.shape? m.1∧(∀b,yY B C b->w.heap.size<=b∨yY blk E b)∧Ji w' (fun b=>M b∨yY B C b) B C∧RP w' (fun b=>M b∨yY B C b) (nX ds) v'):=by
  refine⟨hI'.defers,v,ax,v,tQ u 0,rfl,⟨hI'.below.os,hI'.below.tape,hI'.below.output,hI'.below.size,fun k G hn=>hI'.below.block k G fun e=>hn ((O k).1 e)⟩,by rw[tQ,uW];exact p1,p2 m rfl,fun b e =>?_,I,ay⟩;rw[N]at e;obtain⟨k,r',g',q0,U,q2,q3⟩:=(R b).1 e;rcases hI'.base U q2 with q|q
  ·exact .inl (by omega)
  ·exact .inr (by rw[<- q3];exact (O _).1 q)
 cases x with
 | normal=>exact J
 | ret=>exact J
 | exit n=>exact (al n rfl).elim
def aiY (I:jN P T) (J:bY P Γ) (K:P.follows .mixedOrders=true) {f:FuncId} {e:Func} {F:Nat} {a:List D} {c:Code} {x:Ex} {p:St} (L:P.funcs[f]? = some e) (N:e.body=some c) (z:codeOk c=true) (W:a.length<=e.ntmps) (t:e.ntmps<=PK)
  (O:il T Γ e.ntmps F c (cG none a)=some (x,p)) (A:∀n,x ≠ .exit n) {w:World} {M:Nat->Prop} {vs:Array Value} (Q:∀b,M b->b<w.heap.size) (d:A9 w M a vs) {Φ:Ending->World->Prop}
  (B:∀q o h,Inv e.ntmps M none w h (VE e.ntmps p.e [] p.h) p.t (EH p.h) q o->∃v,(results e q.tmps).run P o=.ok v o∧Φ (.returned v) o):Calls P f vs w Φ:=by
 have R:Inv e.ntmps M none w (fun _=>none) (fun x v=>x<e.ntmps∧v<0) (cG none a).t (cG none a).h { tmps:=vs++Array.replicate (e.ntmps-vs.size) undef,defers:=[] } w:={
  tab:=fun b j=>(d.tab b j).less fun b j=>by
   rcases j with j|⟨x,r,g,l,_⟩
   ·exact j
   ·cases l
  below:=eK.refl _ _
  mlt:=Q
  lent:=fun b j=>absurd j tX
  pin:=fun X S=>by cases S
  defers:=rfl
  tsz:=by have:=d.1;simp;omega
  slots:=fun i=>by
   simp only[cG];rcases yH (n:=e.ntmps) (i:=i) d.1 with he|he
   ·rw[he]
    by_cases C:i<a.length
    ·have E:=d.2 i _ (ajL C);have G:a.getD i .und=a[i]:=by simp[List.getD,C]
     rw[G];exact bZ (E.less fun b j=>by
      rcases j with j|⟨x,r,g,l,_⟩
      ·exact j
      ·cases l)
    ·have G:a.getD i .und=.und:=by simp[List.getD,alW (alS C)]
     rw[G];trivial
   ·rw[he];trivial
  rows:=fun x r l=>by cases l
  inj:=fun x y r s g Y l=>by cases l
  big:=t
  pha:=fun y r g H=>by cases H
  ali:=fun y r g H=>by cases H }
 apply calls_of_wp L N;refine kl I J K c (cG none a) x p _ _ _ O z ⟨_,⟨(by rw[Fh (fun k r B=>by cases B)];exact R.weaken fun x v l=>absurd l.2 (Nat.not_lt_zero _)),fun x r ty s nv cs l=>by cases l⟩⟩ (fun q o U =>?_);obtain⟨h,u⟩:=U;obtain⟨v,E,V⟩:=B q o h u.inv;have m:q.defers=[]∧∃v,(results e q.tmps).run P o=.ok v o∧Φ (.returned v) o:=⟨u.inv.defers,v,E,V⟩;cases x with
 | normal=>exact m
 | ret=>exact m
 | exit n=>exact (A n rfl).elim
def Su {F:Nat} {f:Func} {e:List D} {ty t s S n:Nat} {cs:List D} (a:A4 T Γ F f e=some (ty,t,s,S,n,cs)) :
  ∃c x g i k v r nv,f.body=some c∧f.ntmps<=PK∧il T Γ f.ntmps F c (cG none e)=some (x,g)∧(∀m,x ≠ .exit m)∧f.results.toList=[.tmp i]∧g.t i=.buf k v S 0 n∧g.h k=some r∧r.v=v∧r.fz=false∧r.mp=true∧k<PK∧r.ty=ty∧r.cells=[.nr t s nv cs]:=by
 unfold A4 at a;split at a<;>try (cases a;done)
 rename_i c l;split at a<;>try (cases a;done)
 rename_i h;split at a<;>try (cases a;done)
 rename_i x g hne o;unfold aaE at a;split at a<;>try (cases a;done)
 rename_i i j;unfold Vu at a;split at a<;>try (cases a;done)
 rename_i k v H I p;unfold Po at a;split at a<;>try (cases a;done)
 rename_i r q;split at a<;>try (cases a;done)
 rename_i b;unfold aaF at a;split at a<;>try (cases a;done)
 rename_i J K nv u d;split at a<;>try (cases a;done)
 rename_i w;simp only[ajH,Prod.mk.injEq]at a;obtain⟨y,z,A,B,C,E⟩:=a;subst z A B C E;exact⟨c,x,g,i,k,v,r,nv,l,h,o,fun m G=>hne m G,j,p,q,b.1,b.2.1,b.2.2,w,y,d⟩
def NP (X:jN P T) (Y:bY P Γ) (Z:P.follows .mixedOrders=true) {f:FuncId} {E:Func} {F:Nat} {e:List D} {ty t s S n:Nat} {cs:List D} (hf:P.funcs[f]? = some E)
  (m:(match E.body with|some c=>codeOk c|none=>true)=true) (hn:e.length<=E.ntmps)
  (hr:A4 T Γ F E e=some (ty,t,s,S,n,cs)):L4 P f e ty t s S n cs:=by
 obtain⟨c,x,st,i,k,v,r,nv,Q,y,hv,K,L,ht,G,c1,R,H,I,z,a⟩:=Su hr;rw[Q]at m;simp only at m;intro w M h vs A hM o;refine aiY X Y Z hf Q m hn y hv K hM o fun a' w' d j =>?_;have p:=L6 (blk:=d) G H a I;rw[z,<- A]at p;have B:Below w.heap.size w w':=j.below.below (fun b u=>absurd u tX);have hQ:∀b,(M b∨yY (tQ d k) h b)->Own M (EH st.h) d b:=by
  rintro b (u|u)
  ·exact .inl u
  ·obtain⟨l,N,U,V,J,O,W⟩:=(p b).1 u;refine .inr ⟨l,N,U,J,?_,O,W⟩;rcases fB G H a I V J with⟨_,rfl⟩|⟨_,_,_,_,_,rfl⟩<;>exact R
 have g:=j.afL G H a R I hQ;rw[z,<- A]at g;have C:=j.slots i;rw[ht]at C;refine⟨_,rj L,_,tQ d k,rfl,B,fun b u =>?_,g,trivial,fun N _ _ =>?_⟩
 ·obtain⟨l,N,U,V,J,O,W⟩:=(p b).1 u;rcases j.base J O with q|q
  ·omega
  ·exact absurd q tX
 ·rw[tQ,uW];exact C.2 _ (gZ G H a I) c1
end
def abb:dY->D
 | (n,none) =>.int .i64 n
 | (a,some b) =>.agg [.int .i64 a,.int .i64 b]
def Qe {w:World} {M:Nat->Prop} (k:dY):RP w M (abb k) (nS k):=by
 obtain⟨a,x⟩:=k;cases x with
 | none=>exact .int _ _
 | some b =>
  refine .agg [.int .i64 a,.int .i64 b] [.int .i64 a,.int .i64 b] rfl (fun j x c =>?_) (fun x d =>?_)
  ·match j,c with
   | 0,c=>simp only[List.getElem?_cons_zero,ajH]at c;subst c;exact .int _ _
   | 1,c=>simp only[List.getElem?_cons_succ,List.getElem?_cons_zero,ajH]at c;subst c;exact .int _ _
   | j+2,c=>simp at c
  ·simp only[ajF,akY,or_false]at d;rcases d with rfl|rfl<;>rfl
section
variable {P:Program} {T:Nat->Option Ty} {N:Nat} {M:Nat->Prop} {L:kZ} {w0:World} {blk:Nat->Option (Nat×Nat)} {V:Nat->Nat->Prop} {t:Nat->D} {h:Nat->Option Row} {a:Act} {w:World} {e:Nat} {o:Oper} {Γ:Env} {done:List Nat}
def xA {x v ty:Nat} {a:List dY} {vs:List D} {fz lst:Bool} (b:h x=some ⟨v,ty,[.mpc a vs],fz,lst,true⟩) (c:x<PK):EH h x=some ⟨v,ty,[.mpc a vs],fz,lst,true⟩∧∀o,EH h (NK x o)=none:=by
 constructor
 ·rw[u5 (by have:=dx;omega),b];rfl
 ·intro o;rw[u4 c,b];rfl
def y4 (m:vR N M L w0 blk e done t h a w) (p:∀d:Nat,o.dst=some d->d∉done∧d<N) {E:cw} {v:Value} {l:World} (b:jq e h (aV h E.hw)) (q:kW N M L w0 (VE N e done h) t h a e o.dst E v l):Fg N M L w0 t h a e (o.dst.toList++done) E v l:=by
 have c:∀x,x∈done->x∈o.dst.toList++done:=fun x k=>ajN _ k;obtain⟨f,g,i⟩:=q;have j:∀x n,VE N e done h x n∨(o.dst=some x∧n=e)->VE N e (o.dst.toList++done) (aV h E.hw) x n:=by
  rintro x n (r|⟨k,rfl⟩)
  ·exact r.step b c
  ·exact .inl ⟨(p x k).2,.inr ⟨rfl,ajM _ (by rw[k];simp)⟩⟩
 exact⟨f,⟨g.weaken j,m.nv.step b c⟩,i.mono ⟨fun _ g i=>⟨g,i,rfl⟩,j,fun _ _ _ s g i=>⟨⟨s,g,i⟩,rfl,fun _ _=>rfl⟩⟩⟩
def Cs {ops:Array Oper} {l:List Oper} {Q:Exit->Act->World->Prop} (i:o.guard=none) {K:(Nat->D)->(Nat->Option Row)->Prop} (r:vR N M L w0 blk e done t h a w) (j:fits N o.dst=true)
  (k:eZ P o a w fun v c=>∃E:cw,K (fQ t o.dst E.val) (aV h E.hw)∧Fg N M L w0 t h a e (o.dst.toList++done) E v c)
  (m:∀f h' g c b,K f h'->vR N M L w0 b e (o.dst.toList++done) f h' g c->wpList P ops Q l g c):wpList P ops Q (o::l) a w:=by
 unfold wpList;have:Region.wanted o (yielded ops a.tmps)=true:=by simp[Region.wanted,i]
 rw[this];simp only[if_true];refine .inl (k.wp fun v c n =>?_);obtain⟨E,p,b,d,q⟩:=n;exact m _ _ _ _ b p ⟨d.inv.afY j q,d.nv⟩
def S4 (hT:jN P T) (hI:Inv N M L w0 blk V t (EH h) a w) {ty d x v v' f k el:Nat} {m:Operand} {l:List dY} {vs:List D} {lst:Bool} (ho:o.op=.range ty m) (hd:o.dst=some d) (hV:kz N V d e) (hu:P.underlying ty=some (.map k el)) (hm:ev t m=.mp x v)
  (K:h x=some ⟨v,f,[.mpc l vs],false,lst,true⟩) (ad:f<900000) (J:x<PK) (Q:d≠x) :
  eZ P o a w (kW N M L w0 V t h a e o.dst ⟨.ptr d e 0,[(x,some ⟨v,f,[.mpc l vs],true,true,true⟩),(d,some ⟨e,900000,[.mpc l vs],false,true,true⟩)]⟩):=by
 have av:=dx;have au:=hI.big;have aw:d<N:=hV.lt;have F:d<PK:=by omega
 obtain⟨ae,ax⟩:=xA K J;have R:=hI.ev m;rw[hm]at R;have ag:mK (EH h) x v=some (l,vs):=by unfold mK;rw[ae];simp[ad]
 obtain⟨g,r,h1,h2,h3,h4,h5,ah,S,B,c,p,ay,ai,us,hk,hv⟩:=hI.Qz ag R;have U:=run_range_map (P:=P) w ty k el g.1 B c hu p;have aj:=hI.le (Bx (h:=h) d F);have ak:cd h d none x=some ⟨v,f,[.mpc l vs],false,lst,true⟩:=by rw[aC _ _ (Ne.symm Q)];exact K
 obtain⟨W,X⟩:=xA ak J;have hA:=aj.freeze [x];have C:∀z,aV (EH (cd h d none)) (kG (EH (cd h d none)) [x]) z=if z=x then some ⟨v,f,[.mpc l vs],true,true,true⟩ else EH (cd h d none) z:=by
  intro z;rw[Cy]
  by_cases hz:z=x
  ·subst hz;rw[if_pos (by simp),if_pos rfl,W];rfl
  ·rw[if_neg (by simpa using hz),if_neg hz]
 generalize aA:aV (EH (cd h d none)) (kG (EH (cd h d none)) [x])=G at hA C;have Y:=heap_alloc_new w (.mapIter (some g.1) c #[] c);have hold:∀b,b<w.heap.size->(w.alloc (.mapIter (some g.1) c #[] c)).heap[b]? = w.heap[b]?:=fun b s=>Below.heap_alloc w _ b s;have u:=(Below.refl w.heap.size w).alloc (ajz _) (.mapIter (some g.1) c #[] c);have Z:g.1<w.heap.size:=(akx.1 p).1;have H:G x=some ⟨v,f,[.mpc l vs],true,true,true⟩:=by rw[C,if_pos rfl]
 have al:¬Own M G blk g.1:=by
  rintro (s|⟨y,r',g',E,A,I,he⟩)
  ·exact hA.notM H h5 s
  ·have:y=x:=hA.inj y x r' _ g' g E H I h5 he;subst this;rw[H]at E;cases E;cases A
 have hB:=hA.Ft (w':=w.alloc (.mapIter (some g.1) c #[] c)) (h1:=G) (old:=none) (d:=d) (e:=e) (r0:=⟨e,900000,[.mpc l vs],false,true,true⟩) (go:=some (w.heap.size,0)) u.os u.tape u.output u.size (fun k hk _=>hold k hk) (fun y E=>by cases E) rfl hV
  ⟨.inl (ajz _),.inl ⟨l,vs,rfl,S,fun q=>absurd q (alC _),fun _=>⟨rfl,g.1,B,c,#[],[],List.range l.length,us,Y,by have:=u.size;omega,by
   rintro (s|s)
   ·exact al s
   ·have:g.1=w.heap.size:=s;omega,(hold _ Z).trans p,ai,(akB 900000).symm,ajA _,by simp,List.nodup_range,fun i=>by
   rw[ak2];constructor
   ·intro hi;exact⟨B[i]'(by omega),akC (by omega),by simp⟩
   ·rintro⟨e1,ao,_⟩;have:=(akx.1 ao).1;omega,fun i hi=>by simp at hi,fun j k' O=>by
   obtain⟨e1,p1,p2,p3⟩:=hk j k' O;have aq:=(ajZ.1 O).1;exact⟨j,e1,by simp[aq],p1,p2,p3⟩,fun j y O=>(hv j y O).keep fun b q1 q2=>⟨by have:=u.size;omega,by
    rintro (s|s)
    ·apply q2;rcases s with s|⟨y,r',g',E,A,I,he⟩
     ·exact .inl s
     ·by_cases aa:y=x
      ·subst aa;rw[H]at E;cases E;cases A
      ·rw[C,if_neg aa]at E;obtain⟨r2,q3,q4⟩:=Bx (h:=h) d F y r' E;refine .inr ⟨y,r2,g',q3,?_,I,he⟩;rcases q4 with rfl|⟨_,cs,rfl,_⟩|⟨_,kk,rfl⟩
       ·exact A
       ·exact A
       ·exact A
    ·have:b=w.heap.size:=s;omega,hold b q1⟩⟩⟩⟩ rfl rfl (fun _ g' I j x' s' n' O=>by cases j<;>simp at O)
 have ab:cd G d (some (⟨e,900000,[.mpc l vs],false,true,true⟩:Row))=EH (aV h [(x,some ⟨v,f,[.mpc l vs],true,true,true⟩),(d,some ⟨e,900000,[.mpc l vs],false,true,true⟩)]):=by
  have ar:aV h [(x,some ⟨v,f,[.mpc l vs],true,true,true⟩),(d,some ⟨e,900000,[.mpc l vs],false,true,true⟩)]=cd (cd h x (some ⟨v,f,[.mpc l vs],true,true,true⟩)) d (some ⟨e,900000,[.mpc l vs],false,true,true⟩):=rfl;rw[ar];have k1:cd (cd h x (some (⟨v,f,[.mpc l vs],true,true,true⟩:Row))) d (some ⟨e,900000,[.mpc l vs],false,true,true⟩) d=some ⟨e,900000,[.mpc l vs],false,true,true⟩:=az _ _ _;have k2:cd (cd h x (some (⟨v,f,[.mpc l vs],true,true,true⟩:Row))) d (some ⟨e,900000,[.mpc l vs],false,true,true⟩) x=some ⟨v,f,[.mpc l vs],true,true,true⟩:=by rw[aC _ _ (Ne.symm Q),az]
  obtain⟨m1,m2⟩:=xA k1 F;obtain⟨m3,m4⟩:=xA k2 J;have k3:cd h d none d=none:=az _ _ _;funext z
  by_cases hzd:rt z=d
  ·rcases rF hzd with rfl|⟨o',rfl⟩
   ·rw[az,m1]
   ·rw[aC _ _ (by have:=gR d o';omega),m2,C,if_neg (by have:=gR d o';omega),u4 F,k3];rfl
  ·rw[aC _ _ (fun e=>hzd (by rw[e,jD (by omega)])),C]
   by_cases hzx:rt z=x
   ·rcases rF hzx with rfl|⟨o',rfl⟩
    ·rw[if_pos rfl,m3]
    ·rw[if_neg (by have:=gR x o';omega),m4,X]
   ·rw[if_neg (fun e=>hzx (by rw[e,jD (by omega)]))];exact e9 (by rw[aC _ _ hzd,aC _ _ hzd,aC _ _ hzx])
 rw[ab]at hB;refine aO (v := .pointer (some ⟨w.heap.size,0,none⟩)) (w':=w.alloc (.mapIter (some g.1) c #[] c)) ?_ ⟨cd blk d (some (w.heap.size,0)),hB.weaken fun x n K =>?_,?_⟩
 ·simp[execOp,ho,ah,U]
 ·rcases K with K|⟨rfl,rfl⟩
  ·exact .inl K
  ·exact .inr ⟨hd,rfl⟩
 ·exact⟨.inr ⟨hd,rfl⟩,fun r hr hv=>⟨(w.heap.size,0),az _ _ _,rfl⟩⟩
def Inv.iter (k:Inv N M L w0 blk V t (EH h) a w) {y v ty:Nat} {p:Operand} {f:List dY} {vs:List D} {lst:Bool} (m:Am.ev t p=.ptr y v 0) (n:h y=some ⟨v,ty,[.mpc f vs],false,lst,true⟩) (i:900000<=ty) (j:y<PK) :
  ∃(g:Nat×Nat),blk y=some g∧a.eval p=.pointer (some ⟨g.1,g.2+0,none⟩)∧vs.length=f.length∧N1 w (Own M (EH h) blk) g ty f vs:=by
 obtain⟨c,_⟩:=xA n j;have d:=k.ev p;rw[m]at d;obtain⟨g,l,o⟩:=d.2 _ c rfl;have b:=k.rowIs c l;unfold eS at b;simp only at b;rcases b with⟨q,r,e,s,_,u⟩|⟨e,_⟩
 ·simp only[ajU,D.mpc.injEq,and_true]at e;obtain⟨rfl,rfl⟩:=e;exact⟨g,l,o,s,u i⟩
 ·have:=e _ (ajT.2 rfl);cases this
def UH {y v ty b:Nat} {i c:List dY} {vs d:List D} {fz lst fz' a:Bool} (j:h y=some ⟨v,ty,[.mpc i vs],fz,lst,true⟩) (f:y<PK):EH (cd h y (some ⟨v,b,[.mpc c d],fz',a,true⟩))=cd (EH h) y (some ⟨v,b,[.mpc c d],fz',a,true⟩):=by
 obtain⟨_,k⟩:=xA j f;have g:cd h y (some (⟨v,b,[.mpc c d],fz',a,true⟩:Row)) y=some ⟨v,b,[.mpc c d],fz',a,true⟩:=az _ _ _;obtain⟨l,m⟩:=xA g f;funext z
 by_cases hz:rt z=y
 ·rcases rF hz with rfl|⟨n,rfl⟩
  ·rw[az,l]
  ·rw[aC _ _ (by have:=gR y n;have:=dx;omega),m,k]
 ·rw[aC _ _ (fun e=>hz (by rw[e,jD (by have:=dx;omega)]))];exact e9 (by rw[aC _ _ hz])
def XF (hI:Inv N M L w0 blk V t (EH h) a w) {y v ty:Nat} {p:Operand} {I:List dY} {vs:List D} {lst:Bool} (ho:o.op=.next p false) (hp:ev t p=.ptr y v 0) (hy:h y=some ⟨v,ty,[.mpc I vs],false,lst,true⟩) (az:900000<=ty) (R:y<PK) :
  eZ P o a w fun v' w'=>(I.drop (ty-900000)=[]∧kW N M L w0 V t h a e o.dst ⟨.tup [.bool false],[]⟩ v' w') ∨
   ∃(j:Nat) (k:dY) (x:D),(I.drop (ty-900000))[j]? = some k∧(vs.drop (ty-900000))[j]? = some x∧kW N M L w0 V t h a e o.dst ⟨.tup [.bool true,abb k,x],[(y,some ⟨v,900001,[.mpc (k::(I.drop (ty-900000)).eraseIdx j) (x::(vs.drop (ty-900000)).eraseIdx j)],false,lst,true⟩)]⟩ v' w':=by
 obtain⟨g,hg,ae,aq,ar,b,s,f,seen,c,l,us,h1,h2,h3,h4,ag,k1,k2,k3,k4,k5,k6,k7,k8⟩:=hI.iter hp hy az R;rw[ar,aj5]at ae;obtain⟨ah,_⟩:=xA hy R;rw[<- k1];have S:(I.drop c.length).length=l.length:=by rw[ajQ,<- k3,aky];omega
 have aA:(vs.drop c.length).length=l.length:=by rw[ajQ,aq,<- k3,aky];omega
 rcases run_next_at (P:=P) w o.type g.1 b f f seen s f h1 h4 ag.1 (ajz _) with⟨aB,F⟩|⟨B,aD,w1,aE,F⟩
 ·refine aO (v := .tuple #[.bool false]) (w':=w) (by simp[execOp,ho,ae,F]) (.inl ⟨?_,?_⟩)
  ·have aF:l=[]:=by
    refine List.eq_nil_iff_forall_not_mem.2 fun i T =>?_;obtain⟨e1,G,q2⟩:=(k5 i).1 T;have:e1∈(leftOf s seen).toList:=by
     unfold leftOf;simp only[Array.toList_filter,ak0];exact⟨by simpa using Array.mem_of_getElem? G,by rw[q2];rfl⟩
    have h0:(leftOf s seen).toList.length=0:=by simpa using aB
    rw[akF h0]at this;cases this
   rw[aF]at S;exact akF S
  ·refine bq.eJ (h:=EH h) hI (bZ (.tup _ [_] rfl fun j x O =>?_))
   match j,O with
   | 0,O=>simp only[List.getElem?_cons_zero,ajH]at O;subst O;exact .bool _
   | j+1,O=>simp at O
 ·obtain⟨m1,m2⟩:=mem_left aD;obtain⟨i,T⟩:=ajS m1;rw[akA]at T;have aG:i∈l:=(k5 i).2 ⟨B,T,m2⟩;obtain⟨j,O⟩:∃j,j=l.idxOf i:=⟨_,rfl⟩;have aH:j<l.length:=by rw[O];exact List.idxOf_lt_length_of_mem aG
  have aI:l[j]? = some i:=by rw[ajL aH];simp[O]
  have au:l.erase i=l.eraseIdx j:=List.erase_eq_eraseIdx_of_idxOf O.symm;have U:(I.drop c.length)[j]? = some ((I.drop c.length)[j]'(by omega)):=ajL _;have W:(vs.drop c.length)[j]? = some ((vs.drop c.length)[j]'(by omega)):=ajL _;generalize (I.drop c.length)[j]'(by omega)=k at U;generalize (vs.drop c.length)[j]'(by omega)=x at W;have av:∀n:Nat,(c++l)[c.length+n]? = l[n]?:=fun n=>by rw[ako (by omega)];congr 1;omega
  have H:B.key=nS k∧B.val=us (c.length+j):=by
   rw[ajV]at U;obtain⟨i',J,G,q2,X,q4⟩:=k7 _ _ U;rw[av,aI]at G;cases G;rw[T]at q2;cases q2;exact⟨X,q4⟩
  have Z:RP w (Own M (EH h) blk) x (us (c.length+j)):=by
   rw[ajV]at W;exact k8 _ _ W
  have aw:w1.heap=w.heap∧w1.os=w.os∧w1.tape=w.tape∧w1.output=w.output:=by rcases aE with rfl|rfl<;>exact⟨rfl,rfl,rfl,rfl⟩
  obtain⟨p1,p2,p3,p4⟩:=aw;generalize Y:ChangeMaps.setBlock w1 g.1 (.mapIter (some b) f (seen.push B.born) f)=w' at F;have ax:g.1<w.heap.size:=(akx.1 h1).1;have ai:w'.heap=w.heap.setIfInBounds g.1 (.mapIter (some b) f (seen.push B.born) f):=by rw[<- Y,<- p1];rfl
  have aj:w'.heap.size=w.heap.size:=by rw[ai];simp
  have aa:w'.heap[g.1]? = some (.mapIter (some b) f (seen.push B.born) f):=by rw[ai,alq,if_pos rfl,if_pos ax]
  have hheap:∀Q,Q≠g.1->w'.heap[Q]? = w.heap[Q]?:=fun Q hb=>by rw[ai,alq,if_neg (Ne.symm hb)]
  have ab:Own M (EH h) blk g.1 := .inr ⟨y,_,g,ah,rfl,hg,rfl⟩;have aJ:b≠g.1:=fun e=>h3 (e ▸ ab);have ak:∀ {d:D} {u:Value},RP w (Own M (EH h) blk) d u->RP w' (Own M (EH h) blk) d u:=fun hr=>hr.keep fun b G q2=>⟨by rw[aj];exact G,q2,hheap b (fun e=>q2 (e ▸ ab))⟩;have ad:∀ {n:Nat} {J:MapEntry},s[n]? = some J->(J.born==B.born)=decide (n=i):=by
   intro n J A
   by_cases al:n=i
   ·subst al;rw[T]at A;cases A;simp
   ·have:J.born≠B.born:=by
     intro he;have aK:=ag.2.1;have a1:(s.toList.map (·.born))[n]? = some J.born:=by simp[A]
     have a2:(s.toList.map (·.born))[i]? = some B.born:=by simp[T]
     have aL:=(ajZ.1 a1).1;have aM:=(ajZ.1 a2).1;exact al ((List.getElem_inj (h₀:=aL) (h₁:=aM) aK).1 (by
      have b1:=(ajZ.1 a1).2;have b2:=(ajZ.1 a2).2;rw[b1,b2,he]))
    simp[al,this]
  have hB:=hI.lP (x:=y) (r:=⟨v,ty,[.mpc I vs],false,lst,true⟩) (r0:=⟨v,900001,[.mpc (k::(I.drop c.length).eraseIdx j) (x::(vs.drop c.length).eraseIdx j)],false,lst,true⟩) (w':=w') ah rfl rfl
   (by rw[<- Y];exact p2) (by rw[<- Y];exact p3) (by rw[<- Y];exact p4) (by rw[aj];exact ajz _) (fun Q _ hb=>hheap Q (hb g hg)) (by
   rw[hg];refine⟨by simp[World.shape?,aa,h1],.inl ⟨_,_,rfl,?_,fun q=>absurd q (by show ¬(900001<900000);omega),fun _=>⟨ar,b,s,f,seen.push B.born,[i],l.eraseIdx j,fun m=>if m=0 then B.val else us (c.length+(if m-1<j then m-1 else m)),aa,by rw[aj];exact h2,h3,(hheap b aJ).trans h4,ag,(akL (n:=900000) (m:=1)).symm,ajz _,?_,?_,fun n =>?_,fun n A =>?_,fun m k' E =>?_,fun m x' E =>?_⟩⟩⟩
   ·simp only[List.length_cons,List.length_eraseIdx];rw[S,aA]
   ·simp only[aky,List.length_cons,List.length_nil,List.length_eraseIdx];rw[S];split<;>omega
   ·rw[<- au];exact k4.erase _
   ·rw[<- au,k4.mem_erase_iff,k5];constructor
    ·rintro⟨G,J,q2,X⟩;exact⟨J,q2,by rw[contains_push,X,ad q2];simpa using G⟩
    ·rintro⟨J,q2,X⟩;rw[contains_push,ad q2,Bool.or_eq_false_iff,decide_eq_false_iff_not]at X;exact⟨X.2,J,q2,X.1⟩
   ·simp only[ajT]at A;subst A;exact⟨B,T,by simp⟩
   ·cases m with
    | zero =>
     simp only[List.getElem?_cons_zero,ajH]at E;subst E;exact⟨i,B,rfl,T,H.1,by simp⟩
    | succ m =>
     rw[akv,List.getElem?_eraseIdx]at E;have K:(I.drop c.length)[if m<j then m else m+1]? = some k':=by
      by_cases C:m<j
      ·rw[if_pos C]at E ⊢;exact E
      ·rw[if_neg C]at E ⊢;exact E
     rw[ajV]at K;obtain⟨i',J,G,q2,X,q4⟩:=k7 _ _ K;rw[av]at G;refine⟨i',J,?_,q2,X,?_⟩
     ·rw[List.singleton_append,akv,List.getElem?_eraseIdx]
      by_cases C:m<j
      ·rw[if_pos C]at G ⊢;exact G
      ·rw[if_neg C]at G ⊢;exact G
     ·simp only[Nat.add_eq_zero_iff,alu,and_false,if_false,alb];exact q4
   ·cases m with
    | zero =>
     simp only[List.getElem?_cons_zero,ajH]at E;subst E;simp only[if_true];rw[H.2];exact ak Z
    | succ m =>
     rw[akv,List.getElem?_eraseIdx]at E;have K:(vs.drop c.length)[if m<j then m else m+1]? = some x':=by
      by_cases C:m<j
      ·rw[if_pos C]at E ⊢;exact E
      ·rw[if_neg C]at E ⊢;exact E
     rw[ajV]at K;simp only[Nat.add_eq_zero_iff,alu,and_false,if_false,alb];exact ak (k8 _ _ K)) (fun hh=>by cases hh) (fun _ g' ao j' x' s' n' aN=>by cases j'<;>simp at aN)
  refine aO (v := .tuple #[.bool true,B.key,B.val]) (w':=w') (by simp[execOp,ho,ae,F]) (.inr ⟨j,k,x,U,W,blk,?_,?_⟩)
  ·show Inv _ _ _ _ _ _ _ (EH (cd h y (some _))) _ _;rw[UH hy R];exact hB.weaken fun _ _ h =>.inl h
  ·have aP:∀Q,Own M (EH (cd h y (some ⟨v,900001,[.mpc (k::(I.drop c.length).eraseIdx j) (x::(vs.drop c.length).eraseIdx j)],false,lst,true⟩))) blk Q->Own M (EH h) blk Q:=by
    rw[UH hy R];rintro Q (hb|⟨z,r',g',hz,aQ,ao,he⟩)
    ·exact .inl hb
    ·by_cases ay:z=y
     ·subst ay;exact .inr ⟨z,_,g',ah,rfl,ao,he⟩
     ·rw[aC _ _ ay]at hz;exact .inr ⟨z,r',g',hz,aQ,ao,he⟩
   refine bZ (.tup _ [.bool true,B.key,B.val] rfl fun n d A =>?_)
   match n,A with
   | 0,A=>simp only[List.getElem?_cons_zero,ajH]at A;subst A;exact .bool _
   | 1,A =>
    simp only[List.getElem?_cons_succ,List.getElem?_cons_zero,ajH]at A;subst A;simp only[aku,akt];rw[H.1];exact Qe k
   | 2,A =>
    simp only[List.getElem?_cons_succ,List.getElem?_cons_zero,ajH]at A;subst A;simp only[aku,akt];rw[H.2];exact (ak Z).less aP
   | n+3,A=>simp at A
def S1 (E:Inv N M L w0 blk V t (EH h) a w) {y v:Nat} {p:Operand} {k:dY} {x:D} {ks:List dY} {vs:List D} {lst:Bool} (K:o.op=.entry p) (O:ev t p=.ptr y v 0) (Q:h y=some ⟨v,900001,[.mpc (k::ks) (x::vs)],false,lst,true⟩) (u:y<PK) :
  eZ P o a w (kW N M L w0 V t h a e o.dst ⟨.tup [abb k,x],[]⟩):=by
 obtain⟨g,hg,m,F,z,b,q,f,seen,c,l,us,G,h2,h3,R,A,S,k2,k3,k4,k5,T,U,W⟩:=E.iter O Q (by omega) u;rw[z,aj5]at m;have B:c.length=1:=by rw[S]
 match c,B with
 | [i],_ =>
  obtain⟨r,H,X⟩:=T i (by simp);obtain⟨i',e',I,J,Y,Z⟩:=U 0 k rfl;simp only[List.singleton_append,List.getElem?_cons_zero,ajH]at I;subst I;rw[H]at J;cases J;obtain⟨s0,C⟩:=Array.back?_eq_some_iff.1 X;rw[C]at G;have s:=run_entry_at (P:=P) w g.1 b f s0 q f r G R (by simpa using Array.mem_of_getElem? H) A.2.1;refine aO (v := .tuple #[r.key,r.val]) (w':=w) (by simp[execOp,K,m,s]) (bq.eJ (h:=EH h) E (bZ (.tup _ [r.key,r.val] rfl fun n d j =>?_)))
  match n,j with
  | 0,j =>
   simp only[List.getElem?_cons_zero,ajH]at j;subst j;simp only[akt];rw[Y];exact Qe k
  | 1,j =>
   simp only[List.getElem?_cons_succ,List.getElem?_cons_zero,ajH]at j;subst j;simp only[aku,akt];rw[Z];exact W 0 x rfl
  | n+2,j=>simp at j
end
def tab (t:Nat):Option Ty :=
 match t with
 | 2=>some ⟨.int .i64,1,8,[.int .i64 0],false⟩
 | 3=>some ⟨.int .i64,1,8,[.int .i64 0],false⟩
 | 4=>some ⟨.bool,1,1,[.bool false],false⟩
 | 5=>some ⟨.int .u8,1,1,[.int .u8 0],false⟩
 | 9=>some ⟨.str,1,16,[.string ⟨#[]⟩],false⟩
 | 12=>some ⟨.int .u64,1,8,[.int .u64 0],false⟩
 | 21=>some ⟨.int .i32,1,4,[.int .i32 0],false⟩
 | 22=>some ⟨.slice 3,1,24,[.slice none 0 0],false⟩
 | 23=>some ⟨.slice 57,1,24,[.slice none 0 0],false⟩
 | 24=>some ⟨.struct [(22,0),(23,1)],2,48,[.slice none 0 0,.slice none 0 0],false⟩
 | 25=>some ⟨.struct [(22,0),(23,1)],2,48,[.slice none 0 0,.slice none 0 0],false⟩
 | 26=>some ⟨.slice 27,1,24,[.slice none 0 0],false⟩
 | 27=>some ⟨.slice 41,1,24,[.slice none 0 0],false⟩
 | 31=>some ⟨.int .i64,1,8,[.int .i64 0],false⟩
 | 38=>some ⟨.struct [(3,0),(22,1)],2,32,[.int .i64 0,.slice none 0 0],false⟩
 | 39=>some ⟨.struct [(3,0),(22,1)],2,32,[.int .i64 0,.slice none 0 0],false⟩
 | 40=>some ⟨.struct [(39,0),(39,2)],4,64,[.int .i64 0,.slice none 0 0,.int .i64 0,.slice none 0 0],false⟩
 | 41=>some ⟨.struct [(39,0),(39,2)],4,64,[.int .i64 0,.slice none 0 0,.int .i64 0,.slice none 0 0],false⟩
 | 51=>some ⟨.slice 83,1,24,[.slice none 0 0],false⟩
 | 52=>some ⟨.slice 60,1,24,[.slice none 0 0],false⟩
 | 53=>some ⟨.struct [(51,0),(52,1),(26,2)],3,72,[.slice none 0 0,.slice none 0 0,.slice none 0 0],false⟩
 | 54=>some ⟨.struct [(51,0),(52,1),(26,2)],3,72,[.slice none 0 0,.slice none 0 0,.slice none 0 0],false⟩
 | 55=>some ⟨.slice 72,1,24,[.slice none 0 0],false⟩
 | 56=>some ⟨.struct [(54,0),(55,3),(22,4)],5,120,[.slice none 0 0,.slice none 0 0,.slice none 0 0,.slice none 0 0,.slice none 0 0],false⟩
 | 57=>some ⟨.struct [(54,0),(55,3),(22,4)],5,120,[.slice none 0 0,.slice none 0 0,.slice none 0 0,.slice none 0 0,.slice none 0 0],false⟩
 | 59=>some ⟨.struct [(3,0),(3,1),(3,2),(9,3)],4,40,[.int .i64 0,.int .i64 0,.int .i64 0,.string ⟨#[]⟩],true⟩
 | 60=>some ⟨.struct [(3,0),(3,1),(3,2),(9,3)],4,40,[.int .i64 0,.int .i64 0,.int .i64 0,.string ⟨#[]⟩],true⟩
 | 63=>some ⟨.int .u16,1,2,[.int .u16 0],false⟩
 | 64=>some ⟨.slice 118,1,24,[.slice none 0 0],false⟩
 | 65=>some ⟨.struct [(3,0),(64,1)],2,32,[.int .i64 0,.slice none 0 0],false⟩
 | 66=>some ⟨.struct [(3,0),(64,1)],2,32,[.int .i64 0,.slice none 0 0],false⟩
 | 69=>some ⟨.slice 4,1,24,[.slice none 0 0],false⟩
 | 71=>some ⟨.struct [(3,0),(3,1)],2,16,[.int .i64 0,.int .i64 0],true⟩
 | 72=>some ⟨.struct [(3,0),(3,1)],2,16,[.int .i64 0,.int .i64 0],true⟩
 | 77=>some ⟨.slice 133,1,24,[.slice none 0 0],false⟩
 | 82=>some ⟨.struct [(3,0),(3,1),(3,2)],3,24,[.int .i64 0,.int .i64 0,.int .i64 0],true⟩
 | 83=>some ⟨.struct [(3,0),(3,1),(3,2)],3,24,[.int .i64 0,.int .i64 0,.int .i64 0],true⟩
 | 113=>some ⟨.map 116 41,1,8,[.map none],false⟩
 | 115=>some ⟨.struct [(3,0),(3,1)],2,16,[.int .i64 0,.int .i64 0],true⟩
 | 116=>some ⟨.struct [(3,0),(3,1)],2,16,[.int .i64 0,.int .i64 0],true⟩
 | 117=>some ⟨.struct [(3,0),(3,1),(41,2)],6,80,[.int .i64 0,.int .i64 0,.int .i64 0,.slice none 0 0,.int .i64 0,.slice none 0 0],false⟩
 | 118=>some ⟨.struct [(3,0),(3,1),(41,2)],6,80,[.int .i64 0,.int .i64 0,.int .i64 0,.slice none 0 0,.int .i64 0,.slice none 0 0],false⟩
 | 124=>some ⟨.slice 128,1,24,[.slice none 0 0],false⟩
 | 126=>some ⟨.slice 130,1,24,[.slice none 0 0],false⟩
 | 127=>some ⟨.struct [(41,0),(126,4)],5,88,[.int .i64 0,.slice none 0 0,.int .i64 0,.slice none 0 0,.slice none 0 0],false⟩
 | 128=>some ⟨.struct [(41,0),(126,4)],5,88,[.int .i64 0,.slice none 0 0,.int .i64 0,.slice none 0 0,.slice none 0 0],false⟩
 | 129=>some ⟨.struct [(3,0),(41,1)],5,72,[.int .i64 0,.int .i64 0,.slice none 0 0,.int .i64 0,.slice none 0 0],false⟩
 | 130=>some ⟨.struct [(3,0),(41,1)],5,72,[.int .i64 0,.int .i64 0,.slice none 0 0,.int .i64 0,.slice none 0 0],false⟩
 | 132=>some ⟨.struct [(3,0),(41,1)],5,72,[.int .i64 0,.int .i64 0,.slice none 0 0,.int .i64 0,.slice none 0 0],false⟩
 | 133=>some ⟨.struct [(3,0),(41,1)],5,72,[.int .i64 0,.int .i64 0,.slice none 0 0,.int .i64 0,.slice none 0 0],false⟩
 | 152=>some ⟨.int .u64,1,8,[.int .u64 0],false⟩
 | 153=>some ⟨.int .u64,1,8,[.int .u64 0],false⟩
 | 183=>some ⟨.int .i64,1,8,[.int .i64 0],false⟩
 | 190=>some ⟨.int .u32,1,4,[.int .u32 0],false⟩
 | 199=>some ⟨.slice 22,1,24,[.slice none 0 0],false⟩
 | 207=>some ⟨.int .u64,1,8,[.int .u64 0],false⟩
 | _=>none
def W2:tab 3=some ⟨.int .i64,1,8,[.int .i64 0],false⟩:=rfl
def afd:tab 4=some ⟨.bool,1,1,[.bool false],false⟩:=rfl
def afe:tab 5=some ⟨.int .u8,1,1,[.int .u8 0],false⟩:=rfl
def acr:tab 9=some ⟨.str,1,16,[.string ⟨#[]⟩],false⟩:=rfl
def Nz:tab 22=some ⟨.slice 3,1,24,[.slice none 0 0],false⟩:=rfl
def Ue:tab 23=some ⟨.slice 57,1,24,[.slice none 0 0],false⟩:=rfl
def NA:tab 25=some ⟨.struct [(22,0),(23,1)],2,48,[.slice none 0 0,.slice none 0 0],false⟩:=rfl
def NB:tab 26=some ⟨.slice 27,1,24,[.slice none 0 0],false⟩:=rfl
def NC:tab 27=some ⟨.slice 41,1,24,[.slice none 0 0],false⟩:=rfl
def Uf:tab 39=some ⟨.struct [(3,0),(22,1)],2,32,[.int .i64 0,.slice none 0 0],false⟩:=rfl
def ND:tab 41=some ⟨.struct [(39,0),(39,2)],4,64,[.int .i64 0,.slice none 0 0,.int .i64 0,.slice none 0 0],false⟩:=rfl
def Ug:tab 51=some ⟨.slice 83,1,24,[.slice none 0 0],false⟩:=rfl
def Uh:tab 52=some ⟨.slice 60,1,24,[.slice none 0 0],false⟩:=rfl
def Ui:tab 54=some ⟨.struct [(51,0),(52,1),(26,2)],3,72,[.slice none 0 0,.slice none 0 0,.slice none 0 0],false⟩:=rfl
def Uj:tab 55=some ⟨.slice 72,1,24,[.slice none 0 0],false⟩:=rfl
def NF:tab 57=some ⟨.struct [(54,0),(55,3),(22,4)],5,120,[.slice none 0 0,.slice none 0 0,.slice none 0 0,.slice none 0 0,.slice none 0 0],false⟩:=rfl
def NG:tab 60=some ⟨.struct [(3,0),(3,1),(3,2),(9,3)],4,40,[.int .i64 0,.int .i64 0,.int .i64 0,.string ⟨#[]⟩],true⟩:=rfl
def acp:tab 64=some ⟨.slice 118,1,24,[.slice none 0 0],false⟩:=rfl
def acq:tab 66=some ⟨.struct [(3,0),(64,1)],2,32,[.int .i64 0,.slice none 0 0],false⟩:=rfl
def NH:tab 72=some ⟨.struct [(3,0),(3,1)],2,16,[.int .i64 0,.int .i64 0],true⟩:=rfl
def NI:tab 83=some ⟨.struct [(3,0),(3,1),(3,2)],3,24,[.int .i64 0,.int .i64 0,.int .i64 0],true⟩:=rfl
def WR:tab 113=some ⟨.map 116 41,1,8,[.map none],false⟩:=rfl
def WS:tab 116=some ⟨.struct [(3,0),(3,1)],2,16,[.int .i64 0,.int .i64 0],true⟩:=rfl
def WT:tab 118=some ⟨.struct [(3,0),(3,1),(41,2)],6,80,[.int .i64 0,.int .i64 0,.int .i64 0,.slice none 0 0,.int .i64 0,.slice none 0 0],false⟩:=rfl
def WU:tab 124=some ⟨.slice 128,1,24,[.slice none 0 0],false⟩:=rfl
def WV:tab 126=some ⟨.slice 130,1,24,[.slice none 0 0],false⟩:=rfl
def Ny:tab 128=some ⟨.struct [(41,0),(126,4)],5,88,[.int .i64 0,.slice none 0 0,.int .i64 0,.slice none 0 0,.slice none 0 0],false⟩:=rfl
def WW:tab 130=some ⟨.struct [(3,0),(41,1)],5,72,[.int .i64 0,.int .i64 0,.slice none 0 0,.int .i64 0,.slice none 0 0],false⟩:=rfl
def WX:tab 152=some ⟨.int .u64,1,8,[.int .u64 0],false⟩:=rfl
def WY:tab 153=some ⟨.int .u64,1,8,[.int .u64 0],false⟩:=rfl
def WZ:tab 190=some ⟨.int .u32,1,4,[.int .u32 0],false⟩:=rfl
def W0:tab 199=some ⟨.slice 22,1,24,[.slice none 0 0],false⟩:=rfl
def ai1:eG prog 2 ⟨.int .i64,1,8,[.int .i64 0],false⟩:=⟨by kernel_rfl,by kernel_rfl,by kernel_rfl,fun h=>by cases h⟩
def ai2:eG prog 3 ⟨.int .i64,1,8,[.int .i64 0],false⟩:=⟨by kernel_rfl,by kernel_rfl,by kernel_rfl,fun h=>by cases h⟩
def ai3:eG prog 4 ⟨.bool,1,1,[.bool false],false⟩:=⟨by kernel_rfl,by kernel_rfl,by kernel_rfl,fun h=>by cases h⟩
def ai4:eG prog 5 ⟨.int .u8,1,1,[.int .u8 0],false⟩:=⟨by kernel_rfl,by kernel_rfl,by kernel_rfl,fun h=>by cases h⟩
def ai5:eG prog 9 ⟨.str,1,16,[.string ⟨#[]⟩],false⟩:=⟨by kernel_rfl,by kernel_rfl,by kernel_rfl,fun h=>by cases h⟩
def ahM:eG prog 12 ⟨.int .u64,1,8,[.int .u64 0],false⟩:=⟨by kernel_rfl,by kernel_rfl,by kernel_rfl,fun h=>by cases h⟩
def ahN:eG prog 21 ⟨.int .i32,1,4,[.int .i32 0],false⟩:=⟨by kernel_rfl,by kernel_rfl,by kernel_rfl,fun h=>by cases h⟩
def ahO:eG prog 22 ⟨.slice 3,1,24,[.slice none 0 0],false⟩:=⟨by kernel_rfl,by kernel_rfl,by kernel_rfl,fun h=>by cases h⟩
def ahP:eG prog 23 ⟨.slice 57,1,24,[.slice none 0 0],false⟩:=⟨by kernel_rfl,by kernel_rfl,by kernel_rfl,fun h=>by cases h⟩
def ahQ:eG prog 24 ⟨.struct [(22,0),(23,1)],2,48,[.slice none 0 0,.slice none 0 0],false⟩:=⟨by kernel_rfl,by kernel_rfl,by kernel_rfl,fun h=>by cases h⟩
def ahR:eG prog 25 ⟨.struct [(22,0),(23,1)],2,48,[.slice none 0 0,.slice none 0 0],false⟩:=⟨by kernel_rfl,by kernel_rfl,by kernel_rfl,fun h=>by cases h⟩
def ahS:eG prog 26 ⟨.slice 27,1,24,[.slice none 0 0],false⟩:=⟨by kernel_rfl,by kernel_rfl,by kernel_rfl,fun h=>by cases h⟩
def ahT:eG prog 27 ⟨.slice 41,1,24,[.slice none 0 0],false⟩:=⟨by kernel_rfl,by kernel_rfl,by kernel_rfl,fun h=>by cases h⟩
def ahU:eG prog 31 ⟨.int .i64,1,8,[.int .i64 0],false⟩:=⟨by kernel_rfl,by kernel_rfl,by kernel_rfl,fun h=>by cases h⟩
def ahV:eG prog 38 ⟨.struct [(3,0),(22,1)],2,32,[.int .i64 0,.slice none 0 0],false⟩:=⟨by kernel_rfl,by kernel_rfl,by kernel_rfl,fun h=>by cases h⟩
def ahW:eG prog 39 ⟨.struct [(3,0),(22,1)],2,32,[.int .i64 0,.slice none 0 0],false⟩:=⟨by kernel_rfl,by kernel_rfl,by kernel_rfl,fun h=>by cases h⟩
def ahX:eG prog 40 ⟨.struct [(39,0),(39,2)],4,64,[.int .i64 0,.slice none 0 0,.int .i64 0,.slice none 0 0],false⟩:=⟨by kernel_rfl,by kernel_rfl,by kernel_rfl,fun h=>by cases h⟩
def ahY:eG prog 41 ⟨.struct [(39,0),(39,2)],4,64,[.int .i64 0,.slice none 0 0,.int .i64 0,.slice none 0 0],false⟩:=⟨by kernel_rfl,by kernel_rfl,by kernel_rfl,fun h=>by cases h⟩
def ahZ:eG prog 51 ⟨.slice 83,1,24,[.slice none 0 0],false⟩:=⟨by kernel_rfl,by kernel_rfl,by kernel_rfl,fun h=>by cases h⟩
def ah0:eG prog 52 ⟨.slice 60,1,24,[.slice none 0 0],false⟩:=⟨by kernel_rfl,by kernel_rfl,by kernel_rfl,fun h=>by cases h⟩
def ah1:eG prog 53 ⟨.struct [(51,0),(52,1),(26,2)],3,72,[.slice none 0 0,.slice none 0 0,.slice none 0 0],false⟩:=⟨by kernel_rfl,by kernel_rfl,by kernel_rfl,fun h=>by cases h⟩
def ah2:eG prog 54 ⟨.struct [(51,0),(52,1),(26,2)],3,72,[.slice none 0 0,.slice none 0 0,.slice none 0 0],false⟩:=⟨by kernel_rfl,by kernel_rfl,by kernel_rfl,fun h=>by cases h⟩
def ah3:eG prog 55 ⟨.slice 72,1,24,[.slice none 0 0],false⟩:=⟨by kernel_rfl,by kernel_rfl,by kernel_rfl,fun h=>by cases h⟩
def ah4:eG prog 56 ⟨.struct [(54,0),(55,3),(22,4)],5,120,[.slice none 0 0,.slice none 0 0,.slice none 0 0,.slice none 0 0,.slice none 0 0],false⟩:=⟨by kernel_rfl,by kernel_rfl,by kernel_rfl,fun h=>by cases h⟩
def ah5:eG prog 57 ⟨.struct [(54,0),(55,3),(22,4)],5,120,[.slice none 0 0,.slice none 0 0,.slice none 0 0,.slice none 0 0,.slice none 0 0],false⟩:=⟨by kernel_rfl,by kernel_rfl,by kernel_rfl,fun h=>by cases h⟩
def ah6:eG prog 59 ⟨.struct [(3,0),(3,1),(3,2),(9,3)],4,40,[.int .i64 0,.int .i64 0,.int .i64 0,.string ⟨#[]⟩],true⟩:=⟨by kernel_rfl,by kernel_rfl,by kernel_rfl,fun _=>⟨by kernel_rfl,by kernel_rfl,by kernel_rfl⟩⟩
def ah7:eG prog 60 ⟨.struct [(3,0),(3,1),(3,2),(9,3)],4,40,[.int .i64 0,.int .i64 0,.int .i64 0,.string ⟨#[]⟩],true⟩:=⟨by kernel_rfl,by kernel_rfl,by kernel_rfl,fun _=>⟨by kernel_rfl,by kernel_rfl,by kernel_rfl⟩⟩
def ah8:eG prog 63 ⟨.int .u16,1,2,[.int .u16 0],false⟩:=⟨by kernel_rfl,by kernel_rfl,by kernel_rfl,fun h=>by cases h⟩
def ah9:eG prog 64 ⟨.slice 118,1,24,[.slice none 0 0],false⟩:=⟨by kernel_rfl,by kernel_rfl,by kernel_rfl,fun h=>by cases h⟩
def aia:eG prog 65 ⟨.struct [(3,0),(64,1)],2,32,[.int .i64 0,.slice none 0 0],false⟩:=⟨by kernel_rfl,by kernel_rfl,by kernel_rfl,fun h=>by cases h⟩
def aib:eG prog 66 ⟨.struct [(3,0),(64,1)],2,32,[.int .i64 0,.slice none 0 0],false⟩:=⟨by kernel_rfl,by kernel_rfl,by kernel_rfl,fun h=>by cases h⟩
def aic:eG prog 69 ⟨.slice 4,1,24,[.slice none 0 0],false⟩:=⟨by kernel_rfl,by kernel_rfl,by kernel_rfl,fun h=>by cases h⟩
def aid:eG prog 71 ⟨.struct [(3,0),(3,1)],2,16,[.int .i64 0,.int .i64 0],true⟩:=⟨by kernel_rfl,by kernel_rfl,by kernel_rfl,fun _=>⟨by kernel_rfl,by kernel_rfl,by kernel_rfl⟩⟩
def aie:eG prog 72 ⟨.struct [(3,0),(3,1)],2,16,[.int .i64 0,.int .i64 0],true⟩:=⟨by kernel_rfl,by kernel_rfl,by kernel_rfl,fun _=>⟨by kernel_rfl,by kernel_rfl,by kernel_rfl⟩⟩
def aif:eG prog 77 ⟨.slice 133,1,24,[.slice none 0 0],false⟩:=⟨by kernel_rfl,by kernel_rfl,by kernel_rfl,fun h=>by cases h⟩
def aih:eG prog 82 ⟨.struct [(3,0),(3,1),(3,2)],3,24,[.int .i64 0,.int .i64 0,.int .i64 0],true⟩:=⟨by kernel_rfl,by kernel_rfl,by kernel_rfl,fun _=>⟨by kernel_rfl,by kernel_rfl,by kernel_rfl⟩⟩
def aii:eG prog 83 ⟨.struct [(3,0),(3,1),(3,2)],3,24,[.int .i64 0,.int .i64 0,.int .i64 0],true⟩:=⟨by kernel_rfl,by kernel_rfl,by kernel_rfl,fun _=>⟨by kernel_rfl,by kernel_rfl,by kernel_rfl⟩⟩
def agb:eG prog 113 ⟨.map 116 41,1,8,[.map none],false⟩:=⟨by kernel_rfl,by kernel_rfl,by kernel_rfl,fun h=>by cases h⟩
def agc:eG prog 115 ⟨.struct [(3,0),(3,1)],2,16,[.int .i64 0,.int .i64 0],true⟩:=⟨by kernel_rfl,by kernel_rfl,by kernel_rfl,fun _=>⟨by kernel_rfl,by kernel_rfl,by kernel_rfl⟩⟩
def agd:eG prog 116 ⟨.struct [(3,0),(3,1)],2,16,[.int .i64 0,.int .i64 0],true⟩:=⟨by kernel_rfl,by kernel_rfl,by kernel_rfl,fun _=>⟨by kernel_rfl,by kernel_rfl,by kernel_rfl⟩⟩
def age:eG prog 117 ⟨.struct [(3,0),(3,1),(41,2)],6,80,[.int .i64 0,.int .i64 0,.int .i64 0,.slice none 0 0,.int .i64 0,.slice none 0 0],false⟩:=⟨by kernel_rfl,by kernel_rfl,by kernel_rfl,fun h=>by cases h⟩
def agf:eG prog 118 ⟨.struct [(3,0),(3,1),(41,2)],6,80,[.int .i64 0,.int .i64 0,.int .i64 0,.slice none 0 0,.int .i64 0,.slice none 0 0],false⟩:=⟨by kernel_rfl,by kernel_rfl,by kernel_rfl,fun h=>by cases h⟩
def agh:eG prog 124 ⟨.slice 128,1,24,[.slice none 0 0],false⟩:=⟨by kernel_rfl,by kernel_rfl,by kernel_rfl,fun h=>by cases h⟩
def agi:eG prog 126 ⟨.slice 130,1,24,[.slice none 0 0],false⟩:=⟨by kernel_rfl,by kernel_rfl,by kernel_rfl,fun h=>by cases h⟩
def agj:eG prog 127 ⟨.struct [(41,0),(126,4)],5,88,[.int .i64 0,.slice none 0 0,.int .i64 0,.slice none 0 0,.slice none 0 0],false⟩:=⟨by kernel_rfl,by kernel_rfl,by kernel_rfl,fun h=>by cases h⟩
def agk:eG prog 128 ⟨.struct [(41,0),(126,4)],5,88,[.int .i64 0,.slice none 0 0,.int .i64 0,.slice none 0 0,.slice none 0 0],false⟩:=⟨by kernel_rfl,by kernel_rfl,by kernel_rfl,fun h=>by cases h⟩
def agl:eG prog 129 ⟨.struct [(3,0),(41,1)],5,72,[.int .i64 0,.int .i64 0,.slice none 0 0,.int .i64 0,.slice none 0 0],false⟩:=⟨by kernel_rfl,by kernel_rfl,by kernel_rfl,fun h=>by cases h⟩
def agm:eG prog 130 ⟨.struct [(3,0),(41,1)],5,72,[.int .i64 0,.int .i64 0,.slice none 0 0,.int .i64 0,.slice none 0 0],false⟩:=⟨by kernel_rfl,by kernel_rfl,by kernel_rfl,fun h=>by cases h⟩
def agn:eG prog 132 ⟨.struct [(3,0),(41,1)],5,72,[.int .i64 0,.int .i64 0,.slice none 0 0,.int .i64 0,.slice none 0 0],false⟩:=⟨by kernel_rfl,by kernel_rfl,by kernel_rfl,fun h=>by cases h⟩
def ago:eG prog 133 ⟨.struct [(3,0),(41,1)],5,72,[.int .i64 0,.int .i64 0,.slice none 0 0,.int .i64 0,.slice none 0 0],false⟩:=⟨by kernel_rfl,by kernel_rfl,by kernel_rfl,fun h=>by cases h⟩
def agp:eG prog 152 ⟨.int .u64,1,8,[.int .u64 0],false⟩:=⟨by kernel_rfl,by kernel_rfl,by kernel_rfl,fun h=>by cases h⟩
def agq:eG prog 153 ⟨.int .u64,1,8,[.int .u64 0],false⟩:=⟨by kernel_rfl,by kernel_rfl,by kernel_rfl,fun h=>by cases h⟩
def agr:eG prog 183 ⟨.int .i64,1,8,[.int .i64 0],false⟩:=⟨by kernel_rfl,by kernel_rfl,by kernel_rfl,fun h=>by cases h⟩
def ags:eG prog 190 ⟨.int .u32,1,4,[.int .u32 0],false⟩:=⟨by kernel_rfl,by kernel_rfl,by kernel_rfl,fun h=>by cases h⟩
def agt:eG prog 199 ⟨.slice 22,1,24,[.slice none 0 0],false⟩:=⟨by kernel_rfl,by kernel_rfl,by kernel_rfl,fun h=>by cases h⟩
def agu:eG prog 207 ⟨.int .u64,1,8,[.int .u64 0],false⟩:=⟨by kernel_rfl,by kernel_rfl,by kernel_rfl,fun h=>by cases h⟩
def tok:jN prog tab:=by
 intro t τ h;unfold tab at h;split at h
 ·cases h;exact ai1
 ·cases h;exact ai2
 ·cases h;exact ai3
 ·cases h;exact ai4
 ·cases h;exact ai5
 ·cases h;exact ahM
 ·cases h;exact ahN
 ·cases h;exact ahO
 ·cases h;exact ahP
 ·cases h;exact ahQ
 ·cases h;exact ahR
 ·cases h;exact ahS
 ·cases h;exact ahT
 ·cases h;exact ahU
 ·cases h;exact ahV
 ·cases h;exact ahW
 ·cases h;exact ahX
 ·cases h;exact ahY
 ·cases h;exact ahZ
 ·cases h;exact ah0
 ·cases h;exact ah1
 ·cases h;exact ah2
 ·cases h;exact ah3
 ·cases h;exact ah4
 ·cases h;exact ah5
 ·cases h;exact ah6
 ·cases h;exact ah7
 ·cases h;exact ah8
 ·cases h;exact ah9
 ·cases h;exact aia
 ·cases h;exact aib
 ·cases h;exact aic
 ·cases h;exact aid
 ·cases h;exact aie
 ·cases h;exact aif
 ·cases h;exact aih
 ·cases h;exact aii
 ·cases h;exact agb
 ·cases h;exact agc
 ·cases h;exact agd
 ·cases h;exact age
 ·cases h;exact agf
 ·cases h;exact agh
 ·cases h;exact agi
 ·cases h;exact agj
 ·cases h;exact agk
 ·cases h;exact agl
 ·cases h;exact agm
 ·cases h;exact agn
 ·cases h;exact ago
 ·cases h;exact agp
 ·cases h;exact agq
 ·cases h;exact agr
 ·cases h;exact ags
 ·cases h;exact agt
 ·cases h;exact agu
 ·cases h
def mixed:Tryz.prog.follows .mixedOrders=true:=by kernel_rfl
def vu {α:Type} (x:Option α) (K:α->Prop):Prop :=
 match x with
 | some a=>K a
 | none=>False
def br (b:Bool) (A B:Prop):Prop:=(b=true->A)∧(b=false->B)
def UB (d:D) (t:Nat->D) (g:Nat) (A B:(Nat->D)->Prop):Prop :=
 match d with
 | .bool b=>br b (A (cd t g (.bool b))) (B (cd t g (.bool b)))
 | _=>False
def wpS (d:D) (t:Nat->D) (g:Nat) (A B S:(Nat->D)->Prop):Prop :=
 match d with
 | .skp=>S t
 | d=>UB d t g A B
def Ck {t:Nat->D} {g:Nat} {b:Bool} {A B S:(Nat->D)->Prop} : wpS (.bool b) t g A B S=br b (A (cd t g (.bool b))) (B (cd t g (.bool b))):=rfl
def wpG (ops:List Oper) (t:Nat->D) (gd:Option (Nat×Bool)) (A B:(Nat->D)->Prop):Prop :=
 match gd with
 | none=>A t
 | some (j,a)=>vu ((ops[j]?).bind (·.dst)) fun g=>wpS (t g) t g (if a then A else B) (if a then B else A) B
def Sx (T:Nat->Option Ty) (Γ:Env) (e:Nat) (o:Oper) (t:Nat->D) (h:Nat->Option Row) (K:(Nat->D)->cw->Prop):Prop :=
 match o.op with
 | .pick (.tmp c) a b=>UB (t c) t c (fun t=>K t ⟨ev t a,[]⟩) (fun t=>K t ⟨ev t b,[]⟩)
 | _=>vu (sf T Γ e o (ev t) h) (K t)
def HU (T:Nat->Option Ty) (Γ:Env) (N e:Nat) (ops:List Oper):List Oper->(Nat->D)->(Nat->Option Row)->((Nat->D)->(Nat->Option Row)->Prop)->Prop
 | [],t,h,K=>K t h
 | o::l,t,h,K=>fits N o.dst=true∧wpG ops t o.guard (fun t=>Sx T Γ e o t h fun t E=>HU T Γ N e ops l (fQ t o.dst E.val) (aV h E.hw) K) (fun t=>HU T Γ N e ops l (fQ t o.dst .skp) h K)
def runK (T:Nat->Option Ty) (Γ:Env) (N e:Nat) (ops:List Oper):List Oper->(Nat->D)->(Nat->Option Row)->List mL->((Nat->D)->(Nat->Option Row)->List mL->Prop)->Prop
 | [],t,h,fs,K=>K t h fs
 | o::l,t,h,fs,K=>fits N o.dst=true∧wpG ops t o.guard (fun t=>Sx T Γ e o t h fun t E=>runK T Γ N e ops l (fQ t o.dst E.val) (aV h E.hw) (fs++[⟨cY o (ev t),E.hw.isEmpty⟩]) K) (fun t=>runK T Γ N e ops l (fQ t o.dst .skp) h (fs++[⟨[],true⟩]) K)
abbrev Kt:=Ex->(Nat->D)->(Nat->Option Row)->Nat->Prop
def ahw (x:Ex) (A:Prop) (B:Prop):Prop :=
 match x with
 | .normal=>A
 | _=>B
def ZR (id:Nat) (x:Ex) (t:Nat->D) (h:Nat->Option Row) (e:Nat) (K:Kt):Prop :=
 match x with
 | .exit n=>if n=id then K .normal t h e else K (.exit n) t h e
 | x=>K x t h e
def wpR (T:Nat->Option Ty) (Γ:Env) (N:Nat) (ops:Array Oper) (a:Bool) (t:Nat->D) (h:Nat->Option Row) (e:Nat) (K:(Nat->D)->(Nat->Option Row)->Prop):Prop :=
 match a with
 | true=>runK T Γ N e ops.toList ops.toList t h [] fun t h fs=>F4 ops fs=true∧K t h
 | false=>HU T Γ N e ops.toList ops.toList t h K
def NR (T:Nat->Option Ty) (Γ:Env) (N F:Nat):Code->(Nat->D)->(Nat->Option Row)->Nat->Kt->Prop
 | .skip,t,h,e,K=>K .normal t h e
 | .region _ ops draw,t,h,e,K=>wpR T Γ N ops draw t h e fun t h=>K .normal t h (e+1)
 | .seq a b,t,h,e,K=>NR T Γ N F a t h e fun x t h e=>ahw x (NR T Γ N F b t h e K) (K x t h e)
 | .cond c x y,t,h,e,K =>
  match c with
  | .tmp g=>UB (t g) t g (fun t=>NR T Γ N F x t h e K) (fun t=>NR T Γ N F y t h e K)
  | .const (.bool true)=>NR T Γ N F x t h e K
  | .const (.bool false)=>NR T Γ N F y t h e K
  | _=>False
 | .block id b,t,h,e,K=>NR T Γ N F b t h e fun x t h e=>ZR id x t h e K
 | .loop b,t,h,e,K=>∃x s,iter (il T Γ N F b) F ⟨t,h,e⟩=some (x,s)∧K x s.t s.h s.e
 | .exit id,t,h,e,K=>K (.exit id) t h e
 | .ret,t,h,e,K=>K .ret t h e
 | _,_,_,_,_=>False
def afA (a:Mode) (T:Nat->Option Ty) (lent:Option (D×Row)) (rs:List ResultVar) (x:Ex) (t:Nat->D) (h:Nat->Option Row) (e:Nat) (r:RK×Option Row):Prop :=
 match x with
 | .exit _=>False
 | _=>gu a T lent rs ⟨t,EH h,e⟩=some r
def wpf (b:Mode) (T:Nat->Option Ty) (Γ:Env) (F:Nat) (d:Func) (lent:Option (D×Row)) (a:List D) (r:RK×Option Row):Prop :=
 vu d.body fun c=>NR T Γ d.ntmps F c (cG lent a).t (cG lent a).h (cG lent a).e fun x t h e=>afA b T lent d.results.toList x t h e r
def Hh {α:Type} (a:α) (K:α->Prop):vu (some a) K=K a:=rfl
def Hf {α:Type} {x:Option α} {K:α->Prop} (h:vu x K):∃a,x=some a∧K a:=by
 cases x with
 | none=>exact h.elim
 | some a=>exact⟨a,rfl,h⟩
def Uw {t:Nat->D} {g:Nat} {d:D} (h:t g=d):cd t g d=t:=by
 funext j;unfold cd;split
 ·rename_i e;subst e;exact h.symm
 ·rfl
def ac6 (A B:Prop):br true A B=A:=by simp[br]
def ZT (A B:Prop):br false A B=B:=by simp[br]
def ac5 {b:Bool} {A B:Prop} (h:br b A B):if b then A else B:=by
 cases b with
 | true=>exact h.1 rfl
 | false=>exact h.2 rfl
def acM {t:Nat->D} {g:Nat} {b:Bool} {A B:(Nat->D)->Prop} : UB (.bool b) t g A B=br b (A (cd t g (.bool b))) (B (cd t g (.bool b))):=rfl
def Ci {t:Nat->D} {g:Nat} {A B:(Nat->D)->Prop} (h:t g=.bool true):UB (.bool true) t g A B=A t:=by simp[UB,Uw h,ac6]
def zA {t:Nat->D} {g:Nat} {A B:(Nat->D)->Prop} (h:t g=.bool false):UB (.bool false) t g A B=B t:=by simp[UB,Uw h,ZT]
def Cl {t:Nat->D} {g:Nat} {A B S:(Nat->D)->Prop} (h:t g=.bool true):wpS (.bool true) t g A B S=A t:=Ci h
def zB {t:Nat->D} {g:Nat} {A B S:(Nat->D)->Prop} (h:t g=.bool false):wpS (.bool false) t g A B S=B t:=zA h
def UC {t:Nat->D} {g:Nat} {A B:(Nat->D)->Prop} (h:UB (t g) t g A B):∃b,t g=.bool b∧(if b then A t else B t):=by
 unfold UB at h;split at h
 ·rename_i b a;rw[Uw a]at h;exact⟨b,a,ac5 h⟩
 ·exact h.elim
section
variable {T:Nat->Option Ty} {Γ:Env} {N F e:Nat}
def acP {ops:Array Oper} {t:Nat->D} {o:Oper} {A B:(Nat->D)->Prop} (h:wpG ops.toList t o.guard A B):∃b,yp ops t o=some b∧(if b then A t else B t):=by
 unfold wpG at h;unfold yp;split at h
 ·rename_i d;try rw[d]
  exact⟨true,rfl,by simpa using h⟩
 ·rename_i j a d;try rw[d]
  obtain⟨g,e,c⟩:=Hf h;rw[akA]at e;unfold wpS at c;split at c
  ·rename_i f;simp only[e,f];exact⟨false,rfl,c⟩
  ·obtain⟨b,i,k⟩:=UC c;simp only[e,i];refine⟨_,rfl,?_⟩;cases b<;>cases a<;>simpa using k
def acN {o:Oper} {t:Nat->D} {h:Nat->Option Row} {K:(Nat->D)->cw->Prop} (d:Sx T Γ e o t h K):∃E,sf T Γ e o (ev t) h=some E∧K t E:=by
 unfold Sx at d;split at d
 ·rename_i c a b i;obtain⟨v,f,g⟩:=UC d;have j:qQ Γ e h o.dst none=none:=by cases o.dst<;>rfl
  cases v with
  | true=>exact⟨⟨ev t a,[]⟩,by unfold sf jd tP;rw[i];simp only[ev,f,or2,mJ,jH,j],by simpa only[if_true] using g⟩
  | false=>exact⟨⟨ev t b,[]⟩,by unfold sf jd tP;rw[i];simp only[ev,f,or2,mJ,jH,j],by simpa only[aj4,if_false] using g⟩
 ·obtain⟨E,f,g⟩:=Hf d;exact⟨E,f,g⟩
def B9 {ops:Array Oper} {K:(Nat->D)->(Nat->Option Row)->Prop} : ∀(l:List Oper) (t:Nat->D) (h:Nat->Option Row),HU T Γ N e ops.toList l t h K->∃a h' fs,Dj T Γ N e ops l t h=some (a,h',fs)∧K a h'
 | [],t,h,hk=>⟨t,h,[],rfl,hk⟩
 | o::l,t,h,hk=>by
  unfold HU at hk;obtain⟨g,i⟩:=hk;obtain⟨b,j,f⟩:=acP i;unfold Dj step1;rw[if_pos g,j];cases b with
  | true =>
   obtain⟨E,k,m⟩:=acN (by simpa using f);obtain⟨a,h',fs,c,d⟩:=B9 l _ _ m;simp only[k,c];exact⟨_,_,_,rfl,d⟩
  | false =>
   obtain⟨a,h',fs,c,d⟩:=B9 l _ _ (by simpa using f);simp only[c];exact⟨_,_,_,rfl,d⟩
def Nl {ops:Array Oper} {K:(Nat->D)->(Nat->Option Row)->List mL->Prop} : ∀(l:List Oper) (t:Nat->D) (h:Nat->Option Row) (f0:List mL),runK T Γ N e ops.toList l t h f0 K->∃a h' fs,Dj T Γ N e ops l t h=some (a,h',fs)∧K a h' (f0++fs)
 | [],t,h,f0,hk=>⟨t,h,[],rfl,by unfold runK at hk;simpa using hk⟩
 | o::l,t,h,f0,hk=>by
  unfold runK at hk;obtain⟨g,i⟩:=hk;obtain⟨b,j,f⟩:=acP i;unfold Dj step1;rw[if_pos g,j];cases b with
  | true =>
   obtain⟨E,k,m⟩:=acN (by simpa using f);obtain⟨a,h',fs,c,d⟩:=Nl l _ _ _ m;simp only[k,c];exact⟨_,_,_,rfl,by simpa using d⟩
  | false =>
   obtain⟨a,h',fs,c,d⟩:=Nl l _ _ _ (by simpa using f);simp only[c];exact⟨_,_,_,rfl,by simpa using d⟩
def agx {ops:Array Oper} {a:Bool} {t:Nat->D} {h:Nat->Option Row} {K:(Nat->D)->(Nat->Option Row)->Prop} (f:wpR T Γ N ops a t h e K):∃b h',zy T Γ N ops a ⟨t,h,e⟩=some (.normal,⟨b,h',e+1⟩)∧K b h':=by
 unfold zy;cases a with
 | false =>
  obtain⟨b,h',fs,d,c⟩:=B9 _ _ _ f;simp only[d];exact⟨b,h',by simp,c⟩
 | true =>
  obtain⟨b,h',fs,d,c,g⟩:=Nl _ _ _ _ f;simp only[d];exact⟨b,h',by rw[ak6]at c;simp[c],g⟩
def Dy:∀(c:Code) (t:Nat->D) (h:Nat->Option Row) (e:Nat) (K:Kt),NR T Γ N F c t h e K->∃x s,il T Γ N F c ⟨t,h,e⟩=some (x,s)∧K x s.t s.h s.e:=by
 intro c
 induction c with
 | skip=>intro t h e K d;exact⟨_,_,rfl,d⟩
 | region i ops draw =>
  intro t h e K d;obtain⟨z,h',j,f⟩:=agx d;exact⟨_,_,j,f⟩
 | seq a b m o =>
  intro t h e K d;obtain⟨x,s,j,f⟩:=m _ _ _ _ d;simp only[il,j];cases x with
  | normal =>
   obtain⟨r,u,v,w⟩:=o _ _ _ _ f;exact⟨r,u,v,w⟩
  | exit n=>exact⟨_,_,rfl,f⟩
  | ret=>exact⟨_,_,rfl,f⟩
 | cond c x y k l =>
  intro t h e K d;unfold NR at d;split at d
  ·rename_i g;obtain⟨b,j,f⟩:=UC d;simp only[il,ev,j,Ss];cases b with
   | true=>exact k _ _ _ _ (by simpa using f)
   | false=>exact l _ _ _ _ (by simpa using f)
  ·simpa only[il,ev,qH,Ss,if_true] using k _ _ _ _ d
  ·simpa only[il,ev,qH,Ss,aj4,if_false] using l _ _ _ _ d
  ·exact d.elim
 | block id b q =>
  intro t h e K d;obtain⟨x,s,j,f⟩:=q _ _ _ _ d;simp only[il,j];cases x with
  | normal=>exact⟨_,_,rfl,f⟩
  | ret=>exact⟨_,_,rfl,f⟩
  | exit n =>
   simp only[Uz];unfold ZR at f;simp only at f;split at f
   ·rename_i p;rw[if_pos p];exact⟨_,_,rfl,f⟩
   ·rename_i p;rw[if_neg p];exact⟨_,_,rfl,f⟩
 | loop b q=>intro t h e K d;exact d
 | exit id=>intro t h e K d;exact⟨_,_,rfl,d⟩
 | ret=>intro t h e K d;exact⟨_,_,rfl,d⟩
 | _=>intro t h e K d;exact d.elim
def UD {b:Mode} {f:Func} {lent:Option (D×Row)} {a:List D} {r:RK×Option Row} (h:wpf b T Γ F f lent a r) (g:f.ntmps<=PK):kM b T Γ F f lent a=some r:=by
 obtain⟨c,i,j⟩:=Hf h;obtain⟨x,s,k,e⟩:=Dy _ _ _ _ _ j;unfold kM;simp only[i];rw[if_pos g];have l:cG lent a=⟨(cG lent a).t,(cG lent a).h,(cG lent a).e⟩:=rfl;rw[l,k];unfold afA at e;split at e
 ·exact e.elim
 ·rename_i m;split
  ·rename_i n _ d;cases d;exact (m n rfl).elim
  ·rename_i _ x' o _ d;cases d;exact e
  ·rename_i d;cases d
def Xa {α:Type} (f:Nat->α) (i:Nat) (v:α) (j:Nat):cd f i v j=if j=i then v else f j:=amh
def Bg (a:List D) (i:Nat):D:=a.getD i .und
def Jn (d:D) (l:List D):Bg (d::l) 0=d:=amh
def Jm (d:D) (l:List D) (i:Nat):Bg (d::l) (i+1)=Bg l i:=amh
def K5 (_:Nat):Option Row:=none
end
inductive W where
 | code (c:Code)
 | blk (id:Nat)
section
variable (T:Nat->Option Ty) (Γ:Env) (N F:Nat)
def dM:List W->Kt->Kt
 | [],Q=>Q
 | .code c::ws,Q=>fun x t h e=>ahw x (NR T Γ N F c t h e (dM ws Q)) (dM ws Q x t h e)
 | .blk id::ws,Q=>fun x t h e=>ZR id x t h e (dM ws Q)
def mS (ops l:List Oper) (ws:List W) (Q:Kt) (t:Nat->D) (h:Nat->Option Row) (e:Nat):Prop :=
 HU T Γ N e ops l t h fun t h=>dM T Γ N F ws Q .normal t h (e+1)
def nY (ops l:List Oper) (ws:List W) (Q:Kt) (t:Nat->D) (h:Nat->Option Row) (e:Nat) (fs:List mL):Prop :=
 runK T Γ N e ops l t h fs fun t h fs=>F4 ops.toArray fs=true∧dM T Γ N F ws Q .normal t h (e+1)
def tO (o:Oper) (ops l:List Oper) (ws:List W) (Q:Kt) (t:Nat->D) (h:Nat->Option Row) (e:Nat):Prop :=
 Sx T Γ e o t h fun t E=>mS T Γ N F ops l ws Q (fQ t o.dst E.val) (aV h E.hw) e
def wZ (o:Oper) (ops l:List Oper) (ws:List W) (Q:Kt) (t:Nat->D) (h:Nat->Option Row) (e:Nat) (fs:List mL):Prop :=
 Sx T Γ e o t h fun t E=>nY T Γ N F ops l ws Q (fQ t o.dst E.val) (aV h E.hw) e (fs++[⟨cY o (ev t),E.hw.isEmpty⟩])
def zL (d:D) (g:Nat) (a:Bool) (o:Oper) (ops l:List Oper) (ws:List W) (Q:Kt) (t:Nat->D) (h:Nat->Option Row) (e:Nat):Prop :=
 wpS d t g (fun t=>if a then tO T Γ N F o ops l ws Q t h e else mS T Γ N F ops l ws Q (fQ t o.dst .skp) h e) (fun t=>if a then mS T Γ N F ops l ws Q (fQ t o.dst .skp) h e else tO T Γ N F o ops l ws Q t h e) (fun t=>mS T Γ N F ops l ws Q (fQ t o.dst .skp) h e)
def zM (d:D) (g:Nat) (a:Bool) (o:Oper) (ops l:List Oper) (ws:List W) (Q:Kt) (t:Nat->D) (h:Nat->Option Row) (e:Nat) (fs:List mL):Prop :=
 wpS d t g (fun t=>if a then wZ T Γ N F o ops l ws Q t h e fs else nY T Γ N F ops l ws Q (fQ t o.dst .skp) h e (fs++[⟨[],true⟩])) (fun t=>if a then nY T Γ N F ops l ws Q (fQ t o.dst .skp) h e (fs++[⟨[],true⟩]) else wZ T Γ N F o ops l ws Q t h e fs) (fun t=>nY T Γ N F ops l ws Q (fQ t o.dst .skp) h e (fs++[⟨[],true⟩]))
def H5 (x y:Option cw) (dst:Option Nat) (ops l:List Oper) (ws:List W) (Q:Kt) (t:Nat->D) (h:Nat->Option Row) (e:Nat):Prop :=
 vu (or2 h x y) fun E=>mS T Γ N F ops l ws Q (fQ t dst E.val) (aV h E.hw) e
def H6 (x y:Option cw) (dst:Option Nat) (a:List Nat) (ops l:List Oper) (ws:List W) (Q:Kt) (t:Nat->D) (h:Nat->Option Row) (e:Nat) (fs:List mL):Prop :=
 vu (or2 h x y) fun E=>nY T Γ N F ops l ws Q (fQ t dst E.val) (aV h E.hw) e (fs++[⟨a,E.hw.isEmpty⟩])
def Dn (x:Option cw) (dst:Option Nat) (ops l:List Oper) (ws:List W) (Q:Kt) (t:Nat->D) (h:Nat->Option Row) (e:Nat):Prop:=H5 T Γ N F x none dst ops l ws Q t h e
def Nt (x:Option cw) (dst:Option Nat) (a:List Nat) (ops l:List Oper) (ws:List W) (Q:Kt) (t:Nat->D) (h:Nat->Option Row) (e:Nat) (fs:List mL):Prop:=H6 T Γ N F x none dst a ops l ws Q t h e fs
def YH (y:Option cw) (dst:Option Nat) (ops l:List Oper) (ws:List W) (Q:Kt) (t:Nat->D) (h:Nat->Option Row) (e:Nat):Prop :=
 vu y fun E=>mS T Γ N F ops l ws Q (fQ t dst E.val) (aV h E.hw) e
def aed (y:Option cw) (dst:Option Nat) (a:List Nat) (ops l:List Oper) (ws:List W) (Q:Kt) (t:Nat->D) (h:Nat->Option Row) (e:Nat) (fs:List mL):Prop :=
 vu y fun E=>nY T Γ N F ops l ws Q (fQ t dst E.val) (aV h E.hw) e (fs++[⟨a,E.hw.isEmpty⟩])
def NL (d:D) (g:Nat) (x y:Code) (ws:List W) (Q:Kt) (t:Nat->D) (h:Nat->Option Row) (e:Nat):Prop :=
 UB d t g (fun t=>dM T Γ N F (.code x::ws) Q .normal t h e) (fun t=>dM T Γ N F (.code y::ws) Q .normal t h e)
def abQ (d:D) (g:Nat) (a b:Operand) (dst:Option Nat) (ops l:List Oper) (ws:List W) (Q:Kt) (t:Nat->D) (h:Nat->Option Row) (e:Nat):Prop :=
 UB d t g (fun t=>mS T Γ N F ops l ws Q (fQ t dst (ev t a)) h e) (fun t=>mS T Γ N F ops l ws Q (fQ t dst (ev t b)) h e)
def abR (d:D) (g:Nat) (a b:Operand) (dst:Option Nat) (ops l:List Oper) (ws:List W) (Q:Kt) (t:Nat->D) (h:Nat->Option Row) (e:Nat) (fs:List mL):Prop :=
 UB d t g (fun t=>nY T Γ N F ops l ws Q (fQ t dst (ev t a)) h e (fs++[⟨[],true⟩])) (fun t=>nY T Γ N F ops l ws Q (fQ t dst (ev t b)) h e (fs++[⟨[],true⟩]))
def Ww (b:Code) (ws:List W) (Q:Kt) (t:Nat->D) (h:Nat->Option Row) (e:Nat):Prop:=NR T Γ N F (.loop b) t h e (dM T Γ N F ws Q)
end
def KG {n:Nat} (h:n<=1000000):n<=maxLen:=ajB h (by decide)
def Li {z:List D} : qt 0 z=[]:=amh
def Lh {n:Nat} {z:List D} : qt (n+1) z=z++qt n z:=by simp[qt,List.replicate_succ]
def Kr {N:Nat} : fits N none=true:=amh
def Ks {N i:Nat} : fits N (some i)=decide (i<N):=amh
def xU:List Oper->Nat->Nat
 | [],_=>0
 | o::_,0=>o.dst.getD 0
 | _::l,j+1=>xU l j
def BQ:List Oper->Nat->Bool
 | [],_=>false
 | o::_,0=>o.dst.isSome
 | _::l,j+1=>BQ l j
def F0:∀(l:List Oper) (j:Nat),BQ l j=true->(l[j]?).bind (·.dst)=some (xU l j)
 | [],j,h=>by simp[BQ]at h
 | o::l,0,h=>by
  simp only[BQ]at h;simp only[List.getElem?_cons_zero,Option.bind_some,xU];cases a:o.dst with
  | none=>simp_all
  | some d=>rfl
 | o::l,j+1,h=>by simpa [xU] using F0 l j h
def F2 {d:Nat} {op:Op} {ty:Nat} {pos:String} {af:Array Edge} {gd:Option (Nat×Bool)} {l:List Oper} : xU (⟨some d,op,ty,pos,af,gd⟩::l) 0=d:=amh
def F1 {o:Oper} {l:List Oper} {j:Nat} : xU (o::l) (j+1)=xU l j:=amh
def GL {d:Nat} {op:Op} {ty:Nat} {pos:String} {af:Array Edge} {gd:Option (Nat×Bool)} {l:List Oper} : BQ (⟨some d,op,ty,pos,af,gd⟩::l) 0=true:=amh
def GK {o:Oper} {l:List Oper} {j:Nat} : BQ (o::l) (j+1)=BQ l j:=amh
section
variable {dst:Option Nat} {ty:Nat} {pos:String} {af:Array Edge} {gd:Option (Nat×Bool)} {vs:Operand->D}
def KT (vs:Operand->D):List Operand->List Nat
 | []=>[]
 | x::l=>nm (vs x)++KT vs l
def mP (vs:Operand->D):∀l:List Operand,(l.flatMap fun x=>nm (vs x))=KT vs l
 | []=>Eq.trans rfl rfl
 | x::l=>by rw[List.flatMap_cons,mP vs l];exact Eq.trans rfl rfl
def Wg:KT vs []=[]:=amh
def QP {x:Operand} {l:List Operand} : KT vs (x::l)=nm (vs x)++KT vs l:=amh
def Ep {o:BinOp} {a z:Nat} {x y:Operand} : cY ⟨dst,.binOp o a x y z,ty,pos,af,gd⟩ vs=(KT vs [x,y]++dst.toList).map rt:=by rw[<- mP];rfl
def Ic {o:UnOp} {a:Nat} {x:Operand} : cY ⟨dst,.unOp o a x,ty,pos,af,gd⟩ vs=(KT vs [x]++dst.toList).map rt:=by rw[<- mP];rfl
def Cf {x:Operand} : cY ⟨dst,.assign x,ty,pos,af,gd⟩ vs=(KT vs [x]++dst.toList).map rt:=by rw[<- mP];rfl
def Ib {a:Nat} {x:Operand} : cY ⟨dst,.load a x,ty,pos,af,gd⟩ vs=(KT vs [x]++dst.toList).map rt:=by rw[<- mP];rfl
def Es {a:Nat} {x y:Operand} : cY ⟨dst,.store a x y,ty,pos,af,gd⟩ vs=(KT vs [x,y]++dst.toList).map rt:=by rw[<- mP];rfl
def yL {x:Operand} : cY ⟨dst,.nilCheck x,ty,pos,af,gd⟩ vs=(KT vs [x]++dst.toList).map rt:=by rw[<- mP];rfl
def xg {a i:Nat} {x:Operand} : cY ⟨dst,.fieldAddr a x i,ty,pos,af,gd⟩ vs=(KT vs [x]++dst.toList).map rt:=by rw[<- mP];rfl
def xh {a:Nat} {x i:Operand} : cY ⟨dst,.indexAddr a x i,ty,pos,af,gd⟩ vs=(KT vs [x,i]++dst.toList).map rt:=by rw[<- mP];rfl
def xi {a:Nat} {x y:Operand} : cY ⟨dst,.makeSlice a x y,ty,pos,af,gd⟩ vs=(KT vs [x,y]++dst.toList).map rt:=by rw[<- mP];rfl
def Eo {a:Nat} : cY ⟨dst,.alloc a,ty,pos,af,gd⟩ vs=(KT vs []++dst.toList).map rt:=by rw[<- mP];rfl
def Ac {x:Operand} {i:Nat} : cY ⟨dst,.extract x i,ty,pos,af,gd⟩ vs=(KT vs [x]++dst.toList).map rt:=by rw[<- mP];rfl
def Er {b:Nat} {a:List (Nat×Operand)} : cY ⟨dst,.build b a.toArray,ty,pos,af,gd⟩ vs=(KT vs (a.map (·.2))++dst.toList).map rt:=by rw[<- mP];rfl
def vD {b len:Nat} {a:List (Nat×Operand)} : cY ⟨dst,.buildSlice b len a.toArray,ty,pos,af,gd⟩ vs=(KT vs (a.map (·.2))++dst.toList).map rt:=by rw[<- mP];rfl
def Ia {x:Operand} {l:List Operand} {a:Array Nat} : cY ⟨dst,.call ⟨.value x,l.toArray,a⟩,ty,pos,af,gd⟩ vs=(KT vs (x::l)++dst.toList).map rt:=by
 rw[<- mP];simp[cY,iU,Op.operands,Call.operands]
def Ab {x:Builtin} {l:List Operand} {a:Array Nat} : cY ⟨dst,.call ⟨.builtin x,l.toArray,a⟩,ty,pos,af,gd⟩ vs=(KT vs l++dst.toList).map rt:=by
 rw[<- mP];simp[cY,iU,Op.operands,Call.operands]
end
section
variable {T:Nat->Option Ty} {ty e:Nat} {dst:Option Nat} {h:Nat->Option Row}
def U3 {k:IntKind} {n:Int} : dG T ty e dst h (.int k n)=some ⟨.int k n,[]⟩:=amh
def Ob {b:Bool} : dG T ty e dst h (.bool b)=some ⟨.bool b,[]⟩:=amh
def ZQ {a:Bool} {n:Nat} {xs:List D} : dG T ty e dst h (.sl false a n xs)=some ⟨.sl false a n xs,[]⟩:=amh
def ZP {x v:Nat} : dG T ty e dst h (.mp x v)=some ⟨.mp x v,[]⟩:=amh
def EZ {f a:Nat} {xs:List D} : dG T ty e dst h (.clo f a xs)=some ⟨.clo f a xs,[]⟩:=amh
def afq (b:Bool) (T:Nat->Option Ty) (ty e d:Nat) (h:Nat->Option Row) (x:D):Option cw:=if b then dG T ty e (some d) h x else oV h x
def Js {d:Nat} {x:D} : afq true T ty e d h x=dG T ty e (some d) h x:=amh
def Fy {d:Nat} {x:D} : afq false T ty e d h x=oV h x:=amh
def aeA {q:Nat->Bool} {d:Nat} {x:D} : uG T q ty e (some d) h x=afq (q d) T ty e d h x:=amh
def ZB {a b:Bool} {n:Nat} {xs:List D} : oV h (.sl a b n xs)=some ⟨.sl false false n xs,[]⟩:=amh
def ac3 (e d y s o n:Nat) (r:Row):Bool->Option cw
 | true=>some ⟨.buf y r.v s o n,[]⟩
 | false=>some ⟨.buf d e s o n,[(y,none),(d,some { r with v:=e })]⟩
def Fx {d y s o n:Nat} {r:Row} : ac3 e d y s o n r false=some ⟨.buf d e s o n,[(y,none),(d,some { r with v:=e })]⟩:=amh
def afp (y v s o n:Nat):Option Row->Option cw
 | some _=>some ⟨.buf y v s o n,[]⟩
 | none=>some ⟨.und,[]⟩
def Jo {y v s o n:Nat} {r:Row} : afp y v s o n (some r)=some ⟨.buf y v s o n,[]⟩:=amh
def ZO (e:Nat) (dst:Option Nat) (y s o n:Nat) (w:Option cw):Option Row->Option cw
 | some r=>match dst with|some d=>ac3 e d y s o n r r.fz|none=>w
 | none=>w
def Jq {d y s o n:Nat} {r:Row} {w:Option cw} : ZO e (some d) y s o n w (some r)=ac3 e d y s o n r r.fz:=amh
def Jp {d y s o n:Nat} {w:Option cw} : ZO e (some d) y s o n w none=w:=amh
def U2 {d y v s o n:Nat} : dG T ty e (some d) h (.buf y v s o n)=ZO e (some d) y s o n (afp y v s o n (qV h y v)) (live h y v):=by
 simp only[dG];cases a:live h y v with
 | none=>simp only[ZO];cases qV h y v<;>simp[afp]
 | some r =>
  obtain⟨_,b⟩:=cP a;simp only[ZO];cases c:r.fz<;>simp[ac3,b,c]
def ac4 (e:Nat) (dst:Option Nat) (T:Nat->Option Ty):Option Ty->Option cw
 | some τ =>
  match dst with
  | some d=>match τ.ds with
   | .slice el=>match T el with|some φ=>some ⟨.buf d e φ.size 0 0,[(d,some ⟨e,el,[],false,true,false⟩)]⟩|none=>none
   | _=>none
  | none=>none
 | none=>none
def Jr {d el b c:Nat} {z:List Value} {q:Bool} {φ:Ty} (a:T el=some φ):ac4 e (some d) T (some ⟨.slice el,b,c,z,q⟩)=some ⟨.buf d e φ.size 0 0,[(d,some ⟨e,el,[],false,true,false⟩)]⟩:=by simp only[ac4,a]
def U4:dG T ty e dst h (.sl true true 0 [])=ac4 e dst T (T ty):=by
 unfold dG ac4;grind
end
def okD (x:Option D):Option cw:=match x with|some d=>some ⟨d,[]⟩|none=>none
def Q5 (d:D):okD (some d)=some ⟨d,[]⟩:=amh
def HD (x:Option Ty) (f:Ty->Option cw):Option cw:=match x with|some τ=>f τ|none=>none
def Rh (τ:Ty) (f:Ty->Option cw):HD (some τ) f=f τ:=amh
def agS (x:Option (List D×List Nat)) (h:Nat->Option Row) (ty d e:Nat):Option cw :=
 match x with
 | some (cs,fr)=>if fr.contains d=false then some ⟨.ptr d e 0,kG h fr++[(d,some ⟨e,ty,cs,false,false,false⟩)]⟩ else none
 | none=>none
def Jv (cs:List D) (fr:List Nat) (h:Nat->Option Row) (ty d e:Nat):agS (some (cs,fr)) h ty d e=if fr.contains d=false then some ⟨.ptr d e 0,kG h fr++[(d,some ⟨e,ty,cs,false,false,false⟩)]⟩ else none:=amh
def afX (d e:Nat):Option Nat->D
 | some y =>.pm d e y
 | none =>.ptr d e 0
def Le {d e:Nat} : afX d e none=.ptr d e 0:=amh
def Fu (x:Option Ty) (ty d e:Nat) (y:Option Nat):Option cw :=
 match x with
 | some τ=>if (τ.zero.map qH).all bA then some ⟨afX d e y,[(d,some ⟨e,ty,τ.zero.map qH,false,false,false⟩)]⟩ else none
 | none=>none
def DD (τ:Ty) (ty d e:Nat) (y:Option Nat):Fu (some τ) ty d e y=if (τ.zero.map qH).all bA then some ⟨afX d e y,[(d,some ⟨e,ty,τ.zero.map qH,false,false,false⟩)]⟩ else none:=amh
def abD (T:Nat->Option Ty) (x:Option Ty) (ty e d:Nat):Option cw:=match x with|some τ=>pZ T ty τ e d|none=>none
def abE {T:Nat->Option Ty} {τ φ:Ty} {b:Bool} {ty e d:Nat} (a:G2 T τ=some (b,φ)) (c:ty<900000):abD T (some τ) ty e d=some ⟨.mp d e,[(d,some ⟨e,ty,[.mpc [] []],false,true,true⟩)]⟩:=by simp only[abD,pZ,a];simp_all
def aeB (x y:Option Ty) (d:D):Option cw :=
 match x,y,d with
 | some τ,some _,.int _ n=>(match τ.ds with | .int k=>some ⟨.int k (k.wrap n),[]⟩|_=>none)
 | _,_,_=>none
def JP (k:IntKind) (b c:Nat) (z:List Value) (q:Bool) (σ:Ty) (a:IntKind) (n:Int):aeB (some ⟨.int k,b,c,z,q⟩) (some σ) (.int a n)=some ⟨.int k (k.wrap n),[]⟩:=amh
def adn (d:D) (i:Nat):Option cw:=match d with | .tup xs=>(match xs[i]? with|some d=>some ⟨d,[]⟩|none=>none)|_=>none
def Pv (xs:List D) (i:Nat):adn (.tup xs) i=okD xs[i]?:=by simp only[adn,okD]
section
variable {T:Nat->Option Ty} {Γ:Env} {N F e:Nat} {ws:List W} {Q:Kt} {t:Nat->D} {h:Nat->Option Row}
def cB {x:Ex} : dM T Γ N F [] Q x t h e=Q x t h e:=amh
def Lt:dM T Γ N F (.code .skip::ws) Q .normal t h e=dM T Γ N F ws Q .normal t h e:=amh
def RG {a b:Code} : dM T Γ N F (.code (.seq a b)::ws) Q .normal t h e=dM T Γ N F (.code a :: .code b::ws) Q .normal t h e:=amh
def RF:dM T Γ N F (.code .ret::ws) Q .normal t h e=dM T Γ N F ws Q .ret t h e:=amh
def Lr {id:Nat} : dM T Γ N F (.code (.exit id)::ws) Q .normal t h e=dM T Γ N F ws Q (.exit id) t h e:=amh
def HV {id:Nat} {b:Code} : dM T Γ N F (.code (.block id b)::ws) Q .normal t h e=dM T Γ N F (.code b :: .blk id::ws) Q .normal t h e:=amh
def Ls {b:Code} : dM T Γ N F (.code (.loop b)::ws) Q .normal t h e=Ww T Γ N F b ws Q t h e:=amh
def a8 {c:Code} : dM T Γ N F (.code c::ws) Q .ret t h e=dM T Γ N F ws Q .ret t h e:=amh
def yF {c:Code} {n:Nat} : dM T Γ N F (.code c::ws) Q (.exit n) t h e=dM T Γ N F ws Q (.exit n) t h e:=amh
def xe {id:Nat} : dM T Γ N F (.blk id::ws) Q .normal t h e=dM T Γ N F ws Q .normal t h e:=amh
def bf {id:Nat} : dM T Γ N F (.blk id::ws) Q .ret t h e=dM T Γ N F ws Q .ret t h e:=amh
def z8 {id n:Nat} : dM T Γ N F (.blk id::ws) Q (.exit n) t h e=if n=id then dM T Γ N F ws Q .normal t h e else dM T Γ N F ws Q (.exit n) t h e:=amh
def Em {i:Nat} {ops:List Oper} : dM T Γ N F (.code (.region i ops.toArray false)::ws) Q .normal t h e=mS T Γ N F ops ops ws Q t h e:=amh
def HX {i:Nat} {ops:List Oper} : dM T Γ N F (.code (.region i ops.toArray true)::ws) Q .normal t h e=nY T Γ N F ops ops ws Q t h e []:=amh
def Lq {g:Nat} {x y:Code} : dM T Γ N F (.code (.cond (.tmp g) x y)::ws) Q .normal t h e=NL T Γ N F (t g) g x y ws Q t h e:=amh
def HW {x y:Code} : dM T Γ N F (.code (.cond (.const (.bool false)) x y)::ws) Q .normal t h e=dM T Γ N F (.code y::ws) Q .normal t h e:=amh
def LX {g:Nat} {x y:Code} (a:t g=.bool true):NL T Γ N F (.bool true) g x y ws Q t h e=dM T Γ N F (.code x::ws) Q .normal t h e:=Ci a
def Ie {g:Nat} {x y:Code} (a:t g=.bool false):NL T Γ N F (.bool false) g x y ws Q t h e=dM T Γ N F (.code y::ws) Q .normal t h e:=zA a
def YO {b:Bool} {g:Nat} {x y:Code} : NL T Γ N F (.bool b) g x y ws Q t h e=br b (dM T Γ N F (.code x::ws) Q .normal (cd t g (.bool true)) h e) (dM T Γ N F (.code y::ws) Q .normal (cd t g (.bool false)) h e):=by
 unfold NL;rw[acM];cases b<;>simp[br]
variable {ops l:List Oper} {dst:Option Nat} {op:Op} {ty:Nat} {pos:String} {af:Array Edge} {gd:Option (Nat×Bool)} {fs:List mL}
def RD:mS T Γ N F ops [] ws Q t h e=dM T Γ N F ws Q .normal t h (e+1):=amh
def Lo (a:fits N dst=true):mS T Γ N F ops (⟨dst,op,ty,pos,af,none⟩::l) ws Q t h e=tO T Γ N F ⟨dst,op,ty,pos,af,none⟩ ops l ws Q t h e:=by
 simp only[mS,HU,wpG,a,true_and,tO]
def HS {j:Nat} {a:Bool} (b:fits N dst=true) (c:BQ ops j=true):mS T Γ N F ops (⟨dst,op,ty,pos,af,some (j,a)⟩::l) ws Q t h e=zL T Γ N F (t (xU ops j)) (xU ops j) a ⟨dst,op,ty,pos,af,none⟩ ops l ws Q t h e:=by
 simp only[mS,HU,wpG,b,true_and,F0 ops j c,Hh,zL]<;>cases a<;>rfl
def Sj {g:Nat} {a:Bool} {o:Oper} : zL T Γ N F .skp g a o ops l ws Q t h e=mS T Γ N F ops l ws Q (fQ t o.dst .skp) h e:=amh
def LY {g:Nat} {o:Oper} (a:t g=.bool true):zL T Γ N F (.bool true) g true o ops l ws Q t h e=tO T Γ N F o ops l ws Q t h e:=(Cl a).trans (if_pos rfl)
def Ig {g:Nat} {o:Oper} (a:t g=.bool false):zL T Γ N F (.bool false) g true o ops l ws Q t h e=mS T Γ N F ops l ws Q (fQ t o.dst .skp) h e:=(zB a).trans (if_pos rfl)
def Ih {g:Nat} {o:Oper} (a:t g=.bool true):zL T Γ N F (.bool true) g false o ops l ws Q t h e=mS T Γ N F ops l ws Q (fQ t o.dst .skp) h e:=(Cl a).trans (if_neg (by decide))
def Et {g:Nat} {o:Oper} (a:t g=.bool false):zL T Γ N F (.bool false) g false o ops l ws Q t h e=tO T Γ N F o ops l ws Q t h e:=(zB a).trans (if_neg (by decide))
def YP {b:Bool} {g:Nat} {o:Oper} : zL T Γ N F (.bool b) g true o ops l ws Q t h e=br b (tO T Γ N F o ops l ws Q (cd t g (.bool true)) h e) (mS T Γ N F ops l ws Q (fQ (cd t g (.bool false)) o.dst .skp) h e):=by
 unfold zL;rw[Ck];cases b<;>simp[br]
def Ur {b:Bool} {g:Nat} {o:Oper} : zL T Γ N F (.bool b) g false o ops l ws Q t h e=br b (mS T Γ N F ops l ws Q (fQ (cd t g (.bool true)) o.dst .skp) h e) (tO T Γ N F o ops l ws Q (cd t g (.bool false)) h e):=by
 unfold zL;rw[Ck];cases b<;>simp[br]
def RE:nY T Γ N F ops [] ws Q t h e fs=(F4 ops.toArray fs=true∧dM T Γ N F ws Q .normal t h (e+1)):=amh
def Lp (a:fits N dst=true):nY T Γ N F ops (⟨dst,op,ty,pos,af,none⟩::l) ws Q t h e fs=wZ T Γ N F ⟨dst,op,ty,pos,af,none⟩ ops l ws Q t h e fs:=by
 simp only[nY,runK,wpG,a,true_and,wZ]
def HT {j:Nat} {a:Bool} (b:fits N dst=true) (c:BQ ops j=true):nY T Γ N F ops (⟨dst,op,ty,pos,af,some (j,a)⟩::l) ws Q t h e fs=zM T Γ N F (t (xU ops j)) (xU ops j) a ⟨dst,op,ty,pos,af,none⟩ ops l ws Q t h e fs:=by
 simp only[nY,runK,wpG,b,true_and,F0 ops j c,Hh,zM]<;>cases a<;>rfl
def Sk {g:Nat} {a:Bool} {o:Oper} : zM T Γ N F .skp g a o ops l ws Q t h e fs=nY T Γ N F ops l ws Q (fQ t o.dst .skp) h e (fs++[⟨[],true⟩]):=amh
def LZ {g:Nat} {o:Oper} (a:t g=.bool true):zM T Γ N F (.bool true) g true o ops l ws Q t h e fs=wZ T Γ N F o ops l ws Q t h e fs:=(Cl a).trans (if_pos rfl)
def Ii {g:Nat} {o:Oper} (a:t g=.bool false):zM T Γ N F (.bool false) g true o ops l ws Q t h e fs=nY T Γ N F ops l ws Q (fQ t o.dst .skp) h e (fs++[⟨[],true⟩]):=(zB a).trans (if_pos rfl)
def Ij {g:Nat} {o:Oper} (a:t g=.bool true):zM T Γ N F (.bool true) g false o ops l ws Q t h e fs=nY T Γ N F ops l ws Q (fQ t o.dst .skp) h e (fs++[⟨[],true⟩]):=(Cl a).trans (if_neg (by decide))
def Eu {g:Nat} {o:Oper} (a:t g=.bool false):zM T Γ N F (.bool false) g false o ops l ws Q t h e fs=wZ T Γ N F o ops l ws Q t h e fs:=(zB a).trans (if_neg (by decide))
def YQ {b:Bool} {g:Nat} {o:Oper} : zM T Γ N F (.bool b) g true o ops l ws Q t h e fs=br b (wZ T Γ N F o ops l ws Q (cd t g (.bool true)) h e fs) (nY T Γ N F ops l ws Q (fQ (cd t g (.bool false)) o.dst .skp) h e (fs++[⟨[],true⟩])):=by
 unfold zM;rw[Ck];cases b<;>simp[br]
def Us {b:Bool} {g:Nat} {o:Oper} : zM T Γ N F (.bool b) g false o ops l ws Q t h e fs=br b (nY T Γ N F ops l ws Q (fQ (cd t g (.bool true)) o.dst .skp) h e (fs++[⟨[],true⟩])) (wZ T Γ N F o ops l ws Q (cd t g (.bool false)) h e fs):=by
 unfold zM;rw[Ck];cases b<;>simp[br]
def R3 {d:D} {a:List (Nat×Option Row)} : Dn T Γ N F (some ⟨d,a⟩) dst ops l ws Q t h e=mS T Γ N F ops l ws Q (fQ t dst d) (aV h (mJ h a)) e:=amh
def R7 {d:D} {a:List (Nat×Option Row)} {b:List Nat} : Nt T Γ N F (some ⟨d,a⟩) dst b ops l ws Q t h e fs=nY T Γ N F ops l ws Q (fQ t dst d) (aV h (mJ h a)) e (fs++[⟨b,(mJ h a).isEmpty⟩]):=amh
def WG {c:Prop} [Decidable c] {E:cw} : Dn T Γ N F (if c then some E else none) dst ops l ws Q t h e=(c∧Dn T Γ N F (some E) dst ops l ws Q t h e):=by
 by_cases a:c<;>simp[a,Dn,H5,or2,vu]
def WJ {c:Prop} [Decidable c] {E:cw} {a:List Nat} : Nt T Γ N F (if c then some E else none) dst a ops l ws Q t h e fs=(c∧Nt T Γ N F (some E) dst a ops l ws Q t h e fs):=by
 by_cases b:c<;>simp[b,Nt,H6,or2,vu]
def LG {E:cw} {y:Option cw} : H5 T Γ N F (some E) y dst ops l ws Q t h e=Dn T Γ N F (some E) dst ops l ws Q t h e:=amh
def LP {E:cw} {y:Option cw} {a:List Nat} : H6 T Γ N F (some E) y dst a ops l ws Q t h e fs=Nt T Γ N F (some E) dst a ops l ws Q t h e fs:=amh
def LD {y:Option cw} : H5 T Γ N F none y dst ops l ws Q t h e=YH T Γ N F y dst ops l ws Q t h e:=amh
def LO {y:Option cw} {a:List Nat} : H6 T Γ N F none y dst a ops l ws Q t h e fs=aed T Γ N F y dst a ops l ws Q t h e fs:=amh
def WE {x:Option cw} : H5 T Γ N F x none dst ops l ws Q t h e=Dn T Γ N F x dst ops l ws Q t h e:=amh
def WI {x:Option cw} {a:List Nat} : H6 T Γ N F x none dst a ops l ws Q t h e fs=Nt T Γ N F x dst a ops l ws Q t h e fs:=amh
def LH {d:D} {a:List (Nat×Option Row)} : YH T Γ N F (some ⟨d,a⟩) dst ops l ws Q t h e=mS T Γ N F ops l ws Q (fQ t dst d) (aV h a) e:=amh
def LQ {d:D} {a:List (Nat×Option Row)} {b:List Nat} : aed T Γ N F (some ⟨d,a⟩) dst b ops l ws Q t h e fs=nY T Γ N F ops l ws Q (fQ t dst d) (aV h a) e (fs++[⟨b,a.isEmpty⟩]):=amh
def HG {g:Nat} {a b:Operand} (c:t g=.bool true):abQ T Γ N F (.bool true) g a b dst ops l ws Q t h e=mS T Γ N F ops l ws Q (fQ t dst (ev t a)) h e:=Ci c
def Ei {g:Nat} {a b:Operand} (c:t g=.bool false):abQ T Γ N F (.bool false) g a b dst ops l ws Q t h e=mS T Γ N F ops l ws Q (fQ t dst (ev t b)) h e:=zA c
def HH {g:Nat} {a b:Operand} (c:t g=.bool true):abR T Γ N F (.bool true) g a b dst ops l ws Q t h e fs=nY T Γ N F ops l ws Q (fQ t dst (ev t a)) h e (fs++[⟨[],true⟩]):=Ci c
def Ej {g:Nat} {a b:Operand} (c:t g=.bool false):abR T Γ N F (.bool false) g a b dst ops l ws Q t h e fs=nY T Γ N F ops l ws Q (fQ t dst (ev t b)) h e (fs++[⟨[],true⟩]):=zA c
def O1 {c:Nat} {a b:Operand} : tO T Γ N F ⟨dst,.pick (.tmp c) a b,ty,pos,af,gd⟩ ops l ws Q t h e=abQ T Γ N F (t c) c a b dst ops l ws Q t h e:=amh
def O7 {c:Nat} {a b:Operand} : wZ T Γ N F ⟨dst,.pick (.tmp c) a b,ty,pos,af,gd⟩ ops l ws Q t h e fs=abR T Γ N F (t c) c a b dst ops l ws Q t h e fs:=amh
def Br {x y:Option cw} (i:∀c a b,op ≠ .pick c a b) (j:jd T Γ e ⟨dst,op,ty,pos,af,gd⟩ (ev t)=none) (d:qQ Γ e h dst (jH (ev t) op)=none) (f:tP T Γ e ⟨dst,op,ty,pos,af,gd⟩ (ev t) (EH h)=x) (g:yb T Γ e ⟨dst,op,ty,pos,af,gd⟩ (ev t) h=y):tO T Γ N F ⟨dst,op,ty,pos,af,gd⟩ ops l ws Q t h e=H5 T Γ N F x y dst ops l ws Q t h e:=by
 subst f;subst g;unfold tO H5 Sx sf;simp_all
def Bv {x y:Option cw} (i:∀c a b,op ≠ .pick c a b) (j:jd T Γ e ⟨dst,op,ty,pos,af,gd⟩ (ev t)=none) (d:qQ Γ e h dst (jH (ev t) op)=none) (f:tP T Γ e ⟨dst,op,ty,pos,af,gd⟩ (ev t) (EH h)=x) (g:yb T Γ e ⟨dst,op,ty,pos,af,gd⟩ (ev t) h=y):wZ T Γ N F ⟨dst,op,ty,pos,af,gd⟩ ops l ws Q t h e fs=H6 T Γ N F x y dst (cY ⟨dst,op,ty,pos,af,gd⟩ (ev t)) ops l ws Q t h e fs:=by
 subst f;subst g;unfold wZ H6 Sx sf;simp_all
def gN {x:Option cw} (f:∀c a b,op ≠ .pick c a b) (g:tP T Γ e ⟨dst,op,ty,pos,af,gd⟩ (ev t) (EH h)=x) (i:jd T Γ e ⟨dst,op,ty,pos,af,gd⟩ (ev t)=none:=by rfl) (j:yb T Γ e ⟨dst,op,ty,pos,af,gd⟩ (ev t) h=none:=by rfl) (d:qQ Γ e h dst (jH (ev t) op)=none:=by first|rfl|(cases dst<;>rfl)):tO T Γ N F ⟨dst,op,ty,pos,af,gd⟩ ops l ws Q t h e=Dn T Γ N F x dst ops l ws Q t h e:=Br f i d g j
def l8 {x:Option cw} (f:∀c a b,op ≠ .pick c a b) (g:tP T Γ e ⟨dst,op,ty,pos,af,gd⟩ (ev t) (EH h)=x) (i:jd T Γ e ⟨dst,op,ty,pos,af,gd⟩ (ev t)=none:=by rfl) (j:yb T Γ e ⟨dst,op,ty,pos,af,gd⟩ (ev t) h=none:=by rfl) (d:qQ Γ e h dst (jH (ev t) op)=none:=by first|rfl|(cases dst<;>rfl)):wZ T Γ N F ⟨dst,op,ty,pos,af,gd⟩ ops l ws Q t h e fs=Nt T Γ N F x dst (cY ⟨dst,op,ty,pos,af,gd⟩ (ev t)) ops l ws Q t h e fs:=Bv f i d g j
def O0 {x:Operand} : tO T Γ N F ⟨dst,.move x,ty,pos,af,gd⟩ ops l ws Q t h e=mS T Γ N F ops l ws Q (fQ t dst (ev t x)) h e:=(gN (fun _ _ _ a=>by cases a) rfl).trans rfl
def O6 {x:Operand} : wZ T Γ N F ⟨dst,.move x,ty,pos,af,gd⟩ ops l ws Q t h e fs=nY T Γ N F ops l ws Q (fQ t dst (ev t x)) h e (fs++[⟨[],true⟩]):=(l8 (fun _ _ _ a=>by cases a) rfl).trans rfl
def JU {o:BinOp} {a z:Nat} {x y:Operand} : tO T Γ N F ⟨dst,.binOp o a x y z,ty,pos,af,gd⟩ ops l ws Q t h e=Dn T Γ N F (okD (FA T a o (ev t x) (ev t y))) dst ops l ws Q t h e:=gN (fun _ _ _ b=>by cases b) (by simp only[tP];first|rfl|(cases FA T a o (ev t x) (ev t y)<;>rfl))
def J1 {o:BinOp} {a z:Nat} {x y:Operand} : wZ T Γ N F ⟨dst,.binOp o a x y z,ty,pos,af,gd⟩ ops l ws Q t h e fs=Nt T Γ N F (okD (FA T a o (ev t x) (ev t y))) dst (cY ⟨dst,.binOp o a x y z,ty,pos,af,gd⟩ (ev t)) ops l ws Q t h e fs:=l8 (fun _ _ _ b=>by cases b) (by simp only[tP];first|rfl|(cases FA T a o (ev t x) (ev t y)<;>rfl))
def O2 {o:UnOp} {a:Nat} {x:Operand} : tO T Γ N F ⟨dst,.unOp o a x,ty,pos,af,gd⟩ ops l ws Q t h e=Dn T Γ N F (okD (YS o (ev t x))) dst ops l ws Q t h e:=gN (fun _ _ _ b=>by cases b) (by simp only[tP];first|rfl|(cases YS o (ev t x)<;>rfl))
def O8 {o:UnOp} {a:Nat} {x:Operand} : wZ T Γ N F ⟨dst,.unOp o a x,ty,pos,af,gd⟩ ops l ws Q t h e fs=Nt T Γ N F (okD (YS o (ev t x))) dst (cY ⟨dst,.unOp o a x,ty,pos,af,gd⟩ (ev t)) ops l ws Q t h e fs:=l8 (fun _ _ _ b=>by cases b) (by simp only[tP];first|rfl|(cases YS o (ev t x)<;>rfl))
def FR {x:Operand} : tO T Γ N F ⟨dst,.assign x,ty,pos,af,gd⟩ ops l ws Q t h e=Dn T Γ N F (uG T Γ.own ty e dst (EH h) (ev t x)) dst ops l ws Q t h e:=gN (fun _ _ _ a=>by cases a) rfl
def FV {x:Operand} : wZ T Γ N F ⟨dst,.assign x,ty,pos,af,gd⟩ ops l ws Q t h e fs=Nt T Γ N F (uG T Γ.own ty e dst (EH h) (ev t x)) dst (cY ⟨dst,.assign x,ty,pos,af,gd⟩ (ev t)) ops l ws Q t h e fs:=l8 (fun _ _ _ a=>by cases a) rfl
def Bt {f:Nat} {first caps:List Operand} : tO T Γ N F ⟨dst,.makeFunc (.func f) first.toArray caps.toArray,ty,pos,af,gd⟩ ops l ws Q t h e=Dn T Γ N F (if (first.map (ev t)++caps.map (ev t)).all uk then some ⟨.clo f first.length (first.map (ev t)++caps.map (ev t)),[]⟩ else none) dst ops l ws Q t h e:=gN (fun _ _ _ a=>by cases a) rfl
def OY {a:Nat} {x:Operand} : tO T Γ N F ⟨dst,.load a x,ty,pos,af,gd⟩ ops l ws Q t h e=H5 T Γ N F (HD (T a) fun τ=>sZ τ (EH h) (ev t x)) (HD (T a) fun τ=>x4 τ h (ev t x)) dst ops l ws Q t h e:=Br (fun _ _ _ b=>by cases b) rfl (by cases dst<;>rfl) (by simp only[tP];first|rfl|(cases T a<;>rfl)) (by simp only[yb];first|rfl|(cases T a<;>rfl))
def O4 {a:Nat} {x:Operand} : wZ T Γ N F ⟨dst,.load a x,ty,pos,af,gd⟩ ops l ws Q t h e fs=H6 T Γ N F (HD (T a) fun τ=>sZ τ (EH h) (ev t x)) (HD (T a) fun τ=>x4 τ h (ev t x)) dst (cY ⟨dst,.load a x,ty,pos,af,gd⟩ (ev t)) ops l ws Q t h e fs:=Bv (fun _ _ _ b=>by cases b) rfl (by cases dst<;>rfl) (by simp only[tP];first|rfl|(cases T a<;>rfl)) (by simp only[yb];first|rfl|(cases T a<;>rfl))
def JZ {a:Nat} {x y:Operand} : tO T Γ N F ⟨dst,.store a x y,ty,pos,af,gd⟩ ops l ws Q t h e=H5 T Γ N F (HD (T a) fun τ=>iO τ (EH h) (ev t x) (ev t y)) (HD (T a) fun τ=>yc τ e h (ev t x) (ev t y)) dst ops l ws Q t h e:=Br (fun _ _ _ b=>by cases b) rfl (by cases dst<;>rfl) (by simp only[tP];first|rfl|(cases T a<;>rfl)) (by simp only[yb];first|rfl|(cases T a<;>rfl))
def J4 {a:Nat} {x y:Operand} : wZ T Γ N F ⟨dst,.store a x y,ty,pos,af,gd⟩ ops l ws Q t h e fs=H6 T Γ N F (HD (T a) fun τ=>iO τ (EH h) (ev t x) (ev t y)) (HD (T a) fun τ=>yc τ e h (ev t x) (ev t y)) dst (cY ⟨dst,.store a x y,ty,pos,af,gd⟩ (ev t)) ops l ws Q t h e fs:=Bv (fun _ _ _ b=>by cases b) rfl (by cases dst<;>rfl) (by simp only[tP];first|rfl|(cases T a<;>rfl)) (by simp only[yb];first|rfl|(cases T a<;>rfl))
def Bu {x:Operand} : tO T Γ N F ⟨dst,.nilCheck x,ty,pos,af,gd⟩ ops l ws Q t h e=Dn T Γ N F (p5 (EH h) (ev t x)) dst ops l ws Q t h e:=gN (fun _ _ _ a=>by cases a) rfl
def Bw {x:Operand} : wZ T Γ N F ⟨dst,.nilCheck x,ty,pos,af,gd⟩ ops l ws Q t h e fs=Nt T Γ N F (p5 (EH h) (ev t x)) dst (cY ⟨dst,.nilCheck x,ty,pos,af,gd⟩ (ev t)) ops l ws Q t h e fs:=l8 (fun _ _ _ a=>by cases a) rfl
def zP {a i:Nat} {x:Operand} : tO T Γ N F ⟨dst,.fieldAddr a x i,ty,pos,af,gd⟩ ops l ws Q t h e=Dn T Γ N F (HD (T a) fun τ=>gU T τ (EH h) i (ev t x)) dst ops l ws Q t h e:=gN (fun _ _ _ b=>by cases b) (by simp only[tP];first|rfl|(cases T a<;>rfl))
def zT {a i:Nat} {x:Operand} : wZ T Γ N F ⟨dst,.fieldAddr a x i,ty,pos,af,gd⟩ ops l ws Q t h e fs=Nt T Γ N F (HD (T a) fun τ=>gU T τ (EH h) i (ev t x)) dst (cY ⟨dst,.fieldAddr a x i,ty,pos,af,gd⟩ (ev t)) ops l ws Q t h e fs:=l8 (fun _ _ _ b=>by cases b) (by simp only[tP];first|rfl|(cases T a<;>rfl))
def zQ {a:Nat} {x i:Operand} : tO T Γ N F ⟨dst,.indexAddr a x i,ty,pos,af,gd⟩ ops l ws Q t h e=Dn T Γ N F (HD (T a) fun τ=>cX T τ (EH h) (ev t x) (ev t i)) dst ops l ws Q t h e:=gN (fun _ _ _ b=>by cases b) (by simp only[tP];first|rfl|(cases T a<;>rfl))
def zU {a:Nat} {x i:Operand} : wZ T Γ N F ⟨dst,.indexAddr a x i,ty,pos,af,gd⟩ ops l ws Q t h e fs=Nt T Γ N F (HD (T a) fun τ=>cX T τ (EH h) (ev t x) (ev t i)) dst (cY ⟨dst,.indexAddr a x i,ty,pos,af,gd⟩ (ev t)) ops l ws Q t h e fs:=l8 (fun _ _ _ b=>by cases b) (by simp only[tP];first|rfl|(cases T a<;>rfl))
def JW {a:Nat} {x i:Operand} : tO T Γ N F ⟨dst,.index a x i,ty,pos,af,gd⟩ ops l ws Q t h e=Dn T Γ N F (HD (T a) fun τ=>nd T τ (ev t x) (ev t i)) dst ops l ws Q t h e:=gN (fun _ _ _ b=>by cases b) (by simp only[tP];first|rfl|(cases T a<;>rfl))
def JX {a:Nat} {x:Operand} {b c d:Option Operand} : tO T Γ N F ⟨dst,.slice a x b c d,ty,pos,af,gd⟩ ops l ws Q t h e=Dn T Γ N F (HD (T a) fun τ=>iN T τ (EH h) (ev t x) (b.map (ev t)) (c.map (ev t)) (d.map (ev t))) dst ops l ws Q t h e:=gN (fun _ _ _ f=>by cases f) (by simp only[tP];first|rfl|(cases T a<;>rfl))
def JV {a:Nat} {b:List (Nat×Operand)} : tO T Γ N F ⟨dst,.build a b.toArray,ty,pos,af,gd⟩ ops l ws Q t h e=Dn T Γ N F (HD (T a) fun τ=>sX Γ.own T τ (EH h) dst (b.map fun p=>(p.1,ev t p.2))) dst ops l ws Q t h e:=gN (fun _ _ _ c=>by cases c) (by simp only[tP];first|rfl|(cases T a<;>rfl))
def J2 {a:Nat} {b:List (Nat×Operand)} : wZ T Γ N F ⟨dst,.build a b.toArray,ty,pos,af,gd⟩ ops l ws Q t h e fs=Nt T Γ N F (HD (T a) fun τ=>sX Γ.own T τ (EH h) dst (b.map fun p=>(p.1,ev t p.2))) dst (cY ⟨dst,.build a b.toArray,ty,pos,af,gd⟩ (ev t)) ops l ws Q t h e fs:=l8 (fun _ _ _ c=>by cases c) (by simp only[tP];first|rfl|(cases T a<;>rfl))
def xR {a len d:Nat} {b:List (Nat×Operand)} : tO T Γ N F ⟨some d,.buildSlice a len b.toArray,ty,pos,af,gd⟩ ops l ws Q t h e=Dn T Γ N F (HD (T a) fun τ=>fb T τ (EH h) e d len (b.map fun p=>(p.1,ev t p.2))) (some d) ops l ws Q t h e:=gN (fun _ _ _ c=>by cases c) (by simp only[tP];first|rfl|(cases T a<;>rfl))
def xS {a len d:Nat} {b:List (Nat×Operand)} : wZ T Γ N F ⟨some d,.buildSlice a len b.toArray,ty,pos,af,gd⟩ ops l ws Q t h e fs=Nt T Γ N F (HD (T a) fun τ=>fb T τ (EH h) e d len (b.map fun p=>(p.1,ev t p.2))) (some d) (cY ⟨some d,.buildSlice a len b.toArray,ty,pos,af,gd⟩ (ev t)) ops l ws Q t h e fs:=l8 (fun _ _ _ c=>by cases c) (by simp only[tP];first|rfl|(cases T a<;>rfl))
def G5 (T:Nat->Option Ty) (e d a:Nat) (x y:D):Option (Nat×Nat×Nat)->Option cw
 | some p=>(match T a with|some τ=>rE T τ e d p.1 p.2.1 p.2.2 x y|none=>none)
 | none=>none
def KP {d a:Nat} {x y:D} : G5 T e d a x y none=none:=amh
def KQ {d a:Nat} {x y:D} {p:Nat×Nat×Nat} {τ:Ty} (b:T a=some τ):G5 T e d a x y (some p)=rE T τ e d p.1 p.2.1 p.2.2 x y:=by simp only[G5,b]
def stM (y x:Option cw) (dst:Option Nat) (ops l:List Oper) (ws:List W) (Q:Kt) (t:Nat->D) (h:Nat->Option Row) (e:Nat):Prop :=
 match y with
 | some E=>YH T Γ N F (some E) dst ops l ws Q t h e
 | none=>Dn T Γ N F x dst ops l ws Q t h e
def af7 (y x:Option cw) (dst:Option Nat) (a:List Nat) (ops l:List Oper) (ws:List W) (Q:Kt) (t:Nat->D) (h:Nat->Option Row) (e:Nat) (fs:List mL):Prop :=
 match y with
 | some E=>aed T Γ N F (some E) dst a ops l ws Q t h e fs
 | none=>Nt T Γ N F x dst a ops l ws Q t h e fs
def zR {a d:Nat} {x y:Operand} : tO T Γ N F ⟨some d,.makeSlice a x y,ty,pos,af,gd⟩ ops l ws Q t h e=stM (T:=T) (Γ:=Γ) (N:=N) (F:=F) (G5 T e d a (ev t x) (ev t y) (Γ.nst d)) (HD (T a) fun τ=>ud T τ e d (ev t x) (ev t y)) (some d) ops l ws Q t h e:=by
 have b:jd T Γ e ⟨some d,.makeSlice a x y,ty,pos,af,gd⟩ (ev t)=G5 T e d a (ev t x) (ev t y) (Γ.nst d):=by
  unfold jd G5;grind
 cases c:G5 T e d a (ev t x) (ev t y) (Γ.nst d) with
 | none=>exact gN (fun _ _ _ f=>by cases f) (by simp only[tP];first|rfl|(cases T a<;>rfl)) (b.trans c)
 | some E=>unfold tO Sx sf;rw[b,c];rfl
def zV {a d:Nat} {x y:Operand} : wZ T Γ N F ⟨some d,.makeSlice a x y,ty,pos,af,gd⟩ ops l ws Q t h e fs=af7 (T:=T) (Γ:=Γ) (N:=N) (F:=F) (G5 T e d a (ev t x) (ev t y) (Γ.nst d)) (HD (T a) fun τ=>ud T τ e d (ev t x) (ev t y)) (some d) (cY ⟨some d,.makeSlice a x y,ty,pos,af,gd⟩ (ev t)) ops l ws Q t h e fs:=by
 have b:jd T Γ e ⟨some d,.makeSlice a x y,ty,pos,af,gd⟩ (ev t)=G5 T e d a (ev t x) (ev t y) (Γ.nst d):=by
  unfold jd G5;grind
 cases c:G5 T e d a (ev t x) (ev t y) (Γ.nst d) with
 | none=>exact l8 (fun _ _ _ f=>by cases f) (by simp only[tP];first|rfl|(cases T a<;>rfl)) (b.trans c)
 | some E=>unfold wZ Sx sf;rw[b,c];rfl
def R4 {x:Option cw} : stM (T:=T) (Γ:=Γ) (N:=N) (F:=F) none x dst ops l ws Q t h e=Dn T Γ N F x dst ops l ws Q t h e:=amh
def LI {x:Option cw} {a:List Nat} : af7 (T:=T) (Γ:=Γ) (N:=N) (F:=F) none x dst a ops l ws Q t h e fs=Nt T Γ N F x dst a ops l ws Q t h e fs:=amh
def R5 {x:Option cw} {E:cw} : stM (T:=T) (Γ:=Γ) (N:=N) (F:=F) (some E) x dst ops l ws Q t h e=YH T Γ N F (some E) dst ops l ws Q t h e:=amh
def ZH (T:Nat->Option Ty) (e d a:Nat):Option (Nat×Nat×Nat)->Option cw
 | some p=>(match T a with|some τ=>mkA τ a e d p.1 p.2.1 p.2.2|none=>none)
 | none=>none
def N7 {d a:Nat} : ZH T e d a none=none:=amh
def N8 {d a:Nat} {p:Nat×Nat×Nat} {τ:Ty} (b:T a=some τ):ZH T e d a (some p)=mkA τ a e d p.1 p.2.1 p.2.2:=by simp only[ZH,b]
def JT {a d:Nat} : tO T Γ N F ⟨some d,.alloc a,ty,pos,af,gd⟩ ops l ws Q t h e=stM (T:=T) (Γ:=Γ) (N:=N) (F:=F) (ZH T e d a (Γ.nst d)) (Fu (T a) a d e (Γ.hint d)) (some d) ops l ws Q t h e:=by
 have b:jd T Γ e ⟨some d,.alloc a,ty,pos,af,gd⟩ (ev t)=ZH T e d a (Γ.nst d):=by
  unfold jd ZH;grind
 cases c:ZH T e d a (Γ.nst d) with
 | none=>exact gN (fun _ _ _ f=>by cases f) (by simp only[tP];cases T a with|none=>rfl|some τ=>(dsimp only[Fu];cases Γ.hint d<;>rfl)) (b.trans c)
 | some E=>unfold tO Sx sf;rw[b,c];rfl
def J0 {a d:Nat} : wZ T Γ N F ⟨some d,.alloc a,ty,pos,af,gd⟩ ops l ws Q t h e fs=af7 (T:=T) (Γ:=Γ) (N:=N) (F:=F) (ZH T e d a (Γ.nst d)) (Fu (T a) a d e (Γ.hint d)) (some d) (cY ⟨some d,.alloc a,ty,pos,af,gd⟩ (ev t)) ops l ws Q t h e fs:=by
 have b:jd T Γ e ⟨some d,.alloc a,ty,pos,af,gd⟩ (ev t)=ZH T e d a (Γ.nst d):=by
  unfold jd ZH;grind
 cases c:ZH T e d a (Γ.nst d) with
 | none=>exact l8 (fun _ _ _ f=>by cases f) (by simp only[tP];cases T a with|none=>rfl|some τ=>(dsimp only[Fu];cases Γ.hint d<;>rfl)) (b.trans c)
 | some E=>unfold wZ Sx sf;rw[b,c];rfl
def DR {a d:Nat} : tO T Γ N F ⟨some d,.makeMap a none,ty,pos,af,gd⟩ ops l ws Q t h e=Dn T Γ N F (abD T (T a) a e d) (some d) ops l ws Q t h e:=gN (fun _ _ _ b=>by cases b) (by simp only[tP];first|rfl|(cases T a<;>rfl))
def FT {a:Nat} {m i:Operand} {b:Bool} : tO T Γ N F ⟨dst,.lookup a m i b,ty,pos,af,gd⟩ ops l ws Q t h e=Dn T Γ N F (HD (T a) fun τ=>jj T τ (EH h) (ev t m) (ev t i) b) dst ops l ws Q t h e:=gN (fun _ _ _ c=>by cases c) (by simp only[tP];first|rfl|(cases T a<;>rfl))
def zS {a:Nat} {m i x:Operand} : tO T Γ N F ⟨dst,.mapUpdate a m i x,ty,pos,af,gd⟩ ops l ws Q t h e=Dn T Γ N F (HD (T a) fun τ=>eO T τ (EH h) (ev t m) (ev t i) (ev t x)) dst ops l ws Q t h e:=gN (fun _ _ _ b=>by cases b) (by simp only[tP];first|rfl|(cases T a<;>rfl))
def Vm {a d:Nat} {x:Operand} : tO T Γ N F ⟨some d,.box a x,ty,pos,af,gd⟩ ops l ws Q t h e=Dn T Γ N F (agS (gS (EH h) (ev t x)) (EH h) a d e) (some d) ops l ws Q t h e:=gN (fun _ _ _ b=>by cases b) (by simp only[tP];first|rfl|(cases gS (EH h) (ev t x)<;>rfl))
def DP {a b:Nat} {x:Operand} : tO T Γ N F ⟨dst,.convert a b x,ty,pos,af,gd⟩ ops l ws Q t h e=Dn T Γ N F (aeB (T b) (T a) (ev t x)) dst ops l ws Q t h e:=gN (fun _ _ _ c=>by cases c) rfl
def DQ {x:Nat} {i:Nat} : tO T Γ N F ⟨dst,.extract (.tmp x) i,ty,pos,af,gd⟩ ops l ws Q t h e=Dn T Γ N F (adn (t x) i) dst ops l ws Q t h e:=gN (fun _ _ _ a=>by cases a) rfl
def DT {x:Nat} {i:Nat} : wZ T Γ N F ⟨dst,.extract (.tmp x) i,ty,pos,af,gd⟩ ops l ws Q t h e fs=Nt T Γ N F (adn (t x) i) dst (cY ⟨dst,.extract (.tmp x) i,ty,pos,af,gd⟩ (ev t)) ops l ws Q t h e fs:=l8 (fun _ _ _ a=>by cases a) rfl
def cnL (Γ:Env) (e:Nat) (h:Nat->Option Row) (g:Nat) (a:List D):Option (Nat×(Nat->Nat->Nat->Nat->List D->List D->Option (D×List D)))->Option cw
 | some _=>u9 Γ e h g a
 | none=>none
def OQ {g:Nat} {a:List D} : cnL Γ e h g a none=none:=amh
def OR {g:Nat} {a:List D} {p:Nat×(Nat->Nat->Nat->Nat->List D->List D->Option (D×List D))} : cnL Γ e h g a (some p)=u9 Γ e h g a:=amh
def aaB {g:Nat} {a:List D} : D1 Γ e h (some (.fn g,a))=cnL Γ e h g a (Γ.nx.lnd g):=by
 cases c:Γ.nx.lnd g with
 | some p=>rfl
 | none =>
  show u9 Γ e h g a=none;cases b:u9 Γ e h g a with
  | none=>rfl
  | some E =>
   obtain⟨_,_,_,_,_,_,_,_,_,_,_,_,_,_,_,_,d,_⟩:=we b;simp_all
def Vq {f k:Nat} {xs a:List D} : D1 Γ e h (some (.clo f k xs,a))=none:=amh
def aaA {d g:Nat} {a:List D} : qQ Γ e h (some d) (some (.fn g,a))=Gb e d h a (Γ.nx.res g):=amh
def Vp {dst:Option Nat} {f k:Nat} {xs a:List D} : qQ Γ e h dst (some (.clo f k xs,a))=none:=by cases dst<;>rfl
def Pd {d:Nat} {a:List D} : Gb e d h a none=none:=amh
def Pe {d:Nat} {a:List D} {p:List D->Option (Nat×Nat×Nat×Nat×Nat×List D)} : Gb e d h a (some p)=JE p e d (bX (EH h) a):=amh
def Oo {d:Nat} {aju:List D} {p:List D->Option (Nat×Nat×Nat×Nat×Nat×List D)} : JE p e d (some (aju,[]))=Mg e d (p aju):=amh
def JF {d ty a s S n:Nat} {cs:List D} (b:d<1000000):Mg e d (some (ty,a,s,S,n,cs))=some ⟨.buf d e S 0 n,[(d,some ⟨e,ty,[.nr a s (4*e+2) cs],false,true,true⟩)]⟩:=if_pos (by rw[dx];exact b)
def stC (a x y:Option cw) (dst:Option Nat) (ops l:List Oper) (ws:List W) (Q:Kt) (t:Nat->D) (h:Nat->Option Row) (e:Nat):Prop :=
 match a with
 | some E=>YH T Γ N F (some E) dst ops l ws Q t h e
 | none=>H5 T Γ N F x y dst ops l ws Q t h e
def ahL (b x y:Option cw) (dst:Option Nat) (a:List Nat) (ops l:List Oper) (ws:List W) (Q:Kt) (t:Nat->D) (h:Nat->Option Row) (e:Nat) (fs:List mL):Prop :=
 match b with
 | some E=>aed T Γ N F (some E) dst a ops l ws Q t h e fs
 | none=>H6 T Γ N F x y dst a ops l ws Q t h e fs
def R1 {x y:Option cw} : stC (T:=T) (Γ:=Γ) (N:=N) (F:=F) none x y dst ops l ws Q t h e=H5 T Γ N F x y dst ops l ws Q t h e:=amh
def LC {x y:Option cw} {a:List Nat} : ahL (T:=T) (Γ:=Γ) (N:=N) (F:=F) none x y dst a ops l ws Q t h e fs=H6 T Γ N F x y dst a ops l ws Q t h e fs:=amh
def R2 {x y:Option cw} {E:cw} : stC (T:=T) (Γ:=Γ) (N:=N) (F:=F) (some E) x y dst ops l ws Q t h e=YH T Γ N F (some E) dst ops l ws Q t h e:=amh
def OX {x:Operand} {aju:List Operand} {a:Array Nat} : tO T Γ N F ⟨dst,.call ⟨.value x,aju.toArray,a⟩,ty,pos,af,gd⟩ ops l ws Q t h e=stC (T:=T) (Γ:=Γ) (N:=N) (F:=F) (qQ Γ e h dst (some (ev t x,aju.map (ev t)))) (jQ Γ (EH h) e dst (ev t x) (aju.map (ev t))) (D1 Γ e h (some (ev t x,aju.map (ev t)))) dst ops l ws Q t h e:=by
 have b:jH (ev t) (.call ⟨.value x,aju.toArray,a⟩)=some (ev t x,aju.map (ev t)):=rfl;cases c:qQ Γ e h dst (some (ev t x,aju.map (ev t))) with
 | none=>exact Br (fun _ _ _ d=>by cases d) rfl (by rw[b];exact c) rfl rfl
 | some E=>unfold tO Sx sf;simp only[jd,b,c];rfl
def O3 {x:Operand} {aju:List Operand} {a:Array Nat} : wZ T Γ N F ⟨dst,.call ⟨.value x,aju.toArray,a⟩,ty,pos,af,gd⟩ ops l ws Q t h e fs=ahL (T:=T) (Γ:=Γ) (N:=N) (F:=F) (qQ Γ e h dst (some (ev t x,aju.map (ev t)))) (jQ Γ (EH h) e dst (ev t x) (aju.map (ev t))) (D1 Γ e h (some (ev t x,aju.map (ev t)))) dst (cY ⟨dst,.call ⟨.value x,aju.toArray,a⟩,ty,pos,af,gd⟩ (ev t)) ops l ws Q t h e fs:=by
 have b:jH (ev t) (.call ⟨.value x,aju.toArray,a⟩)=some (ev t x,aju.map (ev t)):=rfl;cases c:qQ Γ e h dst (some (ev t x,aju.map (ev t))) with
 | none=>exact Bv (fun _ _ _ d=>by cases d) rfl (by rw[b];exact c) rfl rfl
 | some E=>unfold wZ Sx sf;simp only[jd,b,c];rfl
def DO {x:Builtin} {aju:List Operand} {a:List Nat} : tO T Γ N F ⟨dst,.call ⟨.builtin x,aju.toArray,a.toArray⟩,ty,pos,af,gd⟩ ops l ws Q t h e=Dn T Γ N F (eB T (EH h) e dst x a (aju.map (ev t))) dst ops l ws Q t h e:=gN (fun _ _ _ b=>by cases b) rfl
def DS {x:Builtin} {aju:List Operand} {a:List Nat} : wZ T Γ N F ⟨dst,.call ⟨.builtin x,aju.toArray,a.toArray⟩,ty,pos,af,gd⟩ ops l ws Q t h e fs=Nt T Γ N F (eB T (EH h) e dst x a (aju.map (ev t))) dst (cY ⟨dst,.call ⟨.builtin x,aju.toArray,a.toArray⟩,ty,pos,af,gd⟩ (ev t)) ops l ws Q t h e fs:=l8 (fun _ _ _ b=>by cases b) rfl
def bN {o:Array Oper} {A:Prop} (a:F4 o fs=true) (b:A):F4 o fs=true∧A:=⟨a,b⟩
def ay {b:Bool} {g:Nat} {x y:Code} (a:b=true->dM T Γ N F (.code x::ws) Q .normal (cd t g (.bool true)) h e) (c:b=false->dM T Γ N F (.code y::ws) Q .normal (cd t g (.bool false)) h e):NL T Γ N F (.bool b) g x y ws Q t h e:=by rw[YO];exact⟨a,c⟩
def fM {b:Bool} {g:Nat} {o:Oper} (a:b=true->tO T Γ N F o ops l ws Q (cd t g (.bool true)) h e) (c:b=false->mS T Γ N F ops l ws Q (fQ (cd t g (.bool false)) o.dst .skp) h e):zL T Γ N F (.bool b) g true o ops l ws Q t h e:=by rw[YP];exact⟨a,c⟩
def bU {b:Bool} {g:Nat} {o:Oper} (a:b=true->mS T Γ N F ops l ws Q (fQ (cd t g (.bool true)) o.dst .skp) h e) (c:b=false->tO T Γ N F o ops l ws Q (cd t g (.bool false)) h e):zL T Γ N F (.bool b) g false o ops l ws Q t h e:=by rw[Ur];exact⟨a,c⟩
def Fe {b:Bool} {g:Nat} {o:Oper} (a:b=true->wZ T Γ N F o ops l ws Q (cd t g (.bool true)) h e fs) (c:b=false->nY T Γ N F ops l ws Q (fQ (cd t g (.bool false)) o.dst .skp) h e (fs++[⟨[],true⟩])):zM T Γ N F (.bool b) g true o ops l ws Q t h e fs:=by rw[YQ];exact⟨a,c⟩
def yM {b:Bool} {g:Nat} {o:Oper} (a:b=true->nY T Γ N F ops l ws Q (fQ (cd t g (.bool true)) o.dst .skp) h e (fs++[⟨[],true⟩])) (c:b=false->wZ T Γ N F o ops l ws Q (cd t g (.bool false)) h e fs):zM T Γ N F (.bool b) g false o ops l ws Q t h e fs:=by rw[Us];exact⟨a,c⟩
def aaI (a:Mode) (T:Nat->Option Ty) (lent:Option (D×Row)) (rs:List ResultVar) (r:RK×Option Row):Kt:=fun x t h e=>afA a T lent rs x t h e r
def D3 {a:Mode} {lent:Option (D×Row)} {rs:List ResultVar} {r:RK×Option Row} : aaI a T lent rs r .normal t h e=(gu a T lent rs ⟨t,EH h,e⟩=some r):=amh
def cL {a:Mode} {lent:Option (D×Row)} {rs:List ResultVar} {r:RK×Option Row} : aaI a T lent rs r .ret t h e=(gu a T lent rs ⟨t,EH h,e⟩=some r):=amh
def Vw (T:Nat->Option Ty) (ty a s:Nat) (rs:List ResultVar) (r:D×List D):Kt:=fun x t h e =>
 match x with
 | .exit _=>False
 | _=>XM T ty a s rs ⟨t,h,e⟩=some r
def BJ {ty a s:Nat} {rs:List ResultVar} {r:D×List D} : Vw T ty a s rs r .normal t h e=(XM T ty a s rs ⟨t,h,e⟩=some r):=amh
def Kd {ty a s:Nat} {rs:List ResultVar} {r:D×List D} : Vw T ty a s rs r .ret t h e=(XM T ty a s rs ⟨t,h,e⟩=some r):=amh
def aaG (rs:List ResultVar) (r:Nat×Nat×Nat×Nat×Nat×List D):Kt:=fun x t h e =>
 match x with
 | .exit _=>False
 | _=>aaE rs ⟨t,h,e⟩=some r
def Kc {rs:List ResultVar} {r:Nat×Nat×Nat×Nat×Nat×List D} : aaG rs r .ret t h e=(aaE rs ⟨t,h,e⟩=some r):=amh
def Vy {ty a s:Nat} {rs:List ResultVar} : XM T ty a s rs ⟨t,h,e⟩=Pq ty a s (xx T ⟨t,EH h,e⟩ rs) (h 0):=amh
def Pr {ty a s nv:Nat} {lst:Bool} {b cs:List D} : Pq ty a s (some (b,[])) (some ⟨0,ty,[.nr a s nv cs],false,lst,true⟩)=some (nX b,cs):=by
 simp[Pq,aaH]
def Vv {i:Nat} : aaE [.tmp i] ⟨t,h,e⟩=Vu h (t i):=amh
def Kb {x v S n:Nat} : Vu h (.buf x v S 0 n)=Po x v S n (h x):=amh
def Pp {x v S n ty a s nv:Nat} {lst:Bool} {cs:List D} (b:x<1000000):Po x v S n (some ⟨v,ty,[.nr a s nv cs],false,lst,true⟩)=some (ty,a,s,S,n,cs):=by
 have:x<PK:=by rw[dx];exact b
 simp[Po,aaF,this]
def zx {d:Func} {c:Code} {n ty b s o:Nat} {cs a:List D} {rs:List ResultVar} {r:D×List D} (g:d.body=some c) (h:d.ntmps=n) (i:d.results=rs.toArray) (j:dM T Γ n F [.code c] (Vw T ty b s rs r) .normal (Bg (.ptr 0 0 o::a)) (oI (jz ty b s 0 cs)) 1) (e:n<=1000000:=by exact ak7 rfl):wR T Γ F d ty b s o cs a=some r:=by
 obtain⟨x,p,k,f⟩:=Dy _ _ _ _ _ (show NR T Γ n F c (Bg (.ptr 0 0 o::a)) (oI (jz ty b s 0 cs)) 1 (Vw T ty b s rs r) from j);unfold wR;simp only[g,h];rw[if_pos (by rw[dx];exact e)];have l:tL ty b s o cs a=⟨Bg (.ptr 0 0 o::a),oI (jz ty b s 0 cs),1⟩:=rfl;rw[l,k,i];cases x with
 | normal=>exact f
 | ret=>exact f
 | exit m=>exact f.elim
def Y1 {b:Func} {c:Code} {n:Nat} {a:List D} {rs:List ResultVar} {r:Nat×Nat×Nat×Nat×Nat×List D} (f:b.body=some c) (g:b.ntmps=n) (h:b.results=rs.toArray) (i:dM T Γ n F [.code c] (aaG rs r) .normal (Bg a) K5 0) (d:n<=1000000:=by exact ak7 rfl):A4 T Γ F b a=some r:=by
 obtain⟨x,l,j,e⟩:=Dy _ _ _ _ _ (show NR T Γ n F c (Bg a) K5 0 (aaG rs r) from i);unfold A4;simp only[f,g];rw[if_pos (by rw[dx];exact d)];have k:cG none a=⟨Bg a,K5,0⟩:=rfl;rw[k,j,h];cases x with
 | normal=>exact e
 | ret=>exact e
 | exit m=>exact e.elim
def aL {a:Mode} {d:Func} {c:Code} {n:Nat} {rs:List ResultVar} {b:List D} {r:RK×Option Row} (g:d.body=some c) (f:d.ntmps=n) (h:d.results=rs.toArray) (i:dM T Γ n F [.code c] (aaI a T none rs r) .normal (Bg b) K5 0) (e:n<=1000000:=by exact ak7 rfl):kM a T Γ F d none b=some r:=by
 refine UD ?_ (by rw[f];exact e);unfold wpf;rw[g,f,h];exact i
def RB (r:Row) (i:Nat):oI r i=if i=0 then some r else none:=amh
def Iq {a:Mode} {d:Func} {c:Code} {n:Nat} {rs:List ResultVar} {d0:D} {ty:Nat} {cells:List D} {fz lst:Bool} {b:List D} {r:RK×Option Row} (g:d.body=some c) (f:d.ntmps=n) (h:d.results=rs.toArray)
  (i:dM T Γ n F [.code c] (aaI a T (some (d0,⟨0,ty,cells,fz,lst,false⟩)) rs r) .normal (Bg (d0::b)) (oI ⟨0,ty,cells,fz,lst,false⟩) 1) (e:n<=1000000:=by exact ak7 rfl):kM a T Γ F d (some (d0,⟨0,ty,cells,fz,lst,false⟩)) b=some r:=by
 refine UD ?_ (by rw[f];exact e);unfold wpf;rw[g,f,h];exact i
end
section
variable {h:Nat->Option Row} {k x o v ty fz' nv s n e:Nat} {cs xs:List D} {fz lst:Bool}
def Zj (a:k<2000000):EH h k=(h k).map (E9 k):=u5 (by rw[dx];exact a)
def aen (a:x<1000000):EH h (NK x o)=(h x).bind fun r=>uj r o:=u4 (by rw[dx];exact a)
def Lx:E9 k ⟨v,ty,cs,fz,lst,false⟩=⟨v,ty,cs,fz,lst,false⟩:=amh
def WA {a:List dY} : E9 k ⟨v,ty,[.mpc a xs],fz,lst,true⟩=⟨v,ty,[.mpc a xs],fz,lst,true⟩:=amh
def ab4 {t:Nat} : E9 k ⟨v,ty,[.nr t s nv cs],fz,lst,true⟩=⟨v,ty,cs.mapIdx (uz k s),fz,lst,true⟩:=amh
def QO {t:Nat} : uj ⟨v,ty,[.nr t s nv cs],fz,lst,true⟩ o=G7 t nv fz (cs.drop o).head?:=amh
def QN:G7 ty nv fz (some (.nx n xs))=some ⟨nv,ty,xs,fz,true,false⟩:=amh
def ae8 (a:x<1000000):rt (NK x o)=x:=xd (by rw[dx];exact a)
def KA:mJ h []=[]:=amh
def Kz {r:Option Row} {l:List (Nat×Option Row)} (a:k<2000000):mJ h ((k,r)::l)=(k,IW r)::mJ (cd h k (IW r)) l:=by
 have b:rt k=k:=jD (by rw[dx];exact a);have c:B5 h k r=IW r:=if_pos (by rw[dx];exact a);simp only[mJ,b,c]
def PB {r:Option Row} {l:List (Nat×Option Row)} (b:x<1000000):mJ h ((NK x o,r)::l)=(x,(h x).map (HJ o r))::mJ (cd h x ((h x).map (HJ o r))) l:=by
 have a:x<PK:=by rw[dx];exact b
 have c:rt (NK x o)=x:=xd a;have d:B5 h (NK x o) r=(h x).map (HJ o r):=by
  unfold B5;rw[if_neg (by have:=gR x o;omega),xD o a,Fk o a]
 simp only[mJ,c,d]
def K4:IW none=none:=amh
def G9:IW (some ⟨v,ty,cs,fz,lst,false⟩)=some ⟨v,ty,cs,fz,lst,false⟩:=amh
def QQ {a:List dY} : IW (some ⟨v,ty,[.mpc a xs],fz,lst,true⟩)=some ⟨v,ty,[.mpc a xs],fz,lst,true⟩:=amh
def Wt {t:Nat} {r:Option Row} : HJ o r ⟨v,ty,[.nr t s nv cs],fz,lst,true⟩=⟨v,ty,HZ t s nv fz cs o r (cs.drop o).head?,fz,lst,true⟩:=amh
def Wy {t b:Nat} {a:List D} : HZ t s nv fz cs o (some ⟨b,t,a,fz,true,false⟩) (some (.nx n xs))=if b=nv then [.nr t s nv (putCells cs o [.nx n a])] else [.nr t s nv (putCells cs o [.und])]:=by
 by_cases c:b=nv<;>simp[HZ,Ro,c]
def lvN (x v:Nat):Option Row->Option (Row×Nat×Nat×Nat×List D)
 | some r=>if r.v=v∧r.fz=false∧r.mp=true∧x<1000000 then nrO r r.cells else none
 | none=>none
def Qn:ic h x v=lvN x v (h x):=by
 unfold ic lvN;rw[dx];cases h x<;>rfl
def abr {t:Nat} (a:x<1000000):lvN x v (some ⟨v,ty,[.nr t s nv cs],false,lst,true⟩)=some (⟨v,ty,[.nr t s nv cs],false,lst,true⟩,t,s,nv,cs):=by
 simp only[lvN,true_and,a,and_self,if_true,nrO]
def afK (τ:Ty) (x o:Nat):Option (Row×Nat×Nat×Nat×List D)->Option cw
 | some (r,ty,s,nv,cs)=>MR τ x s nv o cs (cs.drop o).head?
 | none=>none
def VZ {τ:Ty} : s5 τ h (.ptr x v o)=afK τ x o (ic h x v):=by
 simp only[s5,afK]<;>cases ic h x v<;>rfl
def KF {τ:Ty} {r:Row} {t:Nat} : afK τ x o (some (r,t,s,nv,cs))=MR τ x s nv o cs (cs.drop o).head?:=amh
def VX {a:Ds} {b:Nat} {z:List Value} {q:Bool} : MR ⟨a,1,b,z,q⟩ x s nv o cs (some (.nx n xs))=if a.vo=false then some ⟨.buf (NK x o) nv s 0 n,[]⟩ else none:=by
 simp only[MR,true_and]
def adw (τ:Ty) (o:Nat) (cs:List D):Option cw :=
 if o+τ.size<=cs.length∧((cs.drop o).take τ.size).all gH=true then okD (lI τ ((cs.drop o).take τ.size)) else none
def Qg {τ:Ty} {a:IntKind} {i:Int} : MR τ x s nv o cs (some (.int a i))=adw τ o cs:=amh
def VY {τ:Ty} {a b:Bool} : MR τ x s nv o cs (some (.sl a b n xs))=adw τ o cs:=amh
def aec (τ:Ty) (e:Nat) (h:Nat->Option Row) (x o:Nat) (d:D):Option (Row×Nat×Nat×Nat×List D)->Option cw
 | some (r,ty,s,nv,cs)=>if o+τ.size<=cs.length∧0<τ.size then I9 τ e h x r ty s nv cs o d else none
 | none=>none
def WH {τ:Ty} {d:D} : p6 τ e h (.ptr x v o) d=aec τ e h x o d (ic h x v):=by
 simp only[p6,aec]<;>cases ic h x v<;>rfl
def LM {a:Ds} {m b:Nat} {z:List Value} {q:Bool} {d:D} {r:Row} {t:Nat} (c:0<m) (f:o+m<=cs.length):aec ⟨a,m,b,z,q⟩ e h x o d (some (r,t,s,nv,cs))=I9 ⟨a,m,b,z,q⟩ e h x r t s nv cs o d:=by
 simp only[aec,c,f,and_self,if_true]
def af8 (x:Nat) (r:Row) (ty s:Nat) (cs:List D) (o y n:Nat) (b:Option Nat):Option Row->Option cw
 | some q=>if q.fz=false∧q.lst=true∧q.ty=ty∧q.cells.length=n*s then Dp x r ty s cs o y n q b else none
 | none=>none
def LN {c:Ds} {b y a:Nat} {z:List Value} {q:Bool} {r:Row} {t:Nat} (d:y<1000000):I9 ⟨c,1,b,z,q⟩ e h x r t s nv cs o (.buf y a s 0 n)=af8 x r t s cs o y n (bump nv e) (live h y a):=by
 have f:¬y=NK x o:=by have:=gR x o;rw[dx]at this;omega
 have g:y<PK:=by rw[dx];exact d
 simp only[I9,and_self,if_true,f,if_false,g]<;>cases live h y a<;>rfl
def LJ {r q:Row} {t a y:Nat} (b:q.fz=false∧q.lst=true∧q.ty=t∧q.cells.length=n*s):af8 x r t s cs o y n (some a) (some q)=some ⟨.und,[(y,none),(x,some ⟨r.v,r.ty,[.nr t s a (putCells cs o [.nx n q.cells])],false,r.lst,true⟩)]⟩:=by
 simp only[af8,b,and_self,if_true,Dp]
def R6 {τ:Ty} {r:Row} {t:Nat} : I9 τ e h x r t s nv cs o (.agg xs)=Nu τ x r t s nv cs o (some xs):=amh
def LR {τ:Ty} {r:Row} {t:Nat} {a:List D} : Nu τ x r t s nv cs o (some a)=if a.length=τ.size∧a.all gH=true then some ⟨.und,[(x,some ⟨r.v,r.ty,[.nr t s nv (putCells cs o (a.map canon))],false,r.lst,true⟩)]⟩ else none:=amh
def lk (a:nv<=4*e):bump nv e=some (4*e+1):=if_pos a
def ZU (a:nv=4*e+2):bump nv e=some (4*e+3):=by unfold bump;rw[if_neg (by omega),if_pos a]
def Rm {E:cw} {y:Option cw} : orE (some E) y=some E:=amh
def Rl {y:Option cw} : orE none y=y:=amh
def abd (τ:Ty) (x o:Nat):Option (Row×Nat×Nat×Nat×List D)->Option cw
 | some (r,ty,s,nv,cs)=>if r.lst=false∧o=0∧cs.length=τ.size∧1<τ.size∧cs.all (AO s)=true then TH x r ty s nv (pC τ.size 0 cs) (lI τ (cs.map Uu)) else none
 | none=>none
def VW {τ:Ty} : x4 τ h (.ptr x v o)=orE (abd τ x o (ic h x v)) (s5 τ h (.ptr x v o)):=by
 simp only[x4,s4]<;>cases ic h x v<;>rfl
def abe {τ:Ty} {a ty:Nat} {cells:List D} {fz mp:Bool} {t:Nat} : abd τ x o (some (⟨a,ty,cells,fz,true,mp⟩,t,s,nv,cs))=none:=by simp[abd]
def abf {τ:Ty} {a ty:Nat} {cells:List D} {fz mp:Bool} {t:Nat} : abd τ x o (some (⟨a,ty,cells,fz,false,mp⟩,t,s,nv,cs))=if o=0∧cs.length=τ.size∧1<τ.size∧cs.all (AO s)=true then TH x ⟨a,ty,cells,fz,false,mp⟩ t s nv (pC τ.size 0 cs) (lI τ (cs.map Uu)) else none:=by
 simp only[abd,true_and]
def KE {r:Row} {t:Nat} {d:D} : TH x r t s nv cs (some d)=some ⟨d,[(x,some ⟨r.v,r.ty,[.nr t s nv cs],false,r.lst,true⟩)]⟩:=amh
def acf (τ:Ty) (e x o:Nat) (d:D):Option (Row×Nat×Nat×Nat×List D)->Option cw
 | some (r,ty,s,nv,cs)=>if r.lst=false∧o=0∧cs.length=τ.size then Uc τ.size e x r ty s nv cs d else none
 | none=>none
def WD {τ:Ty} {d:D} : yc τ e h (.ptr x v o) d=orE (acf τ e x o d (ic h x v)) (p6 τ e h (.ptr x v o) d):=by
 simp only[yc,s8]<;>cases ic h x v<;>rfl
def acg {τ:Ty} {d:D} {a ty:Nat} {cells:List D} {fz mp:Bool} {t:Nat} : acf τ e x o d (some (⟨a,ty,cells,fz,true,mp⟩,t,s,nv,cs))=none:=by simp[acf]
def ach {τ:Ty} {d:D} {a ty:Nat} {cells:List D} {fz mp:Bool} {t:Nat} : acf τ e x o d (some (⟨a,ty,cells,fz,false,mp⟩,t,s,nv,cs))=if o=0∧cs.length=τ.size then Uc τ.size e x ⟨a,ty,cells,fz,false,mp⟩ t s nv cs d else none:=by
 simp only[acf,true_and]
def R9 {a t:Nat} {r:Row} : Uc a e x r t s nv cs (.agg xs)=if xs.length=a then stZ x r t s (bump nv e) (vG cs xs) else none:=amh
def R8 {r:Row} {t a:Nat} {b:List D} : stZ x r t s (some a) (some b)=some ⟨.und,[(x,some ⟨r.v,r.ty,[.nr t s a b],false,r.lst,true⟩)]⟩:=amh
def air:Option D->Option (List D)->Option (List D)
 | some y,some a=>some (y::a)
 | _,_=>none
def L2 {y:D} {a:List D} : air (some y) (some a)=some (y::a):=amh
def L3:vG [] []=some []:=amh
def Iu {c x:D} {cs xs:List D} : vG (c::cs) (x::xs)=air (Sz c x) (vG cs xs):=by
 simp only[vG];cases Sz c x<;>cases vG cs xs<;>rfl
def Xg:Sz (.nx n xs) (.sl true true 0 [])=some (.nx 0 []):=amh
def Xf {k a:IntKind} {i j:Int} : Sz (.int k i) (.int a j)=some (.int a j):=amh
def Sw {a b:D} : pC 2 0 [a,b]=[Uu a,Uu b]:=amh
def W8 {k:IntKind} {i:Int} : Uu (.int k i)=.int k i:=amh
def acD:Uu (.nx n xs)=.sl false false n xs:=amh
def Wj {k:IntKind} {i:Int} : AO s (.int k i)=true:=amh
def abK:AO s (.nx n xs)=(xs.length==n*s):=amh
end
section
variable {Γ:Env} {g d:Nat} {p:Nat×Nat×Nat}
def VD {f:Nat} {l:Bool} {G:Option (D×Row)->List D->Option (RK×Option Row)} : (Am.ext Γ f l G).nst g=Γ.nst g:=amh
def Qb:(Am.keep d Γ).nst g=Γ.nst g:=amh
def KX:bs.nst g=none:=amh
def Q1:(Am.xt d p Γ).nst g=if g=d then some p else Γ.nst g:=amh
def Hd:(Am.xt d p Γ).lends g=Γ.lends g:=amh
def Q4 {l:Option (D×Row)} {aju:List D} : (Am.xt d p Γ).sem g l aju=Γ.sem g l aju:=amh
def Q3:(Am.xt d p Γ).own g=Γ.own g:=amh
def K8:(Am.xt d p Γ).hint g=Γ.hint g:=amh
def Q0:(Am.xt d p Γ).ins g=Γ.ins g:=amh
def QZ:(Am.xt d p Γ).grw g=Γ.grw g:=amh
def aaK {f:Nat} {l:Bool} {G:Option (D×Row)->List D->Option (RK×Option Row)} : (Am.ext Γ f l G).nx=Γ.nx:=amh
def VS:(Am.keep d Γ).nx=Γ.nx:=amh
def VP {f:Nat} : (Am.GP f p Γ).nx=Γ.nx:=amh
def Wh:(Am.xt d p Γ).nx=Γ.nx:=amh
def KW:bs.nx.lnd g=none:=amh
def KZ:bs.nx.res g=none:=amh
end
section
variable {Γ:Env} {g d f:Nat} {p:Nat×(Nat->Nat->Nat->Nat->List D->List D->Option (D×List D))}
def Qq:(Am.sj f p Γ).nx.lnd g=if g=f then some p else Γ.nx.lnd g:=amh
def Qt:(Am.sj f p Γ).nx.res g=Γ.nx.res g:=amh
def GY:(Am.sj f p Γ).lends g=Γ.lends g:=amh
def Qu {l:Option (D×Row)} {aju:List D} : (Am.sj f p Γ).sem g l aju=Γ.sem g l aju:=amh
def Qs:(Am.sj f p Γ).own g=Γ.own g:=amh
def KK:(Am.sj f p Γ).hint g=Γ.hint g:=amh
def Qp:(Am.sj f p Γ).ins g=Γ.ins g:=amh
def Qo:(Am.sj f p Γ).grw g=Γ.grw g:=amh
def Qr:(Am.sj f p Γ).nst g=Γ.nst g:=amh
end
section
variable {Γ:Env} {g d f:Nat} {p:List D->Option (Nat×Nat×Nat×Nat×Nat×List D)}
def QX:(Am.B0 f p Γ).nx.res g=if g=f then some p else Γ.nx.res g:=amh
def QU:(Am.B0 f p Γ).nx.lnd g=Γ.nx.lnd g:=amh
def Hc:(Am.B0 f p Γ).lends g=Γ.lends g:=amh
def QY {l:Option (D×Row)} {aju:List D} : (Am.B0 f p Γ).sem g l aju=Γ.sem g l aju:=amh
def QW:(Am.B0 f p Γ).own g=Γ.own g:=amh
def K7:(Am.B0 f p Γ).hint g=Γ.hint g:=amh
def QT:(Am.B0 f p Γ).ins g=Γ.ins g:=amh
def QS:(Am.B0 f p Γ).grw g=Γ.grw g:=amh
def QV:(Am.B0 f p Γ).nst g=Γ.nst g:=amh
end
section
variable {Γ:Env} {h:Nat->Option Row} {e x v o g:Nat} {rest:List D}
def SU (Γ:Env) (e:Nat) (h:Nat->Option Row) (g x o:Nat) (rest:List D):Option (Row×Nat×Nat×Nat×List D)->Option cw
 | some (r,ty,s,nv,cs)=>FI e x r ty s nv cs o (Γ.nx.lnd g) (bX (EH h) rest)
 | none=>none
def JG:u9 Γ e h g (.ptr x v o::rest)=SU Γ e h g x o rest (ic h x v):=by
 simp only[u9,SU]<;>cases ic h x v<;>rfl
def DK {r:Row} {ty s nv:Nat} {cs:List D} : SU Γ e h g x o rest (some (r,ty,s,nv,cs))=FI e x r ty s nv cs o (Γ.nx.lnd g) (bX (EH h) rest):=amh
def DI {r:Row} {ty s nv:Nat} {cs aju:List D} {p:Nat×(Nat->Nat->Nat->Nat->List D->List D->Option (D×List D))} : FI e x r ty s nv cs o (some p) (some (aju,[]))=Mh x r ty s o p.1 (bump nv e) (p.2 r.ty ty s o cs aju):=amh
def DJ {r:Row} {ty s b k:Nat} {d:D} {a:List D} : Mh x r ty s o k (some b) (some (d,a))=if ((a.drop o).take k).all (AO s)=true then some ⟨d,[(x,some ⟨r.v,r.ty,[.nr ty s b (pC k o a)],false,r.lst,true⟩)]⟩ else none:=amh
end
end Go.Proofs.YtobnihfgnbnncaaGreat.Am
namespace Go.Proofs.YtobnihfgnbnncaaGreat.P
open Go.RowKit
def FU:Nat:=1000000000000000000000000
def rL {σ ρ:Type} (a:σ->Option (σ⊕ρ)):Nat->σ->Option ρ
 | 0,_=>none
 | n+1,s =>
  match a s with
  | some (.inl b)=>rL a n b
  | some (.inr r)=>some r
  | none=>none
def aS {σ ρ:Type} (a:σ->Option (σ⊕ρ)) (s:σ):Option ρ:=rL a FU s
def aa9 {σ ρ:Type} {a:σ->Option (σ⊕ρ)} (I:σ->Prop) (μ:σ->Nat) (Q:ρ->Prop)
  (b:∀s,I s->(∃c,a s=some (.inl c)∧I c∧μ c<μ s)∨(∃r,a s=some (.inr r)∧Q r)):∀(n:Nat) (s:σ),I s->μ s<n->∃r,rL a n s=some r∧Q r:=by
 intro n
 induction n with
 | zero=>intro s _ h;omega
 | succ n f =>
  intro s g k;rcases b s g with⟨c,d,e,l⟩|⟨r,d,e⟩
  ·obtain⟨r,i,j⟩:=f c e (by omega);exact⟨r,by simp only[rL,d];exact i,j⟩
  ·exact⟨r,by simp only[rL,d],e⟩
def BU {σ ρ:Type} {body:σ->Option (σ⊕ρ)} (I:σ->Prop) (μ:σ->Nat) (Q:ρ->Prop) {s:σ} (c:I s) (d:μ s<FU)
  (a:∀s,I s->(∃b,body s=some (.inl b)∧I b∧μ b<μ s)∨(∃r,body s=some (.inr r)∧Q r)):∃r,aS body s=some r∧Q r:=aa9 I μ Q a FU s c d
def idx {α:Type} (l:List α) (i:Int):Option α:=if 0<=i∧i<l.length then l[i.toNat]? else none
def Fa {α:Type} (l:List α) (a b:Int):Option (List α):=if 0<=a∧a<=b∧b<=l.length then some ((l.drop a.toNat).take (b.toNat-a.toNat)) else none
def Iv {α:Type} (bytes:Nat) (n c:Int) (z:α):Option (List α):=if 0<=n∧n<=c∧c<=maxLen∧c.toNat*bytes<=140737488355328 then some (List.replicate n.toNat z) else none
abbrev Bd (σ ρ:Type):Type:=σ->Option (σ⊕ρ)
def pE {α:Type} (bytes:Nat) (l m:List α):Option (List α):=if l.length+m.length<=maxLen∧(l.length+m.length)*bytes<=140737488355328 then some (l++m) else none
def aa6 {α:Type} (bytes:Nat) (l:List α) (i:Int) (xs:List α):Option (List α):=if 0<=i∧i<=l.length∧0<xs.length∧(l.length+xs.length)*bytes<=140737488355328 then some (l.take i.toNat++(xs++l.drop i.toNat)) else none
def aab {α:Type} (l:List α) (i j:Int):Option (List α):=if 0<=i∧i<=j∧j<=l.length∧l.length<=maxLen then some (l.take i.toNat++l.drop j.toNat) else none
def Rj {α:Type} (x:Bool×α):Option α:=if x.1=true then none else some x.2
def RY {α:Type} (x:Bool×α):Option α:=if x.1=true then some x.2 else none
def Ku {α:Type} (l:List α):List (Bool×α):=l.map fun x=>(false,x)
def XB (k:IntKind) (x y:Int):Option Int:=if y=0 then none else some (k.wrap (x.tdiv y))
def Yk (_:IntKind) (x y:Int):Option Int:=if y=0 then none else some (x.tmod y)
def I7 (k:IntKind) (x y:Int):Option Int:=if y<0 then none else some (k.wrap (x*2 ^ (min y.toNat k.bits)))
def AY (k:IntKind) (x y:Int):Option Int:=if y<0 then none else some (x.fdiv (2 ^ (min y.toNat k.bits)))
def mX (op:BinOp) (k:IntKind) (x y:Int):Int :=
 let a:=BitVec.ofInt k.bits x
 let b:=BitVec.ofInt k.bits y
 match op with
 | .and=>k.wrap (a &&& b).toNat
 | .or=>k.wrap (a ||| b).toNat
 | .xor=>k.wrap (a ^^^ b).toNat
 | _=>k.wrap (a &&& ~~~b).toNat
def gI {κ α:Type} [DecidableEq κ] (z:α):List (κ×α)->κ->α
 | [],_=>z
 | (k,v)::m,n=>if k=n then v else gI z m n
def pG {κ α:Type} [DecidableEq κ]:List (κ×α)->κ->Bool
 | [],_=>false
 | (k,_)::m,n=>k==n||pG m n
def tD {κ α:Type} [DecidableEq κ]:List (κ×α)->κ->α->List (κ×α)
 | [],n,v=>[(n,v)]
 | (k,x)::m,n,v=>if k=n then (k,v)::m else (k,x)::tD m n v
def rN (l:List Int):List Int:=l.mergeSort fun x y=>decide (x<=y)
def sD (l:List Int):(rN l).length=l.length:=List.length_mergeSort l
def LA:rN []=[]:=by simp[rN]
def ae {α β:Type} {o:Option α} {f:α->Option β} {r:β} (h:o.bind f=some r):∃a,o=some a∧f a=some r:=by
 cases o with
 | none=>cases h
 | some a=>exact⟨a,rfl,h⟩
def ag3 {α:Type} {b:Bool} {x y r:α} (a:b=true) (h:(if b=true then x else y)=r):x=r:=by rw[if_pos a]at h;exact h
def ag2 {α:Type} {b:Bool} {x y r:α} (a:b=false) (h:(if b=true then x else y)=r):y=r:=by rw[a]at h;simpa using h
def ai {a b:Prop} (x:a) (y:b):a∧b:=⟨x,y⟩
def sp {α:Type} {b:Bool} {P1 P2 Q:Prop} {x y r:α} (k:(b=true->P1)->(b=false->P2)->Q) (h:(if b=true then x else y)=r) (h1:b=true->x=r->P1) (h2:b=false->y=r->P2):Q:=k (fun a=>h1 a (ag3 a h)) fun a=>h2 a (ag2 a h)
end Go.Proofs.YtobnihfgnbnncaaGreat.P
namespace Go.Proofs.YtobnihfgnbnncaaGreat.Am
open Go.RowKit Go.Proofs.YtobnihfgnbnncaaGreat.P
structure jb (α:Type) where
 cells:α->List D
 size:Nat
 len:∀x,(cells x).length=size
 pos:0<size
 inj:∀x y,cells x=cells y->x=y
def av {α:Type} (e:jb α):List α->List D
 | []=>[]
 | x::l=>e.cells x++av e l
section
variable {α β:Type} (e:jb α)
def BI:av e []=[]:=rfl
def ck (x:α) (l:List α):av e (x::l)=e.cells x++av e l:=rfl
def ju:∀l m:List α,av e (l++m)=av e l++av e m
 | [],m=>rfl
 | x::l,m=>by rw[alh,ck,ck,ju l m,akJ]
def bT:∀l:List α,(av e l).length=l.length*e.size
 | []=>by simp[av]
 | x::l=>by rw[ck,aky,bT l,e.len,akf,ala];omega
def p7:∀(l:List α) (i:Nat),(av e l).drop (i*e.size)=av e (l.drop i)
 | l,0=>by simp
 | [],i+1=>by simp[av]
 | x::l,i+1=>by
  rw[ck,alj,<- p7 l i,ak8,e.len,ak9 (by rw[e.len,ala];omega),ak6];congr 1;rw[ala];omega
def kR:∀(l:List α) (i:Nat),(av e l).take (i*e.size)=av e (l.take i)
 | l,0=>by simp[av]
 | [],i+1=>by simp[av]
 | x::l,i+1=>by
  rw[ck,alk,ck,List.take_append,e.len,akN (by rw[e.len,ala];omega),<- kR l i];congr 2;rw[ala];omega
def yd:∀l m:List α,av e l=av e m->l=m
 | [],[],_=>rfl
 | [],y::m,h=>by
  have:=congrArg List.length h;have a:=e.pos;rw[ck,aky,e.len]at this;simp[av]at this;omega
 | x::l,[],h=>by
  have:=congrArg List.length h;have a:=e.pos;rw[ck,aky,e.len]at this;simp[av]at this;omega
 | x::l,y::m,h=>by
  rw[ck,ck]at h;obtain⟨b,c⟩:=aln h (by rw[e.len,e.len]);rw[e.inj _ _ b,yd l m c]
def Pn:∀(n:Nat) (x:α),qt n (e.cells x)=av e (List.replicate n x)
 | 0,x=>by simp[qt,av]
 | n+1,x=>by rw[akl,ck,<- Pn n x];simp[qt,List.replicate_succ]
end
def eI (k:IntKind):jb Int:=⟨fun n=>[.int k n],1,fun _=>rfl,by decide,fun x y h=>by simpa using h⟩
def afx:jb ByteArray:=⟨fun n=>[.str n],1,fun _=>rfl,by decide,fun x y h=>by simpa using h⟩
def fk {α:Type} (e:jb α):jb (List α):=⟨fun l=>[.sl false false l.length (av e l)],1,fun _=>rfl,by decide,fun x y h=>by
 simp only[ajU,D.sl.injEq,true_and,and_true]at h;exact yd e _ _ h.2⟩
def og {α β:Type} (e:jb α) (f:jb β):jb (α×β):=⟨fun x=>e.cells x.1++f.cells x.2,e.size+f.size,fun x=>by rw[aky,e.len,f.len],ajC e.pos (Nat.le_add_right _ _),fun x y h=>by
 obtain⟨a,b⟩:=aln h (by rw[e.len,e.len]);exact Prod.ext (e.inj _ _ a) (f.inj _ _ b)⟩
def BG {α β:Type} (e:jb β) (f:α->β) (hf:∀x y,f x=f y->x=y):jb α:=⟨fun x=>e.cells (f x),e.size,fun x=>e.len _,e.pos,fun x y h=>hf _ _ (e.inj _ _ h)⟩
structure Arg (α:Type) where
 d:α->D
 inj:∀x y,d x=d y->x=y
def aI (k:IntKind):Arg Int:=⟨fun n =>.int k n,fun x y h=>by simpa using h⟩
def aew:Arg Bool:=⟨fun n =>.bool n,fun x y h=>by simpa using h⟩
def ko {α:Type} (e:jb α):Arg (List α):=⟨fun l =>.sl false false l.length (av e l),fun x y h=>by
 simp only[D.sl.injEq,true_and]at h;exact yd e _ _ h.2⟩
def bV {α:Type} (e:jb α):Arg α:=⟨fun x =>.agg (e.cells x),fun x y h=>e.inj _ _ (by simpa using h)⟩
def agL (k:IntKind) (n:Int):(aI k).d n=.int k n:=amh
def UY (n:Bool):aew.d n=.bool n:=amh
def aey {α:Type} (e:jb α) (l:List α):(ko e).d l=.sl false false l.length (av e l):=amh
def Zz {α:Type} (e:jb α) (x:α):(bV e).d x=.agg (e.cells x):=amh
def By (k:IntKind) (n:Int):(eI k).cells n=[.int k n]:=amh
def Cu {α:Type} (e:jb α) (l:List α):(fk e).cells l=[.sl false false l.length (av e l)]:=amh
structure km (α:Type) where
 ds:α->List D
 inj:∀x y,ds x=ds y->x=y
def as0:km Unit:=⟨fun _=>[],fun _ _ _=>rfl⟩
def dN {α:Type} (a:Arg α):km α:=⟨fun x=>[a.d x],fun x y h=>a.inj _ _ (by simpa using h)⟩
def gG {α β:Type} (a:Arg α) (b:km β):km (α×β):=⟨fun x=>a.d x.1::b.ds x.2,fun x y h=>by
 simp only[ajU]at h;exact Prod.ext (a.inj _ _ h.1) (b.inj _ _ h.2)⟩
def er {α β:Type} (A:km α) (F:α->Option β) (R:β->RK):Option (D×Row)->List D->Option (RK×Option Row):=fun lent b =>
 match lent with
 | none=>open Classical in if h:∃a,A.ds a=b then (F (Classical.choose h)).map fun r=>(R r,none) else none
 | some _=>none
def cK {α β:Type} (A:km α) (F:α->Option β) (R:β->RK) (a:α):er A F R none (A.ds a)=(F a).map fun r=>(R r,none):=by
 have h:∃b,A.ds b=A.ds a:=⟨a,rfl⟩;simp only[er];rw[dif_pos h,A.inj _ _ (Classical.choose_spec h)]
def vr {α β:Type} {A:km α} {F:α->Option β} {R:β->RK} {lent:Option (D×Row)} {c:List D} {d:RK} {b:Option Row} (h:er A F R lent c=some (d,b)):lent=none∧b=none∧∃a r,c=A.ds a∧F a=some r∧d=R r:=by
 unfold er at h;split at h
 ·split at h
  ·rename_i f;rw[ajx]at h;obtain⟨r,g,e⟩:=h;simp only[Prod.mk.injEq]at e;obtain⟨rfl,rfl⟩:=e;exact⟨rfl,rfl,_,r,(Classical.choose_spec f).symm,g,rfl⟩
  ·cases h
 ·cases h
structure cr (P:Program) (f:FuncId) (G:Option (D×Row)->List D->Option (RK×Option Row)):Prop where
 calls:∀lent aju rk out,G lent aju=some (rk,out)->uC P f lent aju rk out
 callable:eY P f
def cr.of {P:Program} {T:Nat->Option Ty} {Γ:Env} (i:jN P T) (j:bY P Γ) (k:P.follows .mixedOrders=true) {α β:Type} {A:km α} {F:α->Option β} {R:β->RK} {d:Mode} {f:FuncId} {b:Func} (g:P.funcs[f]? = some b) (e:(match b.body with|some c=>codeOk c|none=>true)=true)
  (l:(b.name == "runtime.NumGoroutine")=false∧b.body.isNone=false) (m:∀a,(A.ds a).length<=b.ntmps) (h:∀a r,F a=some r->kM d T Γ FU b none (A.ds a)=some (R r,none)):cr P f (er A F R) where
 calls lent aju rk out n:=by
  obtain⟨rfl,rfl,a,r,rfl,o,rfl⟩:=vr n;exact lU i j k g e (m a) rfl (h a r o)
 callable:=⟨b,g,l⟩
def bY.add {P:Program} {Γ:Env} (a:bY P Γ) {f:Nat} {G:Option (D×Row)->List D->Option (RK×Option Row)} (h:cr P f G) (l:Bool):bY P (Am.ext Γ f l G):=a.ext h.calls h.callable
section
variable {T:Nat->Option Ty} {Γ:Env} {N e:Nat} {ws:List W} {Q:Kt} {t:Nat->D} {h:Nat->Option Row}
def LK {σ ρ:Type} (b:σ->(Nat->D)->(Nat->Option Row)->Nat->Prop) (a:ρ->Ex->(Nat->D)->(Nat->Option Row)->Nat->Prop) (c:σ⊕ρ):Kt:=fun x t h e =>
 match x with
 | .normal=>∃d,c=.inl d∧b d t h e
 | x=>∃o,c=.inr o∧a o x t h e
def iQ {σ ρ:Type} {a:σ->(Nat->D)->(Nat->Option Row)->Nat->Prop} {b:ρ->Ex->(Nat->D)->(Nat->Option Row)->Nat->Prop} {c:σ} (k:a c t h e):LK a b (.inl c) .normal t h e:=⟨c,rfl,k⟩
def j9 {σ ρ:Type} {b:σ->(Nat->D)->(Nat->Option Row)->Nat->Prop} {a:ρ->Ex->(Nat->D)->(Nat->Option Row)->Nat->Prop} {o:ρ} {n:Nat} (k:a o (.exit n) t h e):LK b a (.inr o) (.exit n) t h e:=⟨o,rfl,k⟩
def si {σ ρ:Type} {b:σ->(Nat->D)->(Nat->Option Row)->Nat->Prop} {a:ρ->Ex->(Nat->D)->(Nat->Option Row)->Nat->Prop} {o:ρ} (k:a o .ret t h e):LK b a (.inr o) .ret t h e:=⟨o,rfl,k⟩
def aB {σ ρ:Type} {a:σ->Option (σ⊕ρ)} {b:Code} (d:σ->(Nat->D)->(Nat->Option Row)->Nat->Prop) (f:ρ->Ex->(Nat->D)->(Nat->Option Row)->Nat->Prop) {q:σ} {j:ρ} (w:aS a q=some j) (y:d q t h e)
  (k:∀s t h e,d s t h e->∀c,a s=some c->dM T Γ N FU [.code b] (LK d f c) .normal t h e)
  (g:∀x t h e,f j x t h e->dM T Γ N FU ws Q x t h e):Ww T Γ N FU b ws Q t h e:=by
 have key:∀(n:Nat) (s:σ) (t:Nat->D) (h:Nat->Option Row) (e:Nat),d s t h e->rL a n s=some j->∃x l,iter (il T Γ N FU b) n ⟨t,h,e⟩=some (x,l)∧dM T Γ N FU ws Q x l.t l.h l.e:=by
  intro n
  induction n with
  | zero=>intro s t h e _ i;cases i
  | succ n z =>
   intro s t h e A i;simp only[rL]at i;cases r:a s with
   | none=>rw[r]at i;cases i
   | some c =>
    rw[r]at i;obtain⟨x,u,B,v⟩:=Dy _ _ _ _ _ (show NR T Γ N FU b t h e (LK d f c) from k s t h e A c r);simp only[iter,B];cases x with
    | normal =>
     obtain⟨l,rfl,p⟩:=v;exact z l u.t u.h u.e p i
    | exit m =>
     obtain⟨o,rfl,p⟩:=v;simp only[ajH]at i;subst i;exact⟨_,_,rfl,g _ _ _ _ p⟩
    | ret =>
     obtain⟨o,rfl,p⟩:=v;simp only[ajH]at i;subst i;exact⟨_,_,rfl,g _ _ _ _ p⟩
 exact key FU q t h e y w
def Ch {d:D} {g:Nat} {A B A' B':(Nat->D)->Prop} (a:UB d t g A B) (h1:∀t,A t->A' t) (h2:∀t,B t->B' t):UB d t g A' B':=by
 cases d with
 | bool b=>exact⟨fun c=>h1 _ (a.1 c),fun c=>h2 _ (a.2 c)⟩
 | _=>exact a
def Ir {d:D} {g:Nat} {A B S A' B' S':(Nat->D)->Prop} (a:wpS d t g A B S) (b:∀t,A t->A' t) (c:∀t,B t->B' t) (e:∀t,S t->S' t):wpS d t g A' B' S':=by
 unfold wpS at a ⊢;split at a
 ·exact e _ a
 ·exact Ch a b c
def Hg {α:Type} {x:Option α} {K K':α->Prop} (b:vu x K) (c:∀a,K a->K' a):vu x K':=by
 cases x with
 | none=>exact b
 | some a=>exact c a b
def Sy {ops:List Oper} {gd:Option (Nat×Bool)} {A B A' B':(Nat->D)->Prop} (b:wpG ops t gd A B) (c:∀t,A t->A' t) (d:∀t,B t->B' t):wpG ops t gd A' B':=by
 unfold wpG at b ⊢;split
 ·exact c _ b
 ·rename_i j a;refine Hg b fun g e=>Ir e ?_ ?_ d
  ·intro t f;cases a<;>simp_all
  ·intro t f;cases a<;>simp_all
def Cj {o:Oper} {K K':(Nat->D)->cw->Prop} (d:Sx T Γ e o t h K) (h1:∀t E,K t E->K' t E):Sx T Γ e o t h K':=by
 unfold Sx at d ⊢;split
 ·rename_i f;rw[f]at d;exact Ch d (fun _ h=>h1 _ _ h) (fun _ h=>h1 _ _ h)
 ·rename_i g;split at d
  ·rename_i c a b f;exact absurd f (g _ _ _)
  ·exact Hg d (fun _ h=>h1 _ _ h)
def zt {ops:List Oper} {K K':(Nat->D)->(Nat->Option Row)->Prop} (h1:∀t h,K t h->K' t h):∀(l:List Oper) (t:Nat->D) (h:Nat->Option Row),HU T Γ N e ops l t h K->HU T Γ N e ops l t h K'
 | [],t,h,hk=>h1 _ _ hk
 | o::l,t,h,hk=>by
  unfold HU at hk ⊢;exact⟨hk.1,Sy hk.2 (fun t a=>Cj a fun t E b=>zt h1 l _ _ b) (fun t a=>zt h1 l _ _ a)⟩
def zp {ops:List Oper} {K K':(Nat->D)->(Nat->Option Row)->List mL->Prop} (h1:∀t h fs,K t h fs->K' t h fs):∀(l:List Oper) (t:Nat->D) (h:Nat->Option Row) (fs:List mL),runK T Γ N e ops l t h fs K->runK T Γ N e ops l t h fs K'
 | [],t,h,fs,hk=>h1 _ _ _ hk
 | o::l,t,h,fs,hk=>by
  unfold runK at hk ⊢;exact⟨hk.1,Sy hk.2 (fun t a=>Cj a fun t E b=>zp h1 l _ _ _ b) (fun t a=>zp h1 l _ _ _ a)⟩
def acQ {ops:Array Oper} {a:Bool} {K K':(Nat->D)->(Nat->Option Row)->Prop} (b:wpR T Γ N ops a t h e K) (c:∀t h,K t h->K' t h):wpR T Γ N ops a t h e K':=by
 unfold wpR at b ⊢;cases a with
 | true=>exact zp (fun t h fs d=>⟨d.1,c _ _ d.2⟩) _ _ _ _ b
 | false=>exact zt c _ _ _ b
def Y3 {F:Nat} : ∀(c:Code) (t:Nat->D) (h:Nat->Option Row) (e:Nat) (K K':Kt),NR T Γ N F c t h e K->(∀x t h e,K x t h e->K' x t h e)->NR T Γ N F c t h e K':=by
 intro c
 induction c with
 | skip=>intro t h e K K' d hm;exact hm _ _ _ _ d
 | region i ops draw=>intro t h e K K' d hm;exact acQ d fun t h p=>hm _ _ _ _ p
 | seq a b j k =>
  intro t h e K K' d hm;refine j _ _ _ _ _ d fun x t h e f =>?_;cases x with
  | normal=>exact k _ _ _ _ _ f hm
  | exit n=>exact hm _ _ _ _ f
  | ret=>exact hm _ _ _ _ f
 | cond c x y ihx ihy =>
  intro t h e K K' d hm;unfold NR at d ⊢;cases c with
  | tmp g=>exact Ch d (fun t l=>ihx _ _ _ _ _ l hm) (fun t l=>ihy _ _ _ _ _ l hm)
  | const v =>
   cases v with
   | bool b =>
    cases b with
    | true=>exact ihx _ _ _ _ _ d hm
    | false=>exact ihy _ _ _ _ _ d hm
   | _=>exact d
  | _=>exact d
 | block id b o =>
  intro t h e K K' d hm;refine o _ _ _ _ _ d fun x t h e f =>?_;cases x with
  | normal=>exact hm _ _ _ _ f
  | ret=>exact hm _ _ _ _ f
  | exit n =>
   unfold ZR at f ⊢;simp only at f ⊢;split at f
   ·rename_i m;rw[if_pos m];exact hm _ _ _ _ f
   ·rename_i m;rw[if_neg m];exact hm _ _ _ _ f
 | loop b o =>
  intro t h e K K' d hm;obtain⟨x,s,q,r⟩:=d;exact⟨x,s,q,hm _ _ _ _ r⟩
 | exit id=>intro t h e K K' d hm;exact hm _ _ _ _ d
 | ret=>intro t h e K K' d hm;exact hm _ _ _ _ d
 | _=>intro t h e K K' d;exact d.elim
def CK {σ:Type} (J:σ->(Nat->D)->(Nat->Option Row)->Nat->Prop) (P:σ->Prop) (R:Kt):Kt:=fun x t h e =>
 match x with
 | .normal=>∃s,P s∧J s t h e
 | x=>R x t h e
def aD {σ:Type} {J:σ->(Nat->D)->(Nat->Option Row)->Nat->Prop} {P:σ->Prop} {R:Kt} : CK J P R .normal t h e = ∃s,P s∧J s t h e:=amh
end
section
variable {h:Nat->Option Row}
def JI {k:IntKind} {n:Int} : canon (.int k n)=.int k n:=amh
def JJ {b:ByteArray} : canon (.str b)=.str b:=amh
def Ox {a b:Bool} {n:Nat} {xs:List D} : canon (.sl a b n xs)=.sl false false n xs:=amh
def FJ {xs:List D} : jU (.agg xs)=.agg (xs.map canon):=amh
def clB (x s o n:Nat):Option Row->Option (D×List Nat)
 | some r=>if o+n*s<=r.cells.length then some (.sl false false n ((r.cells.drop o).take (n*s)),[x]) else none
 | none=>none
def OI {x s o n:Nat} {r:Row} : clB x s o n (some r)=if o+n*s<=r.cells.length then some (.sl false false n ((r.cells.drop o).take (n*s)),[x]) else none:=amh
def clP (x o:Nat):Option Row->Option (D×List Nat)
 | some r=>if o<=r.cells.length then some (.ip (r.cells.drop o),[x]) else none
 | none=>none
def OM {x o:Nat} {r:Row} : clP x o (some r)=if o<=r.cells.length then some (.ip (r.cells.drop o),[x]) else none:=amh
def OC {k:IntKind} {n:Int} : cR h (.int k n)=some (.int k n,[]):=amh
def JL {b:Bool} : cR h (.bool b)=some (.bool b,[]):=amh
def Vg {a b:Bool} {n:Nat} {xs:List D} : cR h (.sl a b n xs)=some (.sl false false n xs,[]):=amh
def Oz {xs:List D} : cR h (.agg xs)=some (.agg (xs.map canon),[]):=amh
def Vf {xs:List D} : cR h (.ip xs)=some (.ip xs,[]):=amh
def Ve {f:Nat} : cR h (.fn f)=some (.fn f,[]):=amh
def OA {x v s o n:Nat} : cR h (.buf x v s o n)=clB x s o n (live h x v):=by
 simp only[cR,bR,eN];cases live h x v with
 | none=>rfl
 | some r=>by_cases a:o+n*s<=r.cells.length<;>simp[clB,a,canon]
def OD {x v o:Nat} : cR h (.ptr x v o)=clP x o (live h x v):=by
 simp only[cR,bR];cases live h x v with
 | none=>rfl
 | some r=>simp only[clP]
def Z9 {k:IntKind} {n:Int} : gS h (.int k n)=some ([.int k n],[]):=amh
def aaa {b:ByteArray} : gS h (.str b)=some ([.str b],[]):=amh
def aeC {a b:Bool} {n:Nat} {xs:List D} : gS h (.sl a b n xs)=some ([.sl a b n xs],[]):=amh
def Z7 {xs:List D} : gS h (.agg xs)=some (xs,[]):=amh
def cvB:Option (D×List Nat)->Option (List D×List Nat)
 | some (d,fr)=>some ([d],fr)
 | none=>none
def OU {d:D} {fr:List Nat} : cvB (some (d,fr))=some ([d],fr):=amh
def Z8 {x v s o n:Nat} : gS h (.buf x v s o n)=cvB (clB x s o n (live h x v)):=by
 simp only[gS,eN];cases live h x v with
 | none=>rfl
 | some r=>by_cases a:o+n*s<=r.cells.length<;>simp[clB,cvB,a]
def clF (h:Nat->Option Row):Option (D×List Nat)->Option cw
 | some (d,fr)=>some ⟨d,kG h fr⟩
 | none=>none
def OK {d:D} {fr:List Nat} : clF h (some (d,fr))=some ⟨d,kG h fr⟩:=amh
def U0 {x v s o n:Nat} : oV h (.buf x v s o n)=clF h (clB x s o n (live h x v)):=by
 simp only[oV,sW,eN];cases live h x v with
 | none=>rfl
 | some r=>by_cases a:o+n*s<=r.cells.length<;>simp[clB,clF,a,canon,jU]
variable {Γ:Env} {f g e:Nat} {l:Bool} {G:Option (D×Row)->List D->Option (RK×Option Row)} {lent:Option (D×Row)} {aju:List D} {dst:Option Nat} {fr:List Nat}
def Ko:(Am.ext Γ f l G).lends g=if g=f then l else Γ.lends g:=amh
def VG:(Am.ext Γ f l G).sem g lent aju=if g=f then G lent aju else Γ.sem g lent aju:=amh
def VF {d:Nat} : (Am.ext Γ f l G).own d=Γ.own d:=amh
def KY {d:Nat} : bs.own d=true:=amh
def Qc {d i:Nat} : (Am.keep d Γ).own i=(i != d&&Γ.own i):=amh
def GR {d i:Nat} : (Am.keep d Γ).lends i=Γ.lends i:=amh
def Qd {d i:Nat} : (Am.keep d Γ).sem i lent aju=Γ.sem i lent aju:=amh
def Ey (b:Bool) (Γ:Env) (h:Nat->Option Row) (e:Nat) (dst:Option Nat) (g:Nat) (a:List D):Option cw :=
 if b then
  match a with
  | .buf x v s o n::rest=>sU Γ h e dst g x v (.buf 0 0 s o n) rest
  | .ptr x v o::rest=>sU Γ h e dst g x v (.ptr 0 0 o) rest
  | .mp x v::rest=>sU Γ h e dst g x v (.mp 0 0) rest
  | _=>none
 else xI Γ h e dst g a
def ada (p:Option (Nat×Nat×Nat)) (Γ:Env) (h:Nat->Option Row) (e:Nat) (dst:Option Nat) (g:Nat) (a:List D):Option cw :=
 match p with
 | some p=>wX h e dst p a
 | none =>
  match Γ.grw g with
  | some p=>zO h p a
  | none=>Ey (Γ.lends g) Γ h e dst g a
def agU (p:Option Grow) (Γ:Env) (h:Nat->Option Row) (e:Nat) (dst:Option Nat) (g:Nat) (a:List D):Option cw :=
 match p with
 | some p=>zO h p a
 | none=>Ey (Γ.lends g) Γ h e dst g a
def JB {a:List D} : ada none Γ h e dst g a=agU (Γ.grw g) Γ h e dst g a:=amh
def JA {a:List D} : agU none Γ h e dst g a=Ey (Γ.lends g) Γ h e dst g a:=amh
def VB {f:Nat} {l:Bool} {G:Option (D×Row)->List D->Option (RK×Option Row)} : (Am.ext Γ f l G).grw g=Γ.grw g:=amh
def P9 {d:Nat} : (Am.keep d Γ).grw g=Γ.grw g:=amh
def P4 {f:Nat} {p:Nat×Nat×Nat} : (Am.GP f p Γ).grw g=Γ.grw g:=amh
def KU:bs.grw g=none:=amh
def JC {p:Nat×Nat×Nat} {a:List D} : ada (some p) Γ h e dst g a=wX h e dst p a:=amh
def VC {f:Nat} {l:Bool} {G:Option (D×Row)->List D->Option (RK×Option Row)} : (Am.ext Γ f l G).ins g=Γ.ins g:=amh
def Qa {d:Nat} : (Am.keep d Γ).ins g=Γ.ins g:=amh
def KV:bs.ins g=none:=amh
def P5 {f:Nat} {p:Nat×Nat×Nat} : (Am.GP f p Γ).ins g=if g=f then some p else Γ.ins g:=amh
def GQ {f:Nat} {p:Nat×Nat×Nat} : (Am.GP f p Γ).lends g=Γ.lends g:=amh
def P7 {f:Nat} {p:Nat×Nat×Nat} {l:Option (D×Row)} {aju:List D} : (Am.GP f p Γ).sem g l aju=Γ.sem g l aju:=amh
def P6 {f:Nat} {p:Nat×Nat×Nat} {d:Nat} : (Am.GP f p Γ).own d=Γ.own d:=amh
def ZW (ty k b x y s c o f n m:Nat) (i:Int) (e:Nat) (d:Nat):Option Row->Option Row->Option cw
 | some r,some a =>
   if r.fz=false∧a.fz=false∧r.lst=true∧a.lst=true∧x≠y∧s=k∧c=k∧r.ty=ty∧a.ty=ty∧o=0∧f=0∧r.cells.length=n*k∧a.cells.length=m*k∧0<=i∧i<=n∧0<m∧(n+m)*b<=140737488355328 then
    some ⟨.buf d e k 0 (n+m),[(y,none),(x,none),(d,some ⟨e,ty,r.cells.take (i.toNat*k)++(a.cells++r.cells.drop (i.toNat*k)),false,true,false⟩)]⟩
   else none
 | _,_=>none
def Va {ty k a x v s o n y b c f m d:Nat} {i:Int} : wX h e (some d) (ty,k,a) [.buf x v s o n,.int .i64 i,.buf y b c f m]=ZW ty k a x y s c o f n m i e d (live h x v) (live h y b):=by
 simp only[wX,ZW];cases live h x v with
 | none=>rfl
 | some r=>cases live h y b<;>rfl
def FC {ty k b x y s c o f n m : Nat} {i : Int} {d : Nat} {r a : Row} : ZW ty k b x y s c o f n m i e d (some r) (some a) = if r.fz = false ∧ a.fz = false ∧ r.lst = true ∧ a.lst = true ∧ x ≠ y ∧ s = k ∧ c = k ∧ r.ty = ty ∧ a.ty = ty ∧ o = 0 ∧ f = 0 ∧ r.cells.length = n * k ∧ a.cells.length = m * k ∧ 0 <= i ∧ i <= n ∧ 0 < m ∧ (n + m) * b <= 140737488355328 then
        some ⟨.buf d e k 0 (n + m), [(y, none), (x, none), (d, some ⟨e, ty, r.cells.take (i.toNat * k) ++ (a.cells ++ r.cells.drop (i.toNat * k)), false, true, false⟩)]⟩
      else none := Eq.trans rfl rfl
def Vc {a:List D} : jQ Γ h e dst (.fn g) a=ada (Γ.ins g) Γ h e dst g a:=by
 simp only[jQ,ada,Ey];cases Γ.ins g with
 | none=>cases Γ.grw g<;>rfl
 | some p=>rfl
def Xs (h:Nat->Option Row) (e:Nat) (dst:Option Nat) (fr:List Nat):Option (RK×Option Row)->Option cw
 | some (.clean r,_)=>some ⟨r,if j0 r then [] else kG h fr⟩
 | some (.fresh ty s n cells,_) =>
  match dst with
  | some d=>if fr.contains d=false then some ⟨.buf d e s 0 n,(if td cells then [] else kG h fr)++[(d,some ⟨e,ty,cells,false,true,false⟩)]⟩ else none
  | none=>none
 | _=>none
def ac9 (Γ:Env) (h:Nat->Option Row) (e:Nat) (dst:Option Nat) (g:Nat):Option (List D×List Nat)->Option cw
 | some (aju,fr)=>Xs h e dst fr (Γ.sem g none aju)
 | none=>none
def JD {a:List D} : Ey false Γ h e dst g a=ac9 Γ h e dst g (bX h a):=by
 simp only[Ey,aj4,if_false,xI,ac9];cases bX h a with
 | none=>rfl
 | some p =>
  obtain⟨aju,fr⟩:=p;simp only;cases c:Γ.sem g none aju with
  | none=>rfl
  | some q =>
   obtain⟨b,o⟩:=q;cases b<;>rfl
def Jz:ac9 Γ h e dst g (some (aju,fr))=Xs h e dst fr (Γ.sem g none aju):=amh
def aaR (h:Nat->Option Row) (fr:List Nat):Bool->List (Nat×Option Row)
 | true=>[]
 | false=>kG h fr
def KB:aaR h fr true=[]:=amh
def Gt:aaR h fr false=kG h fr:=amh
def PG {b:Bool} : aaR h [] b=[]:=by cases b<;>rfl
def FF {r:D} {o:Option Row} : Xs h e dst fr (some (.clean r,o))=some ⟨r,aaR h fr (j0 r)⟩:=by
 simp only[Xs]<;>cases j0 r<;>rfl
def VI:kG h []=[]:=amh
def PH {x:Nat} : kG h (x::fr)=(x,(h x).map xm)::kG h fr:=amh
def JM:bX h []=some ([],[]):=amh
def caC (p:Option (D×List Nat)) (q:Option (List D×List Nat)):Option (List D×List Nat) :=
 match p,q with
 | some (c,fr),some (a,b)=>some (c::a,fr++b)
 | _,_=>none
def Of {d:D} {fr a:List Nat} {b:List D} : caC (some (d,fr)) (some (b,a))=some (d::b,fr++a):=amh
def FK {d:D} {a:List D} : bX h (d::a)=caC (cR h d) (bX h a):=by
 simp only[bX];cases cR h d with
 | none=>rfl
 | some p=>cases bX h a<;>rfl
variable {T:Nat->Option Ty} {s:St} {rs:List ResultVar} {r:ResultVar}
def RA:xx T s []=some ([],[]):=amh
def Ll:xx T s (r::rs)=caC (Ry T s r) (xx T s rs):=by
 simp only[xx];cases Ry T s r with
 | none=>rfl
 | some p=>cases xx T s rs<;>rfl
def Rz {t:Nat->D} {i:Nat} : Ry T ⟨t,h,e⟩ (.tmp i)=cR h (t i):=amh
def afZ (T:Nat->Option Ty) (h:Nat->Option Row) (d:D) (τ:Option Ty):Option (D×List Nat) :=
 match τ,d with
 | some τ,.ptr x v o=>match fK τ h (.ptr x v o) with|some E=>some (jU E.val,[])|none=>none
 | _,_=>none
def Lj {t:Nat->D} {i ty:Nat} : Ry T ⟨t,h,e⟩ (.cell i ty)=afZ T h (t i) (T ty):=amh
def af0:Option cw->Option (D×List Nat)
 | some E=>some (jU E.val,[])
 | none=>none
def Lk {d:D} {w:List (Nat×Option Row)} : af0 (some ⟨d,w⟩)=some (jU d,[]):=amh
def Rx {τ:Ty} {x v o:Nat} : afZ T h (.ptr x v o) (some τ)=af0 (fK τ h (.ptr x v o)):=by
 simp only[afZ,af0]
def afz (p:Option (List D×List Nat)):Option (RK×Option Row) :=
 match p with
 | some (ds,_)=>some (.clean (nX ds),none)
 | none=>none
def Ka {a:List D} {fr:List Nat} : afz (some (a,fr))=some (.clean (nX a),none):=amh
def Gi:gu .clean T none rs s=afz (xx T s rs):=by
 simp only[gu,s9,nI,abJ,afz]<;>cases xx T s rs<;>rfl
def FG {ty a n d:Nat} {cells:List D} {o:Option Row} : Xs h e (some d) fr (some (.fresh ty a n cells,o))=if fr.contains d=false then some ⟨.buf d e a 0 n,aaR h fr (td cells)++[(d,some ⟨e,ty,cells,false,true,false⟩)]⟩ else none:=by
 simp only[Xs]<;>cases td cells<;>rfl
def Cw {k:IntKind} : ∀l:List Int,td (av (eI k) l)=true
 | []=>rfl
 | x::l=>by
  have:=Cw (k:=k) l;simp only[ck,By,List.cons_append,List.nil_append,td,j0,this,Bool.and_self]
def Gj {ty a i:Nat} {t:Nat->D} : gu (.fresh ty a) T none [.tmp i] ⟨t,h,e⟩=sA ty a h (t i):=amh
def Vs {ty a x v o n:Nat} : sA ty a h (.buf x v a o n)=zg ty a o n (live h x v):=by simp[sA]
def Ph {ty a o n:Nat} {r:Row} : zg ty a o n (some r)=if r.fz=false∧r.ty=ty∧o+n*a<=r.cells.length then some (.fresh ty a n ((r.cells.drop o).take (n*a)),none) else none:=amh
def HN {d:D} : nX [d]=d:=amh
def HO {d a:D} {b:List D} : nX (d::a::b)=.tup (d::a::b):=amh
end
def Vr (k:IntKind):(eI k).size=1:=amh
def Pg {α:Type} (e:jb α):(fk e).size=1:=amh
section
variable {α:Type} (E:jb α) {l m:List α} {x x' z:α} {i a b n c:Int} {B:Nat}
def tp (h:P.idx l i=some x):0<=i∧i<l.length:=by
 unfold P.idx at h;split at h
 ·assumption
 ·cases h
def MM (h:P.idx l i=some x):l[i.toNat]? = some x:=by
 unfold P.idx at h;split at h
 ·exact h
 ·cases h
def zi (h:P.idx l i=some x):(av E l).drop (i.toNat*E.size)=E.cells x++av E (l.drop (i.toNat+1)):=by
 have h':=MM h;obtain⟨a,rfl⟩:=ajZ.1 h';rw[p7,alo a];rfl
def lG (a:Nat) (h:P.idx l i=some x):(av E l).drop (i.toNat*E.size+a)=(E.cells x++av E (l.drop (i.toNat+1))).drop a:=by
 rw[<- alc,zi E h]
def lp (h:P.idx l i=some x):i.toNat*E.size+E.size<=l.length*E.size:=by
 have h':=tp h;have:i.toNat+1<=l.length:=by omega
 have:=akd E.size this
 rwa [ala]at this
def bn (h:P.idx l i=some x):(0<=i∧i<l.length)∧(av E l).drop (i.toNat*E.size)=E.cells x++av E (l.drop (i.toNat+1))∧i.toNat*E.size+E.size<=l.length*E.size:=⟨tp h,zi E h,lp E h⟩
def kH (a s:Nat) (b:a+s<=E.size) (h:P.idx l i=some x):i.toNat*E.size+a+s<=l.length*E.size:=by
 have:=lp E h;omega
def T5:∀(l:List α) (i:Nat) (x:α),l[i]? = some x->∀x',av E (l.set i x')=(av E l).take (i*E.size)++E.cells x'++(av E l).drop (i*E.size+E.size)
 | [],i,x,h,x'=>by simp at h
 | y::l,0,x,h,x'=>by
  rw[List.set_cons_zero,ck,ck,ale,alp,ak6,akw,ak8,E.len,akB,akO,ak9 (by rw[E.len];exact ajz _),ak6]
 | y::l,i+1,x,h,x'=>by
  have b:=T5 l i x (by simpa using h) x';rw[List.set_cons_succ,ck,ck,b,ala];have a:=E.len y;have c:(E.cells y++av E l).take (i*E.size+E.size)=E.cells y++(av E l).take (i*E.size):=by rw[List.take_append,a,akN (by omega),alb]
  have d:(E.cells y++av E l).drop (i*E.size+E.size+E.size)=(av E l).drop (i*E.size+E.size):=by
   rw[ak8,a,ak9 (by omega),ak6,alb]
  rw[c,d];simp only[akJ]
def fL (fo:Nat) (cs:List D) (h:P.idx l i=some x) (d:E.cells x'=putCells (E.cells x) fo cs) (e:fo+cs.length<=E.size):putCells (av E l) (i.toNat*E.size+fo) cs=av E (l.set i.toNat x'):=by
 have h':=MM h;rw[T5 E l i.toNat x h' x',d];have b:=zi E h;have o:=lp E h;have q:=bT E l;have f:=E.len x;have a:av E l=(av E l).take (i.toNat*E.size)++(E.cells x++(av E l).drop (i.toNat*E.size+E.size)):=by
  have g:=ald (i.toNat*E.size) (av E l);have j:(av E l).drop (i.toNat*E.size+E.size)=av E (l.drop (i.toNat+1)):=by
   rw[<- alc,b,ak8,f,akB,akO,ak9 (by omega),ak6]
  rw[j,<- b,g]
 generalize (av E l).drop (i.toNat*E.size+E.size)=r at *;generalize k:(av E l).take (i.toNat*E.size)=p at *;have c:p.length=i.toNat*E.size:=by rw[<- k];simp;omega
 unfold putCells;rw[a];have m:(p++(E.cells x++r)).take (i.toNat*E.size+fo)=p++(E.cells x).take fo:=by
  rw[List.take_append,c,akN (by omega),akL,akM (by omega)]
 have n:(p++(E.cells x++r)).drop (i.toNat*E.size+fo+cs.length)=(E.cells x).drop (fo+cs.length)++r:=by
  rw[ajR,ak8,c,ak9 (by omega),akL,ak6,akK (by omega)]
 rw[m,n];simp only[akJ]
def abT (h:P.idx l i=some x):putCells (av E l) (i.toNat*E.size) (E.cells x')=av E (l.set i.toNat x'):=by
 have:=fL E (x':=x') 0 (E.cells x') h (by unfold putCells;simp[E.len]) (by rw[E.len];omega);simpa using this
def abC (h:Iv B n c z=some m):m=List.replicate n.toNat z∧0<=n∧n<=c∧c<=maxLen∧c.toNat*B<=140737488355328:=by
 unfold Iv at h;split at h
 ·cases h;exact⟨rfl,by assumption⟩
 ·cases h
def mk_one (h:Iv B n n z=some m):0<=n∧n.toNat=m.length∧m.length<=maxLen∧qt m.length (E.cells z)=av E m∧m.length*B<=140737488355328:=by
 obtain⟨rfl,a,_,c,b⟩:=abC h;refine⟨a,by simp,by simp;omega,by rw[Pn];simp,by simpa using b⟩
def Dl (h:Fa l a b=some m):0<=a∧0<=b∧a.toNat<=b.toNat∧b.toNat<=l.length∧b.toNat-a.toNat=m.length∧(List.take (m.length*E.size) (List.drop (a.toNat*E.size) (av E l))=av E m):=by
 unfold Fa at h;split at h
 ·rename_i d;cases h;have c:((l.drop a.toNat).take (b.toNat-a.toNat)).length=b.toNat-a.toNat:=by simp;omega
  refine⟨d.1,by omega,by omega,by omega,c.symm,?_⟩;rw[c,p7,kR]
 ·cases h
def af6 (h:Fa l a b=some m):0<=a∧0<=b∧(a.toNat<=b.toNat∧b.toNat<=l.length)∧b.toNat-a.toNat=m.length∧(List.take (m.length*E.size) (List.drop (a.toNat*E.size) (av E l))=av E m):=by
 obtain⟨c,d,e,f,g,i⟩:=Dl E h;exact⟨c,d,⟨e,f⟩,g,i⟩
def ab5 (h:Fa l a (l.length:Int)=some m):0<=a∧0<=a∧a.toNat<=l.length∧l.length-a.toNat=m.length∧(List.take (m.length*E.size) (List.drop (a.toNat*E.size) (av E l))=av E m):=by
 obtain⟨b,f,c,g,d,e⟩:=Dl E h;simp only[Int.toNat_natCast]at c d;exact⟨b,b,c,d,e⟩
def T8 (h:Fa l 0 b=some m):0<=b∧0<=b∧m.length<=l.length∧b.toNat=m.length∧(List.take (m.length*E.size) (av E l)=av E m):=by
 obtain⟨f,c,g,i,d,e⟩:=Dl E h;have a:b.toNat=m.length:=by simpa using d
 refine⟨c,c,by omega,a,by simpa using e⟩
def Jl {n:List α} (h:pE B l m=some n):n=l++m∧n.length<=maxLen∧n.length*B<=140737488355328:=by
 unfold pE at h;split at h
 ·rename_i a;cases h;exact⟨rfl,by rw[aky];exact a.1,by rw[aky];exact a.2⟩
 ·cases h
def lj {n:List α} (h:pE B l [x]=some n):l.length+1=n.length∧av E l++E.cells x=av E n∧n.length<=maxLen∧n.length*B<=140737488355328:=by
 obtain⟨rfl,a,b⟩:=Jl h;exact⟨by simp,by rw[ju];simp[av],a,b⟩
def y5 {n:List α} (h:pE B [] l=some n):n=l∧l.length<=maxLen∧l.length*B<=140737488355328:=by
 obtain⟨rfl,a,b⟩:=Jl h;exact⟨rfl,a,b⟩
end
def Vl {k:IntKind} {x y z:Int} (h:XB k x y=some z):¬y=0∧k.wrap (x.tdiv y)=z:=by
 unfold XB at h;split at h
 ·cases h
 ·cases h;exact⟨by assumption,rfl⟩
def Wc {k:IntKind} {x y z:Int} (h:Yk k x y=some z):¬y=0∧x.tmod y=z:=by
 unfold Yk at h;split at h
 ·cases h
 ·cases h;exact⟨by assumption,rfl⟩
def E8 {k:IntKind} {x y z:Int} (h:I7 k x y=some z):¬y<0∧k.wrap (x*2 ^ (min y.toNat k.bits))=z:=by
 unfold I7 at h;split at h
 ·cases h
 ·cases h;exact⟨by assumption,rfl⟩
def wP {k:IntKind} {x y z:Int} (h:AY k x y=some z):¬y<0∧x.fdiv (2 ^ (min y.toNat k.bits))=z:=by
 unfold AY at h;split at h
 ·cases h
 ·cases h;exact⟨by assumption,rfl⟩
def U7 (op:BinOp) (k:IntKind) (x y:Int):FB op k x y=mX op k x y:=amh
def uC.emp {P:Program} {f:FuncId} {i:RK} {a:Option Row} (v:uC P f none [.sl true true 0 []] i a) (x:uC P f none [.sl true false 0 []] i a):uC P f none [.sl false false 0 []] i a:=by
 intro w M vs k b;have l:=b.2 0 _ rfl;generalize m:vs.getD 0 undef=u at l;cases l with
 | sl A c nl tight n xs o p q y g z r s t =>
  cases A with
  | none =>
   refine v w M vs k ⟨b.1,fun j d e =>?_,b.tab⟩;cases j with
   | zero=>cases e;rw[m];exact .sl none c true true 0 [] o p q (fun _=>⟨fun _=>⟨rfl,(g rfl).2⟩,fun h=>by cases h⟩) g (fun _=>(g rfl).2) r s t
   | succ j=>simp at e
  | some A =>
   refine x w M vs k ⟨b.1,fun j d e =>?_,b.tab⟩;cases j with
   | zero=>cases e;rw[m];exact .sl (some A) c true false 0 [] o p q (fun _=>⟨(fun h=>by cases h),fun _ h=>by cases h⟩) g (fun h=>by cases h) r s t
   | succ j=>simp at e
def cr.aeY {P:Program} {T:Nat->Option Ty} {Γ:Env} (e:jN P T) (g:bY P Γ) (h:P.follows .mixedOrders=true) {α β:Type} {E:jb α} {F:List α->Option β} {R:β->RK} {mode:Mode} {f:FuncId} {a:Func} (d:P.funcs[f]? = some a) (b:(match a.body with|some c=>codeOk c|none=>true)=true)
  (k:(a.name == "runtime.NumGoroutine")=false∧a.body.isNone=false) (i:1<=a.ntmps)
  (m:∀r,F []=some r->kM mode T Γ FU a none [.sl true true 0 []]=some (R r,none))
  (n:∀r,F []=some r->kM mode T Γ FU a none [.sl true false 0 []]=some (R r,none))
  (o:∀l r,0<l.length->F l=some r->kM mode T Γ FU a none [.sl false false l.length (av E l)]=some (R r,none)):cr P f (er (dN (ko E)) F R) where
 calls lent aju rk out p:=by
  obtain⟨rfl,rfl,l,r,rfl,j,rfl⟩:=vr p;cases l with
  | nil=>exact uC.emp (lU e g h d b i rfl (m r j)) (lU e g h d b i rfl (n r j))
  | cons x l=>exact lU e g h d b i rfl (o (x::l) r (by simp) j)
 callable:=⟨a,d,k⟩
def adt {α:Type} (E:jb α) {B:Nat} {l n:List α} {i:Int} {x:α} (h:aa6 B l i [x]=some n):0<=i∧i<=(l.length:Int)∧l.length+1=n.length∧n.length*B<=140737488355328 ∧
  (av E l).take (i.toNat*E.size)++(E.cells x++(av E l).drop (i.toNat*E.size))=av E n:=by
 unfold aa6 at h;split at h
 ·rename_i b;cases h;obtain⟨c,d,-,e⟩:=b;have a:l.length+1=(l.take i.toNat++([x]++l.drop i.toNat)).length:=by simp;omega
  refine⟨c,d,a,by rw[<- a];exact e,?_⟩;rw[ju,ju,kR,p7];simp[av]
 ·cases h
def SJ {w:World} {M:Nat->Prop} {k:IntKind} {n:Int} {u:Value} (h:RP w M (.int k n) u):u=.int k n:=by cases h;rfl
def acH {vs:Array Value} (h:vs.size=1):vs = #[vs.getD 0 undef]:=by
 apply akD
 ·simp[h]
 ·intro i a b;have:i=0:=by omega
  subst this;simp[akC a]
def iC (b:Nat) {ty:Nat} {fr:Nat×Nat} : ∀(vs:List Value) (o:Nat) (w:World) (a:Array Value),w.heap[b]? = some (.cells a ty fr)->o+vs.length<=a.size ->
  (w.setCells b o vs).os=w.os∧(w.setCells b o vs).tape=w.tape∧(w.setCells b o vs).output=w.output∧(w.setCells b o vs).heap.size=w.heap.size∧(∀k,k≠b->(w.setCells b o vs).heap[k]? = w.heap[k]?) ∧
  ∃c,(w.setCells b o vs).heap[b]? = some (.cells c ty fr)∧c.size=a.size∧∀j,c[j]? = if o<=j∧j<o+vs.length then vs[j-o]? else a[j]?
 | [],o,w,a,h,_=>⟨rfl,rfl,rfl,rfl,fun k _=>rfl,a,h,rfl,fun j=>by rw[if_neg (by simp)]⟩
 | v::r,o,w,a,h,g=>by
  simp only[List.length_cons]at g;have d:(w.setCell ⟨b,o,none⟩ v).heap[b]? = some (.cells (a.setIfInBounds o v) ty fr):=by
   simp[World.setCell,ajI,h]
  obtain⟨i,l,m,n,p,c,q,s,t⟩:=iC b r (o+1) (w.setCell ⟨b,o,none⟩ v) _ d (by simp;omega);refine⟨i,l,m,n.trans (by simp[World.setCell]),fun k e=>(p k e).trans (by simp[World.setCell,ajI,Ne.symm e]),c,q,by simpa using s,fun j =>?_⟩;rw[t j,alq];simp only[List.length_cons]
  by_cases d:o+1<=j∧j<o+1+r.length
  ·rw[if_pos d,if_pos (by omega)];have:j-o=(j-(o+1))+1:=by omega
   rw[this,akv]
  ·rw[if_neg d]
   by_cases f:o=j
   ·subst f;rw[if_pos rfl,if_pos (by omega),if_pos (by omega),akB];rfl
   ·rw[if_neg f,if_neg (by omega)]
def vm1:=ai @Lt<|ai @RG<|ai @RF<|ai @Lr<|ai @HV<|ai @Ls<|ai @a8<|ai @yF<|ai @xe<|ai @bf<|ai @z8<|ai @Em<|ai @HX<|ai @Lq<|ai @LX<|ai @Ie<|ai @RD<|ai @Lo<|ai @HS<|ai @LY<|ai @Ig<|ai @Ih<|ai @Et<|ai @RE<|ai @Lp<|ai @HT<|ai @LZ<|ai @Ii<|ai @Ij<|ai @Eu<|ai @R3<|ai @R7<|ai @WG<|ai @WJ<|ai @HG<|ai @Ei<|ai @HH<|ai @Ej<|ai @O1<|ai @O7<|ai @O0<|ai @O6<|ai @FR<|ai @FV<|ai @JU<|ai @J1<|ai @O2<|ai @O8<|ai @OY<|@O4
def vm2:=ai @JZ<|ai @J4<|ai @Bu<|ai @Bw<|ai @zP<|ai @zT<|ai @zQ<|ai @zU<|ai @JW<|ai @JX<|ai @JV<|ai @J2<|ai @xR<|ai @xS<|ai @zR<|ai @zV<|ai @JT<|ai @J0<|ai @Vm<|ai @DP<|ai @DQ<|ai @DT<|ai @OX<|ai @O3<|ai @DO<|ai @DS<|ai @Q5<|ai @Rh<|ai @Jv<|ai @DD<|ai @JP<|ai @Pv<|ai @F2<|ai @F1<|ai @GL<|ai @GK<|ai @cB<|ai @D3<|ai @cL<|ai @Xa<|ai @Jn<|ai @Jm<|@Kr
def vm3:=ai @Ks<|ai @Ep<|ai @Ic<|ai @Ib<|ai @Es<|ai @yL<|ai @xg<|ai @xh<|ai @xi<|ai @Eo<|ai @Ac<|ai @Er<|ai @vD<|ai @Ia<|ai @Ab<|ai @Cf<|ai @Wg<|ai @QP<|ai @Li<|ai @Lh<|ai @KG<|ai @U3<|ai @Ob<|ai @ZQ<|ai @EZ<|ai @U2<|ai @Jq<|ai @Fx<|ai @U4<|ai @Jr<|ai @JI<|ai @JJ<|ai @Ox<|ai @FJ<|@OI
def vm4:=ai @OM<|ai @OC<|ai @JL<|ai @Vg<|ai @Oz<|ai @Vf<|ai @Ve<|ai @OA<|ai @OD<|ai @Z9<|ai @aaa<|ai @aeC<|ai @Z7<|ai @Z8<|ai @OU<|ai @Ko<|ai @VG<|ai @Vc<|ai @JD<|ai @Jz<|ai @FF<|ai @KB<|ai @Gt<|ai @PG<|ai @VI<|ai @PH<|ai @JM<|ai @FK<|ai @Of<|ai @RA<|ai @Ll<|ai @Rz<|ai @Lj<|ai @Rx<|ai @Lk<|ai @Gi<|ai @Ka<|ai @FG<|ai @Cw<|ai @Gj<|ai @Vs<|ai @Ph<|ai @HN<|ai @HO<|ai @U7<|ai @BI<|@ck
def vmk:=ai @Sj<|@Sk
def vmc:=ai @true_and<|ai @and_true<|ai @aj4<|ai @ajE<|ai @akg<|ai @alj<|ai @akO<|ai @alk<|ai @alp<|ai @akf<|ai @akz<|ai @List.contains_nil.{0}<|ai @ak6<|ai @alh<|ai @alg<|ai @ajW<|ai @akv<|ai @decide_true<|ai @beq_self_eq_true.{0}<|ai @List.isEmpty_nil.{0}<|ai @List.isEmpty_cons.{0}<|ai @Option.map_none.{0,0}<|ai @ajG<|ai @List.all_cons.{0}<|ai @List.all_nil.{0}<|ai @alr<|ai @Bool.and_true<|ai @akQ<|ai @als<|ai @Bool.and_self<|ai @and_self<|ai @akw<|ai @aj5<|ai @ale<|ai @Nat.sub_zero<|ai @ajA<|ai @ajz<|ai @ajH<|ai @alu<|ai @Bool.or_self<|@alv
def vm5:=ai @HW<|ai @aeA<|ai @Js<|ai @Fy<|ai @ZB<|ai @U0<|ai @OK<|ai @VF<|ai @KY<|ai @Qc<|ai @GR<|@Qd
def vmu:=ai @AN.eq_1<|ai @AN.eq_2<|ai @ev.eq_1<|ai @ev.eq_2<|ai @ev.eq_4<|ai @qH.eq_1<|ai @qH.eq_2<|ai @qH.eq_3<|ai @qH.eq_4<|ai @fQ.eq_1<|ai @fQ.eq_2<|ai @FA.eq_1<|ai @FA.eq_3<|ai @nH.eq_1<|ai @nH.eq_2<|ai @nH.eq_3<|ai @jI.eq_1<|ai @jI.eq_2<|ai @jI.eq_3<|ai @jI.eq_4<|ai @jI.eq_5<|ai @jI.eq_6<|ai @jI.eq_7<|ai @jI.eq_10<|ai @jI.eq_11<|ai @jI.eq_12<|ai @jI.eq_13<|ai @jI.eq_14<|ai @jI.eq_15<|ai @YS.eq_1<|ai @YS.eq_4<|ai @adL.eq_1<|ai @aV.eq_1<|ai @aV.eq_2<|ai @gU.eq_1<|ai @gU.eq_3<|ai @fK.eq_1<|ai @fK.eq_2<|ai @live.eq_1<|ai @lI.eq_1<|ai @lI.eq_2<|ai @Ds.vo.eq_1<|ai @Ds.vo.eq_3<|ai @eB.eq_1<|ai @eB.eq_2<|ai @eB.eq_4<|ai @eB.eq_5<|ai @j0.eq_1<|ai @j0.eq_2<|ai @j0.eq_4<|ai @j0.eq_5<|ai @j0.eq_6<|ai @td.eq_1<|ai @td.eq_2<|ai @EI.eq_2<|ai @EI.eq_3<|ai @EI.eq_4<|ai @alive.eq_3<|ai @nm.eq_2<|ai @jR.eq_1<|ai @jR.eq_5<|ai @jR.eq_6<|ai @iP.eq_1<|ai @uq.eq_1<|ai @p5.eq_1<|ai @cX.eq_1<|ai @cX.eq_2<|ai @nd.eq_1<|ai @iN.eq_3<|ai @iM.eq_1<|ai @kj.eq_1<|ai @kj.eq_2<|ai @fieldAt.eq_1<|ai @fb.eq_1<|ai @ud.eq_1<|ai @kQ.eq_1<|ai @content.eq_1<|ai @content.eq_2<|ai @putCells.eq_1<|ai @eqD.eq_1<|ai @eqD.eq_2<|ai @AX.eq_1<|ai @AX.eq_2<|ai @bA.eq_1<|ai @bA.eq_3<|ai @bA.eq_4<|ai @tv.eq_1<|ai @Ai.eq_2<|ai @Ai.eq_3<|@Ai.eq_4
def aij:=ai @JB<|ai @JA<|ai @VB<|ai @P9<|ai @P4<|ai @KU<|ai @JC<|ai @VC<|ai @Qa<|ai @KV<|ai @P5<|ai @GQ<|ai @P7<|ai @P6<|ai @Va<|@FC
section
variable {T:Nat->Option Ty} {Γ:Env} {N F e:Nat} {Q Q':Kt} {t:Nat->D} {h:Nat->Option Row}
def ke (hm:∀x t h e,Q x t h e->Q' x t h e):∀(ws:List W) (x:Ex) (t:Nat->D) (h:Nat->Option Row) (e:Nat),dM T Γ N F ws Q x t h e->dM T Γ N F ws Q' x t h e
 | [],x,t,h,e,hk=>hm _ _ _ _ hk
 | .code c::ws,x,t,h,e,hk=>by
  unfold dM at hk ⊢;cases x with
  | normal=>exact Y3 c t h e _ _ hk (fun x t h e b=>ke hm ws x t h e b)
  | exit n=>exact ke hm ws _ t h e hk
  | ret=>exact ke hm ws _ t h e hk
 | .blk id::ws,x,t,h,e,hk=>by
  unfold dM ZR at hk ⊢;cases x with
  | normal=>exact ke hm ws _ t h e hk
  | exit n =>
   simp only at hk ⊢;split at hk
   ·rename_i a;rw[if_pos a];exact ke hm ws _ t h e hk
   ·rename_i a;rw[if_neg a];exact ke hm ws _ t h e hk
  | ret=>exact ke hm ws _ t h e hk
def tI:∀(ws:List W) (k:Nat),dM T Γ N F ws Q=dM T Γ N F (ws.take k) (dM T Γ N F (ws.drop k) Q)
 | ws,0=>by simp[dM]
 | [],k+1=>by simp[dM]
 | .code c::ws,k+1=>by
  rw[alk,alj];funext x t h e;unfold dM;rw[tI ws k]
 | .blk id::ws,k+1=>by
  rw[alk,alj];funext x t h e;unfold dM;rw[tI ws k]
variable {σ:Type} {ops l:List Oper} {ws:List W} {dst:Option Nat} {fs:List mL} {d:D} {g:Nat}
def wV {J:σ->(Nat->D)->(Nat->Option Row)->Nat->Prop} {P:σ->Prop} {R:Kt} (a:∀s t h e,J s t h e->P s->R .normal t h e):∀x t h e,CK J P R x t h e->R x t h e:=by
 intro x t h e b;cases x with
 | normal=>obtain⟨s,c,d⟩:=b;exact a s t h e d c
 | exit n=>exact b
 | ret=>exact b
def zq (a:∀x t h e,Q x t h e->Q' x t h e) (b:mS T Γ N F ops l ws Q t h e):mS T Γ N F ops l ws Q' t h e:=zt (fun t h c=>ke a ws _ _ _ _ c) _ _ _ b
def zr (b:∀x t h e,Q x t h e->Q' x t h e) (c:nY T Γ N F ops l ws Q t h e fs):nY T Γ N F ops l ws Q' t h e fs:=zp (fun t h fs a=>⟨a.1,ke b ws _ _ _ _ a.2⟩) _ _ _ _ c
def wL (k:Nat):mS T Γ N F ops l ws Q t h e=mS T Γ N F ops l (ws.take k) (dM T Γ N F (ws.drop k) Q) t h e:=by unfold mS;rw[tI ws k]
def wM (k:Nat):nY T Γ N F ops l ws Q t h e fs=nY T Γ N F ops l (ws.take k) (dM T Γ N F (ws.drop k) Q) t h e fs:=by unfold nY;rw[tI ws k]
def JY (k:Nat) {o:Oper} : tO T Γ N F o ops l ws Q t h e=tO T Γ N F o ops l (ws.take k) (dM T Γ N F (ws.drop k) Q) t h e:=by
 unfold tO;congr 1;funext t E;rw[wL k]
def J3 (k:Nat) {o:Oper} : wZ T Γ N F o ops l ws Q t h e fs=wZ T Γ N F o ops l (ws.take k) (dM T Γ N F (ws.drop k) Q) t h e fs:=by
 unfold wZ;congr 1;funext t E;rw[wM k]
def OZ {o:Oper} (a:∀x t h e,Q x t h e->Q' x t h e) (b:tO T Γ N F o ops l ws Q t h e):tO T Γ N F o ops l ws Q' t h e:=Cj b fun _ _ c=>zq a c
def O5 {o:Oper} (a:∀x t h e,Q x t h e->Q' x t h e) (b:wZ T Γ N F o ops l ws Q t h e fs):wZ T Γ N F o ops l ws Q' t h e fs:=Cj b fun _ _ c=>zr a c
variable (k:Nat) (J:σ->(Nat->D)->(Nat->Option Row)->Nat->Prop) (P:σ->Prop)
def rp {x y:Code} (a:∀s t h e,J s t h e->P s->dM T Γ N F (ws.drop k) Q .normal t h e) (f:NL T Γ N F d g x y (ws.take k) (CK J P (dM T Γ N F (ws.drop k) Q)) t h e):NL T Γ N F d g x y ws Q t h e:=by
 unfold NL at f ⊢;have i:∀c:Code,dM T Γ N F (.code c::ws) Q=dM T Γ N F (.code c::ws.take k) (dM T Γ N F (ws.drop k) Q):=fun c=>tI (.code c::ws) (k+1);rw[i,i];exact Ch f (fun _ b=>ke (wV a) _ _ _ _ _ b) (fun _ b=>ke (wV a) _ _ _ _ _ b)
def cV {b:Bool} {o:Oper} (a:∀s t h e,J s t h e->P s->dM T Γ N F (ws.drop k) Q .normal t h e) (f:zL T Γ N F d g b o ops l (ws.take k) (CK J P (dM T Γ N F (ws.drop k) Q)) t h e):zL T Γ N F d g b o ops l ws Q t h e:=by
 unfold zL at f ⊢;refine Ir f (fun t c =>?_) (fun t c =>?_) (fun t c =>?_)
 ·cases b
  ·simp only[aj4,if_false]at c ⊢;rw[wL k];exact zq (wV a) c
  ·simp only[if_true]at c ⊢;rw[JY k];exact OZ (wV a) c
 ·cases b
  ·simp only[aj4,if_false]at c ⊢;rw[JY k];exact OZ (wV a) c
  ·simp only[if_true]at c ⊢;rw[wL k];exact zq (wV a) c
 ·rw[wL k];exact zq (wV a) c
def acB {b:Bool} {o:Oper} (a:∀s t h e,J s t h e->P s->dM T Γ N F (ws.drop k) Q .normal t h e) (f:zM T Γ N F d g b o ops l (ws.take k) (CK J P (dM T Γ N F (ws.drop k) Q)) t h e fs):zM T Γ N F d g b o ops l ws Q t h e fs:=by
 unfold zM at f ⊢;refine Ir f (fun t c =>?_) (fun t c =>?_) (fun t c =>?_)
 ·cases b
  ·simp only[aj4,if_false]at c ⊢;rw[wM k];exact zr (wV a) c
  ·simp only[if_true]at c ⊢;rw[J3 k];exact O5 (wV a) c
 ·cases b
  ·simp only[aj4,if_false]at c ⊢;rw[J3 k];exact O5 (wV a) c
  ·simp only[if_true]at c ⊢;rw[wM k];exact zr (wV a) c
 ·rw[wM k];exact zr (wV a) c
end
def mkW {α β γ:Type} (ty:Nat) (E:jb γ) (A:km α) (F:List γ->α->Option (List γ×β)) (R:β->RK):Option (D×Row)->List D->Option (RK×Option Row):=fun lent a =>
 match lent with
 | some (.buf 0 0 s o n,⟨0,ty',cells,false,true,false⟩)=>open Classical in
  if h:ty'=ty∧s=E.size∧∃p:List D×List γ×List D×α,cells=p.1++(av E p.2.1++p.2.2.1)∧o=p.1.length∧n=p.2.1.length∧a=A.ds p.2.2.2 then
   (F (Classical.choose h.2.2).2.1 (Classical.choose h.2.2).2.2.2).map fun r=>(R r.2,some ⟨0,ty,(Classical.choose h.2.2).1++(av E r.1++(Classical.choose h.2.2).2.2.1),false,true,false⟩)
  else none
 | _=>none
def Xc {γ:Type} {E:jb γ} {p a q c:List D} {l b:List γ} (h:p++(av E l++q)=a++(av E b++c)) (d:p.length=a.length) (e:l.length=b.length):p=a∧l=b∧q=c:=by
 obtain⟨f,g⟩:=aln h d;obtain⟨i,j⟩:=aln g (by rw[bT,bT,e]);exact⟨f,yd E _ _ i,j⟩
def abA {α β γ:Type} (ty:Nat) (E:jb γ) (A:km α) (F:List γ->α->Option (List γ×β)) (R:β->RK) (c b:List D) (l:List γ) (a:α) :
  mkW ty E A F R (some (.buf 0 0 E.size c.length l.length,⟨0,ty,c++(av E l++b),false,true,false⟩)) (A.ds a)=(F l a).map fun r=>(R r.2,some ⟨0,ty,c++(av E r.1++b),false,true,false⟩):=by
 have h:ty=ty∧E.size=E.size∧∃p:List D×List γ×List D×α,c++(av E l++b)=p.1++(av E p.2.1++p.2.2.1)∧c.length=p.1.length∧l.length=p.2.1.length∧A.ds a=A.ds p.2.2.2:=⟨rfl,rfl,(c,l,b,a),rfl,rfl,rfl,rfl⟩;simp only[mkW];rw[dif_pos h];obtain⟨d,e,f,g⟩:=Classical.choose_spec h.2.2;obtain⟨i,j,k⟩:=Xc d e f;rw[<- A.inj _ _ g,<- i,<- j,<- k]
def QI {α β γ:Type} {ty:Nat} {E:jb γ} {A:km α} {F:List γ->α->Option (List γ×β)} {R:β->RK} {lent:Option (D×Row)} {e:List D} {f:RK} {d:Option Row} (h:mkW ty E A F R lent e=some (f,d)) :
  ∃c l b a g r,lent=some (.buf 0 0 E.size c.length l.length,⟨0,ty,c++(av E l++b),false,true,false⟩)∧e=A.ds a∧F l a=some (g,r)∧f=R r∧d=some ⟨0,ty,c++(av E g++b),false,true,false⟩:=by
 unfold mkW at h;split at h
 ·split at h
  ·rename_i i;obtain⟨rfl,rfl,i⟩:=i;rw[ajx]at h;grind
  ·cases h
 ·cases h
def cr.ag6 {P:Program} {T:Nat->Option Ty} {Γ:Env} (k:jN P T) (m:bY P Γ) (n:P.follows .mixedOrders=true) {α β γ:Type} {ty:Nat} {E:jb γ} {A:km α} {F:List γ->α->Option (List γ×β)} {R:β->RK} {mode:Mode} {f:FuncId} {e:Func} (j:P.funcs[f]? = some e) (i:(match e.body with|some c=>codeOk c|none=>true)=true)
  (o:(e.name == "runtime.NumGoroutine")=false∧e.body.isNone=false) (p:∀a,(A.ds a).length+1<=e.ntmps)
  (h:∀d b l a g r,F l a=some (g,r)->kM mode T Γ FU e (some (.buf 0 0 E.size d.length l.length,⟨0,ty,d++(av E l++b),false,true,false⟩)) (A.ds a)=some (R r,some ⟨0,ty,d++(av E g++b),false,true,false⟩)):cr P f (mkW ty E A F R) where
 calls lent aju rk out q:=by
  obtain⟨d,l,b,a,g,r,rfl,rfl,s,rfl,rfl⟩:=QI q;exact lU k m n j i (p a) rfl (h d b l a g r s)
 callable:=⟨e,j,o⟩
end Go.Proofs.YtobnihfgnbnncaaGreat.Am
