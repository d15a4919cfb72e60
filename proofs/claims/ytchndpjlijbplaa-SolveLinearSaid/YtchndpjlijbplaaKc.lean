/- Part of a proof, made small by a program (wip/mini.py). -/
import Derived.Test.YtchndpjlijbplaaKb
namespace Go.Proofs.Ytchndpjlijbplaa.Am
open Go.RowKit
set_option linter.unusedSimpArgs false
set_option linter.unusedVariables false
def gn (vs:Operand->D):Op->Option (D×List D)
 | .call c=>match c.callee with | .value f=>some (vs f,c.args.toList.map vs)|_=>none
 | _=>none
theorem mD {vs:Operand->D} {op:Op} {q:D} {args:List D} (hc:gn vs op=some (q,args)):∃c f,op=.call c∧c.callee=.value f∧q=vs f∧args=c.args.toList.map vs:=by
 unfold gn at hc
 split at hc<;>try (cases hc;done)
 rename_i c
 split at hc<;>try (cases hc;done)
 rename_i f hf
 simp only[acw,Prod.mk.injEq]at hc
 exact⟨c,f,rfl,hf,hc.1.symm,hc.2.symm⟩
def zl (Γ:Env) (e:Nat) (h:Nat->Option Row):Option (D×List D)->Option bK
 | some (.fn g,args)=>pG Γ e h g args
 | _=>none
def BL (e d:Nat) (h:Nat->Option Row) (args:List D):Option (List D->Option (Nat×Nat×Nat×Nat×Nat×List D))->Option bK
 | some p=>EE p e d (bk (EH h) args)
 | none=>none
def lS (Γ:Env) (e:Nat) (h:Nat->Option Row):Option Nat->Option (D×List D)->Option bK
 | some d,some (.fn g,args)=>BL e d h args (Γ.nx.res g)
 | _,_=>none
def sU (T:Nat->Option Ty) (Γ:Env) (e:Nat) (o:Oper) (vs:Operand->D) (h:Nat->Option Row):Option bK :=
 match o.op with
 | .load ty p=>match T ty with|some τ=>mW τ h (vs p)|none=>none
 | .store ty p x=>match T ty with|some τ=>ll τ e h (vs p) (vs x)|none=>none
 | .call c=>zl Γ e h (gn vs (.call c))
 | _=>none
def W6 (h:Nat->Option Row):Option bK->Option bK->Option bK
 | some ⟨v,hw⟩,_=>some ⟨v,jJ h hw⟩
 | none,y=>y
def oE (T:Nat->Option Ty) (Γ:Env) (e:Nat) (o:Oper) (vs:Operand->D) (h:Nat->Option Row):Option bK :=
 match iG T Γ e o vs with
 | some E=>some E
 | none =>
  match lS Γ e h o.dst (gn vs o.op) with
  | some E=>some E
  | none=>W6 h (lR T Γ e o vs (EH h)) (sU T Γ e o vs h)
def bj (o:Oper) (vs:Operand->D):List Nat:=(gx o vs).map rt
def VE (N e:Nat) (done:List Nat) (h:Nat->Option Row) (x v:Nat):Prop:=(x<N∧(v<e∨(v=e∧x∈done))) ∨
 (2*PK<=x∧v<=4*e+3∧(x % PK∉done->v<=4*e+1)∧∀r ty s nv cs,h (x % PK)=some r->r.mp=true->r.cells=[.nr ty s nv cs]->v<=nv)
def DD (e:Nat) (done:List Nat) (h:Nat->Option Row):Prop:=∀x r ty s nv cs,h x=some r->r.mp=true->r.cells=[.nr ty s nv cs]->x<PK->nv<=4*e+3∧(x∉done->nv<=4*e+1)
def lQ (e:Nat) (h h':Nat->Option Row):Prop:=∀x r' ty' s' nv' cs',h' x=some r'->r'.mp=true->r'.cells=[.nr ty' s' nv' cs']->x<PK->∃r ty s nv cs,h x=some r∧r.mp=true∧r.cells=[.nr ty s nv cs]∧(nv'=nv∨oD nv e=some nv')
theorem lQ.refl (e:Nat) (h:Nat->Option Row):lQ e h h:=fun x r ty s nv cs hx hm hc _=>⟨r,ty,s,nv,cs,hx,hm,hc,.inl rfl⟩
theorem Hs {nv e nv':Nat} (h:oD nv e=some nv'):nv<nv'∧(nv'=4*e+1∨(nv=4*e+2∧nv'=4*e+3)):=by
 unfold oD at h
 split at h
 ·cases h;omega
 ·split at h
  ·cases h;omega
  ·cases h
theorem DD.step {e:Nat} {done done':List Nat} {h h':Nat->Option Row} (hN:DD e done h) (hr:lQ e h h') (hd:∀x,x∈done->x∈done'):DD e done' h':=by
 intro x r' ty' s' nv' cs' hx hm hc hp
 obtain⟨r,ty,s,nv,cs,k1,k2,k3,k4⟩:=hr x r' ty' s' nv' cs' hx hm hc hp
 obtain⟨q1,q2⟩:=hN x r ty s nv cs k1 k2 k3 hp
 rcases k4 with rfl|k4
 ·exact⟨q1,fun hn=>q2 fun h=>hn (hd x h)⟩
 ·obtain⟨b1,b2⟩:=Hs k4
  refine⟨by omega,fun hn =>?_⟩
  rcases b2 with b2|⟨b2,b3⟩
  ·omega
  ·have:=q2 fun h=>hn (hd x h)
   omega
theorem VE.step {N e:Nat} {done done':List Nat} {h h':Nat->Option Row} (hr:lQ e h h') (hd:∀x,x∈done->x∈done') {x v:Nat} (hv:VE N e done h x v):VE N e done' h' x v:=by
 rcases hv with⟨h1,h2⟩|⟨h1,h2,h3,h4⟩
 ·exact .inl ⟨h1,h2.imp id fun⟨q1,q2⟩=>⟨q1,hd x q2⟩⟩
 ·refine .inr ⟨h1,h2,fun hn=>h3 fun h=>hn (hd _ h),fun r' ty' s' nv' cs' k1 k2 k3 =>?_⟩
  obtain⟨r,ty,s,nv,cs,q1,q2,q3,q4⟩:=hr _ r' ty' s' nv' cs' k1 k2 k3 (F2 _)
  have:=h4 r ty s nv cs q1 q2 q3
  rcases q4 with rfl|q4
  ·exact this
  ·have:=(Hs q4).1
   omega
theorem DD.aaf {N e:Nat} {done:List Nat} {h:Nat->Option Row} (hN:DD e done h):VNr (VE N e done h) h:=by
 intro x r ty s nv cs hx hm hc hp o
 obtain⟨q1,q2⟩:=hN x r ty s nv cs hx hm hc hp
 refine .inr ⟨fI x o,q1,by rw[qk o hp];exact q2,fun r' ty' s' nv' cs' k1 k2 k3 =>?_⟩
 rw[qk o hp,hx]at k1
 cases k1
 rw[hc]at k3
 cases k3
 exact acm _
theorem DD.new {N e:Nat} {done:List Nat} {h:Nat->Option Row} (hN:DD e done h) (hb:N<=PK):Y2 (VE N e done h) h e:=by
 intro x r ty s nv cs nv' hx hm hc hp hbm o hv
 have hge:=fI x o
 have:=cJ
 rcases hv with⟨h1,_⟩|⟨_,_,_,h4⟩
 ·omega
 ·have h5:=h4 r ty s nv cs (by rw[qk o hp];exact hx) hm hc
  have h6:=(Hs hbm).1
  omega
theorem Ku (e:Nat):∀(l:List (Nat×Option Row)) (h:Nat->Option Row),lQ e h (aG h (jJ h l))
 | [],h =>.refl e h
 | (k,r)::l,h=>by
  intro x r' ty' s' nv' cs' hx hm hc hp
  obtain⟨r1,ty1,s1,nv1,cs1,k1,k2,k3,k4⟩:=Ku e l (bT h (rt k) (xn h k r)) x r' ty' s' nv' cs' hx hm hc hp
  by_cases hxk:x=rt k
  rotate_left
  ·rw[aA _ _ hxk]at k1
   exact⟨r1,ty1,s1,nv1,cs1,k1,k2,k3,k4⟩
  ·rw[hxk,ay]at k1
   unfold xn at k1
   split at k1
   ·exfalso
    obtain⟨_,h2,_⟩:=yx (o:=0) k1
    unfold Cu at k1
    split at k1
    ·split at k1
     ·split at k1
      ·cases k1
      ·rename_i hne
       simp only[acw]at k1
       subst k1
       exact hne _ _ _ _ k3
     ·rename_i hmp
      simp only[acw]at k1
      subst k1
      exact hmp k2
    ·cases k1
   ·rename_i hk2
    have hrt:rt k=k % PK:=by unfold rt;rw[if_neg hk2]
    rw[acj]at k1
    obtain⟨q,q1,q2⟩:=k1
    unfold CT at q2
    split at q2
    ·rename_i hqm
     split at q2
     ·rename_i ty s nv cs hqc
      subst q2
      simp only at k3
      refine⟨q,ty,s,nv,cs,by rw[hxk,hrt];exact q1,hqm,hqc,?_⟩
      unfold yG at k3
      split at k3<;>(simp only[acL,D.nr.injEq,and_true]at k3;obtain⟨rfl,rfl,rfl,_⟩:=k3;exact k4)
     ·subst q2
      exact⟨q,ty1,s1,nv1,cs1,by rw[hxk,hrt];exact q1,k2,k3,k4⟩
    ·subst q2
     exact⟨q,ty1,s1,nv1,cs1,by rw[hxk,hrt];exact q1,k2,k3,k4⟩
section
variable {P:Program} {T:Nat->Option Ty} {N:Nat} {M:Nat->Prop} {L:jM} {w0:World} {blk:Nat->Option (Nat×Nat)} {t:Nat->D} {h h':Nat->Option Row} {a:Act} {w:World} {e:Nat} {o:Oper} {Γ:Env} {done:List Nat}
theorem lQ.set {x:Nat} {r r':Row} {ty s nv nv' ty' s':Nat} {cs cs':List D} (hx:h x=some r) (hm:r.mp=true) (hc:r.cells=[.nr ty s nv cs]) (hc':r'.cells=[.nr ty' s' nv' cs']) (hn:nv'=nv∨oD nv e=some nv'):lQ e h (bT h x (some r')):=by
 intro y r1 ty1 s1 nv1 cs1 hy hm1 hc1 hp
 by_cases hyx:y=x
 ·subst hyx
  rw[ay]at hy
  cases hy
  rw[hc']at hc1
  cases hc1
  exact⟨r,ty,s,nv,cs,hx,hm,hc,hn⟩
 ·rw[aA _ _ hyx]at hy
  exact⟨r1,ty1,s1,nv1,cs1,hy,hm1,hc1,.inl rfl⟩
theorem lQ.drop {y:Nat} (hr:lQ e (bT h y none) h'):lQ e h h':=by
 intro x r' ty' s' nv' cs' hx hm hc hp
 obtain⟨r,ty,s,nv,cs,k1,k⟩:=hr x r' ty' s' nv' cs' hx hm hc hp
 by_cases hxy:x=y
 ·subst hxy;rw[ay]at k1;cases k1
 ·rw[aA _ _ hxy]at k1
  exact⟨r,ty,s,nv,cs,k1,k⟩
theorem Fj {τ:Ty} {d:D} {E:bK} (hE:mW τ h d=some E):E.hw=[]:=by
 unfold mW at hE
 split at hE<;>try (cases hE;done)
 split at hE<;>try (cases hE;done)
 unfold Ci at hE
 split at hE
 ·split at hE<;>try (cases hE;done)
  cases hE;rfl
 ·split at hE<;>try (cases hE;done)
  split at hE<;>try (cases hE;done)
  cases hE;rfl
 ·cases hE
theorem Oe {τ:Ty} {p d:D} {E:bK} (hE:ll τ e h p d=some E):lQ e h (aG h E.hw):=by
 unfold ll at hE
 split at hE<;>try (cases hE;done)
 rename_i y0 v0 c0
 split at hE<;>try (cases hE;done)
 rename_i r ty s nv cs hl
 obtain⟨hx,hv,hz,hm,hp1,hc⟩:=l5 hl
 split at hE<;>try (cases hE;done)
 have plain:∀ {c':Option (List D)},yL τ y0 r ty s nv cs c0 c'=some E->lQ e h (aG h E.hw):=by
  intro c' hE
  unfold yL at hE
  split at hE<;>try (cases hE;done)
  split at hE<;>try (cases hE;done)
  cases hE
  exact lQ.set hx hm hc rfl (.inl rfl)
 unfold uY at hE
 split at hE
 ·rename_i yq vq sq oq nq
  split at hE<;>try (cases hE;done)
  split at hE
  ·split at hE<;>try (cases hE;done)
   unfold yJ at hE
   split at hE<;>try (cases hE;done)
   split at hE<;>try (cases hE;done)
   cases hE
   exact lQ.set hx hm hc rfl (.inl rfl)
  ·split at hE<;>try (cases hE;done)
   split at hE<;>try (cases hE;done)
   rename_i q hlq
   split at hE<;>try (cases hE;done)
   unfold yK at hE
   split at hE<;>try (cases hE;done)
   rename_i nv' hb
   cases hE
   obtain⟨hq1,hq2⟩:=bP hlq
   refine lQ.drop (y:=yq) ?_
   exact lQ.set (by
    rw[aA]
    ·exact hx
    ·rintro rfl
     rw[hx]at hq1
     cases hq1
     have:=fG hlq
     rw[hm]at this
     cases this) hm hc rfl (.inr hb)
 ·exact plain hE
structure DC (N:Nat) (M:Nat->Prop) (L:jM) (w0:World) (blk:Nat->Option (Nat×Nat)) (e:Nat) (done:List Nat) (t:Nat->D) (h:Nat->Option Row) (a:Act) (w:World):Prop where
 inv:Inv N M L w0 blk (VE N e done h) t (EH h) a w
 nv:DD e done h
def NB (N:Nat) (M:Nat->Prop) (L:jM) (w0:World) (t:Nat->D) (h:Nat->Option Row) (a:Act) (e:Nat) (done:List Nat) (E:bK) (v:Value) (w':World):Prop :=
 ∃blk',DC N M L w0 blk' e done t (aG h E.hw) a w'∧RT w' (Own M (EH (aG h E.hw)) blk') (EH (aG h E.hw)) blk' (VE N e done (aG h E.hw)) E.val v
theorem Oc (hT:jn P T) (hΓ:bD P Γ) (hI:DC N M L w0 blk e done t h a w) (hd:∀d:Nat,o.dst=some d->d∉done∧d<N) {E:bK} (hE:oE T Γ e o (ev t) h=some E):ej P o a w (NB N M L w0 t h a e (o.dst.toList++done) E):=by
 have hbig:=hI.inv.big
 have hpk:=cJ
 have hV:∀d:Nat,o.dst=some d->jI N (VE N e done h) d e:=by
  intro d hd'
  obtain⟨q1,q2⟩:=hd d hd'
  replace q2:(d:Nat)<N:=q2
  refine⟨fun hv =>?_,q2⟩
  rcases hv with⟨_,hv|⟨_,hv⟩⟩|⟨hv,_⟩
  ·omega
  ·exact q1 hv
  ·omega
 have hP:∀x v,VE N e done h x v->x<N∨2*PK<=x:=fun x v hv=>hv.imp (fun h=>h.1) (fun h=>h.1)
 have hsub:∀x,x∈done->x∈o.dst.toList++done:=fun x hx=>acC _ hx
 have fin:lQ e h (aG h E.hw)->∀ {v:Value} {w':World},pq N M L w0 (VE N e done h) t h a e o.dst E v w'->NB N M L w0 t h a e (o.dst.toList++done) E v w':=by
  intro hrel v w' hA
  obtain⟨blk',h1,h2⟩:=hA
  have hVV:∀x n,VE N e done h x n∨(o.dst=some x∧n=e)->VE N e (o.dst.toList++done) (aG h E.hw) x n:=by
   rintro x n (hv|⟨hx,rfl⟩)
   ·exact hv.step hrel hsub
   ·exact .inl ⟨(hd x hx).2,.inr ⟨rfl,acB _ (by rw[hx];simp)⟩⟩
  refine⟨blk',⟨h1.weaken hVV,hI.nv.step hrel hsub⟩,h2.mono ⟨fun _ h1 h2=>⟨h1,h2,rfl⟩,hVV,fun _ _ _ r' h1 h2=>⟨⟨r',h1,h2⟩,rfl,fun _ _=>rfl⟩⟩⟩
 have fin2:∀ {E0:bK} {d:Nat} {r0:Row} {ty' s:Nat} {cs0:List D},o.dst=some d->E0.hw=[(d,some r0)]->r0.mp=true->r0.cells=[.nr ty' s (4*e+2) cs0]->∀ {v:Value} {w':World},pq N M L w0 (VE N e done h) t h a e o.dst E0 v w'->NB N M L w0 t h a e (o.dst.toList++done) E0 v w':=by
  intro E0 d r0 ty' s cs0 hdst hr0 hrm hrc v w' hA
  obtain⟨blk',h1,h2⟩:=hA
  obtain⟨hdn,hdN⟩:=hd d hdst
  have hap:aG h E0.hw=bT h d (some r0):=by rw[hr0];rfl
  have hVV:∀x n,VE N e done h x n∨(o.dst=some x∧n=e)->VE N e (o.dst.toList++done) (aG h E0.hw) x n:=by
   rintro x n (hv|⟨hx,rfl⟩)
   ·rcases hv with⟨q1,q2⟩|⟨q1,q2,q3,q4⟩
    ·exact .inl ⟨q1,q2.imp id fun⟨p1,p2⟩=>⟨p1,hsub _ p2⟩⟩
    ·refine .inr ⟨q1,q2,fun hn=>q3 fun h=>hn (hsub _ h),fun r' ty1 s1 nv1 cs1 k1 k2 k3 =>?_⟩
     rw[hap]at k1
     by_cases hxd:x % PK=d
     ·rw[hxd,ay]at k1
      cases k1
      rw[hrc]at k3
      cases k3
      have:=q3 (by rw[hxd];exact hdn)
      omega
     ·rw[aA _ _ hxd]at k1
      exact q4 r' ty1 s1 nv1 cs1 k1 k2 k3
   ·exact .inl ⟨(hd x hx).2,.inr ⟨rfl,acB _ (by rw[hx];simp)⟩⟩
  refine⟨blk',⟨h1.weaken hVV,?_⟩,h2.mono ⟨fun _ h1 h2=>⟨h1,h2,rfl⟩,hVV,fun _ _ _ r' h1 h2=>⟨⟨r',h1,h2⟩,rfl,fun _ _=>rfl⟩⟩⟩
  intro x r' ty1 s1 nv1 cs1 k1 k2 k3 hp
  rw[hap]at k1
  by_cases hxd:x=d
  ·subst hxd
   rw[ay]at k1
   cases k1
   rw[hrc]at k3
   cases k3
   exact⟨by omega,fun hn=>absurd (acB _ (by rw[hdst];simp)) hn⟩
  ·rw[aA _ _ hxd]at k1
   obtain⟨p1,p2⟩:=hI.nv x r' ty1 s1 nv1 cs1 k1 k2 k3 hp
   exact⟨p1,fun hn=>p2 fun h=>hn (hsub _ h)⟩
 have hnk:∀d:Nat,o.dst=some d->∀o',¬VE N e done h (NK d o') (4*e+2):=by
  intro d hdst o' hv
  obtain⟨hdn,hdN⟩:=hd d hdst
  have hdp:(d:Nat)<PK:=acp hdN hbig
  rcases hv with⟨hv,_⟩|⟨_,_,hv,_⟩
  ·have:=fI d o';omega
  ·have:=hv (by rw[qk o' hdp];exact hdn)
   omega
 unfold oE at hE
 split at hE
 ·rename_i E0 hmk
  simp only[acw]at hE
  subst hE
  unfold iG at hmk
  split at hmk<;>try (cases hmk;done)
  rename_i ty l c ho
  split at hmk<;>try (cases hmk;done)
  rename_i d hdst
  split at hmk<;>try (cases hmk;done)
  rename_i ty' s f hn
  split at hmk<;>try (cases hmk;done)
  rename_i τ hτ
  obtain⟨hdn,hdN⟩:=hd d hdst
  have hA:=UQ hT hI.inv ho hdst (hV d hdst) (fun o' hv=>by
   have hdp:(d:Nat)<PK:=acp hdN hbig
   rcases hv with⟨hv,_⟩|⟨_,_,hv,_⟩
   ·have:=fI d o';omega
   ·have:=hv (by rw[qk o' hdp];exact hdn)
    omega) hτ hmk
  obtain⟨r0,hr0,hrm,hrc⟩:∃r0:Row,E0.hw=[(d,some r0)]∧r0.mp=true∧∃cs,r0.cells=[.nr ty' s (4*e+2) cs]:=by
   unfold mT at hmk
   split at hmk<;>try (cases hmk;done)
   split at hmk<;>try (cases hmk;done)
   split at hmk<;>try (cases hmk;done)
   cases hmk
   exact⟨_,rfl,rfl,_,rfl⟩
  obtain⟨cs0,hrc⟩:=hrc
  exact hA.mono fun v w' hA=>fin2 hdst hr0 hrm hrc hA
 split at hE
 ·rename_i E0 hcf
  simp only[acw]at hE
  subst hE
  unfold lS at hcf
  split at hcf<;>try (cases hcf;done)
  rename_i d g args hdst hco
  obtain⟨c,f,hop,hcc,hq,hargs⟩:=mD hco
  unfold BL at hcf
  split at hcf<;>try (cases hcf;done)
  rename_i p hp
  obtain⟨_,ty',ti,s',S',n',cs',_,_,_,hE0⟩:=vL hcf
  subst hargs
  have hA:=Bu hI.inv hop hcc hq.symm (fun vs q1 q2=>Uq hΓ hI.inv hdst (hV d hdst) (hnk d hdst) hp hcf q1 q2)
  refine hA.mono fun v w' hA =>?_
  exact fin2 (r0:=⟨e,ty',[.nr ti s' (4*e+2) cs'],false,true,true⟩) hdst (by rw[hE0]) rfl rfl hA
 ·unfold W6 at hE
  split at hE
  ·rename_i v0 hw he
   simp only[acw]at hE
   subst hE
   have hA:=SD hT hΓ hI.inv hV hP he
   exact hA.mono fun v w' hA=>fin (Ku e hw h) (hA.le (Kr hw h))
  ·unfold sU at hE
   split at hE
   ·rename_i ty p ho
    split at hE<;>try (cases hE;done)
    rename_i τ hτ
    exact (UO hT hI.inv hI.nv.aaf ho hτ hE).mono fun v w' hA=>fin (by rw[Fj hE];exact .refl e h) hA
   ·rename_i ty p x ho
    split at hE<;>try (cases hE;done)
    rename_i τ hτ
    exact (US hT hI.inv (hI.nv.new hbig) ho hτ hE).mono fun v w' hA=>fin (Oe hE) hA
   ·rename_i c ho
    unfold zl at hE
    split at hE<;>try (cases hE;done)
    rename_i g args hco
    obtain⟨c',f,hop,hcc,hq,hargs⟩:=mD hco
    cases hop
    subst hargs
    refine (Bu hI.inv ho hcc hq.symm (fun vs q1 q2=>Us hΓ hI.inv (hI.nv.new hbig) (dst:=o.dst) hE q1 q2)).mono fun v w' hA=>fin ?_ hA
    obtain⟨x,v,o',rest,r,ty,s,nv,cs,p,acg,nv',d,cs',_,hl,_,_,hb,_,_,rfl⟩:=qz hE
    obtain⟨hx,_,_,hm,_,hc⟩:=l5 hl
    exact lQ.set hx hm hc rfl (.inr hb)
   ·cases hE
end
section
variable {T:Nat->Option Ty} {h h':Nat->Option Row} {e:Nat} {o:Oper} {Γ:Env}
theorem s6 {x v:Nat} (hx:h x=h' x):iN h x v=iN h' x v:=by simp[iN,hx]
theorem s7 {x v:Nat} {q:Row×Nat×Nat×Nat×List D} (hl:iN h x v=some q):x<PK:=by
 obtain⟨r,ty,s,nv,cs⟩:=q
 exact (l5 hl).2.2.2.2.1
theorem zp:∀(l:List (Nat×Option Row)) {h h':Nat->Option Row},(∀p∈l,h (rt p.1)=h' (rt p.1))->jJ h l=jJ h' l
 | [],_,_,_=>rfl
 | (k,r)::l,h,h',hl=>by
  have hk:h (rt k)=h' (rt k):=hl (k,r) (by simp)
  have hp:xn h k r=xn h' k r:=by
   unfold xn
   split
   ·rfl
   ·rename_i hk2
    have:rt k=k % PK:=by unfold rt;rw[if_neg hk2]
    rw[<- this,hk]
  unfold jJ
  rw[hp]
  congr 1
  refine zp l fun p hp' =>?_
  by_cases he:rt p.1=rt k
  ·rw[he,ay,ay]
  ·rw[aA _ _ he,aA _ _ he]
   exact hl p (adP _ hp')
theorem zq:∀(l:List (Nat×Option Row)) {h:Nat->Option Row},∀p∈jJ h l,∃q∈l,p.1=rt q.1
 | [],_,p,hp=>by simp[jJ]at hp
 | (k,r)::l,h,p,hp=>by
  unfold jJ at hp
  rcases acu.1 hp with rfl|hp
  ·exact⟨(k,r),by simp,rfl⟩
  ·obtain⟨q,h1,h2⟩:=zq l p hp
   exact⟨q,adP _ h1,h2⟩
theorem Tx {τ:Ty} {p d:D} {E:bK} (hE:ll τ e h p d=some E):∀q∈E.hw,q.1<PK∧(q.1∈nm p∨q.1∈nm d):=by
 unfold ll at hE
 split at hE<;>try (cases hE;done)
 rename_i y0 v0 c0
 split at hE<;>try (cases hE;done)
 rename_i r ty s nv cs hl
 have hlt:=s7 hl
 split at hE<;>try (cases hE;done)
 have one:∀ {r':Option Row} (q:Nat×Option Row),q∈[(y0,r')]->q.1<PK∧(q.1∈nm (.ptr y0 v0 c0)∨q.1∈nm d):=by
  intro r' q hq
  simp only[acK]at hq
  subst hq
  exact⟨hlt,.inl (by simp[nm,gB])⟩
 have plain:∀ {c':Option (List D)},yL τ y0 r ty s nv cs c0 c'=some E->∀q∈E.hw,q.1<PK∧(q.1∈nm (.ptr y0 v0 c0)∨q.1∈nm d):=by
  intro c' hE
  unfold yL at hE
  split at hE<;>try (cases hE;done)
  split at hE<;>try (cases hE;done)
  cases hE
  exact one
 unfold uY at hE
 split at hE
 ·rename_i yq vq sq oq nq
  split at hE<;>try (cases hE;done)
  split at hE
  ·split at hE<;>try (cases hE;done)
   unfold yJ at hE
   split at hE<;>try (cases hE;done)
   split at hE<;>try (cases hE;done)
   cases hE
   exact one
  ·split at hE<;>try (cases hE;done)
   rename_i hyp
   split at hE<;>try (cases hE;done)
   split at hE<;>try (cases hE;done)
   unfold yK at hE
   split at hE<;>try (cases hE;done)
   cases hE
   intro q hq
   rcases acu.1 hq with rfl|hq
   ·exact⟨hyp,.inr (by simp[nm,gB])⟩
   ·exact one q hq
 ·exact plain hE
theorem SS {τ:Ty} {d:D} (hx:∀x∈nm d,x<2*PK->h x=h' x):mW τ h d=mW τ h' d:=by
 unfold mW
 split
 ·rename_i x v o
  by_cases hp:x<2*PK
  ·rw[s6 (hx x (by simp[nm,gB]) hp)]
  ·have hn:∀h:Nat->Option Row,iN h x v=none:=by
    intro h
    cases hl:iN h x v with
    | none=>rfl
    | some q=>have:=s7 hl;omega
   rw[hn,hn]
 ·rfl
theorem Tw {τ:Ty} {p d:D} (hp:∀x∈nm p,x<2*PK->h x=h' x) (hd:∀x∈nm d,x<2*PK->h x=h' x):ll τ e h p d=ll τ e h' p d:=by
 unfold ll
 split
 ·rename_i x v o
  by_cases hxp:x<2*PK
  rotate_left
  ·have hn:∀h:Nat->Option Row,iN h x v=none:=by
    intro h
    cases hl:iN h x v with
    | none=>rfl
    | some q=>have:=s7 hl;omega
   rw[hn,hn]
  rw[s6 (hp x (by simp[nm,gB]) hxp)]
  split
  ·split
   ·unfold uY
    split
    ·rename_i y vy s' oy n
     by_cases hyp:y<2*PK
     ·rw[cj (hd y (by simp[nm,gB]) hyp)]
     ·split
      ·split
       ·rfl
       ·rw[if_neg (by have:=cJ;omega),if_neg (by have:=cJ;omega)]
      ·rfl
    ·rfl
   ·rfl
  ·rfl
 ·rfl
theorem fD {vs:Operand->D} {x:Nat} (hx:x∈gx o vs):rt x∈bj o vs:=ack.2 ⟨x,hx,rfl⟩
theorem oB {vs:Operand->D} {y:Operand} (hy:y∈o.op.operands.toList) (h1:∀a b c,o.op ≠ .pick a b c) (h2:∀a,o.op ≠ .move a) (h3:∀a b c,o.op ≠ .makeFunc a b c) {x:Nat} (hx:x∈nm (vs y)):x∈gx o vs:=by
 unfold gx
 split
 ·rename_i ho;exact absurd ho (h2 _)
 ·rename_i ho;exact absurd ho (h1 _ _ _)
 ·rename_i ho;exact absurd ho (h3 _ _ _)
 ·exact acB _ (adM.2 ⟨y,hy,hx⟩)
theorem EJ {vs:Operand->D} {q:D} {args:List D} (hc:gn vs o.op=some (q,args)) (hx:∀x∈bj o vs,h x=h' x):∀d∈args,∀x∈nm d,h (rt x)=h' (rt x):=by
 obtain⟨c,f,ho,hcc,_,hargs⟩:=mD hc
 subst hargs
 intro d hd x hxd
 obtain⟨y,hy,rfl⟩:=ack.1 hd
 exact hx _ (fD (oB (y:=y) (by simp[ho,Op.operands,Call.operands,hcc];exact .inr (by simpa using hy)) (by simp[ho]) (by simp[ho]) (by simp[ho]) hxd))
theorem Jn {g:Nat} {args:List D} (hx:∀d∈args,∀x∈nm d,h (rt x)=h' (rt x)):pG Γ e h g args=pG Γ e h' g args:=by
 unfold pG
 split
 ·rename_i x v c rest
  have hca:bk (EH h) rest=bk (EH h') rest:=ic fun d hd x hxd=>eB (hx d (adP _ hd) x hxd)
  by_cases hp:x<2*PK
  ·have:=hx _ adO x (by simp[nm,gB])
   rw[jK hp]at this
   rw[s6 this,hca]
  ·have hn:∀h:Nat->Option Row,iN h x v=none:=by
    intro h
    cases hl:iN h x v with
    | none=>rfl
    | some q=>have:=s7 hl;omega
   rw[hn,hn]
 ·rfl
theorem Kd {vs:Operand->D} (hx:∀x∈bj o vs,h x=h' x):lS Γ e h o.dst (gn vs o.op)=lS Γ e h' o.dst (gn vs o.op):=by
 unfold lS
 split
 ·rename_i d g args hd hc
  unfold BL
  split
  ·rw[ic fun d hd x hxd=>eB (EJ hc hx d hd x hxd)]
  ·rfl
 ·rfl
theorem Od {vs:Operand->D} (hx:∀x∈bj o vs,h x=h' x):sU T Γ e o vs h=sU T Γ e o vs h':=by
 unfold sU
 split
 ·rename_i ty p ho
  split
  ·exact SS fun x hxm hl=>by
    have:=hx _ (fD (oB (y:=p) (by simp[ho,Op.operands]) (by simp[ho]) (by simp[ho]) (by simp[ho]) hxm))
    rwa [jK hl]at this
  ·rfl
 ·rename_i ty p x ho
  split
  ·exact Tw (fun y hxm hl=>by
    have:=hx _ (fD (oB (y:=p) (by simp[ho,Op.operands]) (by simp[ho]) (by simp[ho]) (by simp[ho]) hxm))
    rwa [jK hl]at this) (fun y hxm hl=>by
    have:=hx _ (fD (oB (y:=x) (by simp[ho,Op.operands]) (by simp[ho]) (by simp[ho]) (by simp[ho]) hxm))
    rwa [jK hl]at this)
  ·rfl
 ·rename_i c ho
  unfold zl
  split
  ·rename_i g args hc
   exact Jn (EJ (by rw[ho];exact hc) hx)
  ·rfl
 ·rfl
theorem Oa {vs:Operand->D} (hx:∀x∈bj o vs,h x=h' x):oE T Γ e o vs h=oE T Γ e o vs h':=by
 have h1:lR T Γ e o vs (EH h)=lR T Γ e o vs (EH h'):=SC fun x hxm=>eB (hx _ (fD hxm))
 unfold oE
 rw[h1,Od hx,Kd hx]
 split
 ·rfl
 split
 ·rfl
 ·cases hE:lR T Γ e o vs (EH h') with
  | none=>rfl
  | some E =>
   simp only[W6]
   rw[zp E.hw fun p hp=>hx _ (fD (Fk hE p hp))]
theorem Ob {vs:Operand->D} {E:bK} (hE:oE T Γ e o vs h=some E):∀p∈E.hw,p.1∈bj o vs:=by
 unfold oE at hE
 split at hE
 ·rename_i E0 hmk
  simp only[acw]at hE
  subst hE
  unfold iG at hmk
  split at hmk<;>try (cases hmk;done)
  rename_i ty l c ho
  split at hmk<;>try (cases hmk;done)
  rename_i d hdst
  split at hmk<;>try (cases hmk;done)
  split at hmk<;>try (cases hmk;done)
  unfold mT at hmk
  split at hmk<;>try (cases hmk;done)
  split at hmk<;>try (cases hmk;done)
  split at hmk<;>try (cases hmk;done)
  rename_i hcond
  cases hmk
  intro p hp
  simp only[acK]at hp
  subst hp
  have hd:d∈gx o vs:=by
   unfold gx
   rw[ho]
   exact acC _ (by rw[hdst];simp)
  have:=fD hd
  rwa [jK (by have:=hcond.2.2.2.2.2.2.1;omega)]at this
 split at hE
 ·rename_i E0 hcf
  simp only[acw]at hE
  subst hE
  unfold lS at hcf
  split at hcf<;>try (cases hcf;done)
  rename_i d g args hdst hco
  obtain⟨c,f,hop,hcc,hq,hargs⟩:=mD hco
  unfold BL at hcf
  split at hcf<;>try (cases hcf;done)
  obtain⟨_,_,_,_,_,_,_,_,_,hdp,rfl⟩:=vL hcf
  intro p hp
  simp only[acK]at hp
  subst hp
  have hd:d∈gx o vs:=by
   unfold gx
   rw[hop]
   exact acC _ (by rw[hdst];simp)
  have:=fD hd
  rwa [jK (by omega)]at this
 ·unfold W6 at hE
  split at hE
  ·rename_i v0 hw he
   simp only[acw]at hE
   subst hE
   intro p hp
   obtain⟨q,h1,h2⟩:=zq hw p hp
   rw[h2]
   exact fD (Fk he q h1)
  ·unfold sU at hE
   split at hE
   ·split at hE<;>try (cases hE;done)
    rw[Fj hE]
    intro p hp
    simp at hp
   ·rename_i ty p x ho
    split at hE<;>try (cases hE;done)
    intro q hq
    obtain⟨q1,q2⟩:=Tx hE q hq
    have:q.1∈gx o vs:=by
     rcases q2 with q2|q2
     ·exact oB (y:=p) (by simp[ho,Op.operands]) (by simp[ho]) (by simp[ho]) (by simp[ho]) q2
     ·exact oB (y:=x) (by simp[ho,Op.operands]) (by simp[ho]) (by simp[ho]) (by simp[ho]) q2
    have:=fD this
    rwa [jK (by omega)]at this
   ·rename_i c ho
    unfold zl at hE
    split at hE<;>try (cases hE;done)
    rename_i g args hco
    obtain⟨c',f,hop,hcc,hq,hargs⟩:=mD hco
    cases hop
    obtain⟨x,v,o',rest,r,ty,s,nv,cs,p,acg,nv',d,cs',hag,hl,_,_,_,_,_,rfl⟩:=qz hE
    have hlt:=s7 hl
    intro q hq
    simp only[acK]at hq
    subst hq
    obtain⟨y,hy,hyx⟩:∃y∈c.args.toList,vs y=.ptr x v o':=by
     have:(.ptr x v o':D)∈c.args.toList.map vs:=by rw[<- hargs,hag];exact adO
     obtain⟨y,h1,h2⟩:=ack.1 this
     exact⟨y,h1,h2⟩
    have:x∈gx o vs:=oB (y:=y) (by simp[ho,Op.operands,Call.operands,hcc];exact .inr (by simpa using hy)) (by simp[ho]) (by simp[ho]) (by simp[ho]) (by rw[hyx];simp[nm,gB])
    have:=fD this
    rwa [jK (by omega)]at this
   ·cases hE
theorem Xp {vs vs':Operand->D} (hx:∀y∈o.op.operands.toList,vs y=vs' y):oE T Γ e o vs h=oE T Γ e o vs' h∧bj o vs=bj o vs':=by
 obtain⟨h1,h2⟩:=Zh (T:=T) (Γ:=Γ) (e:=e) (h:=EH h) hx
 have h3:iG T Γ e o vs=iG T Γ e o vs':=by
  unfold iG
  split
  ·rename_i ty l c ho
   rw[hx l (by simp[ho,Op.operands]),hx c (by simp[ho,Op.operands])]
  ·rfl
 have hco:∀c,o.op=.call c->gn vs (.call c)=gn vs' (.call c):=by
  intro c ho
  unfold gn
  simp only
  split
  ·rename_i f hf
   rw[hx f (by simp[ho,Op.operands,Call.operands,hf]),adN fun y hy=>hx y (by simp[ho,Op.operands,Call.operands,hf];exact .inr (by simpa using hy))]
  ·rfl
 have h4:sU T Γ e o vs h=sU T Γ e o vs' h:=by
  unfold sU
  split
  ·rename_i ty p ho
   rw[hx p (by simp[ho,Op.operands])]
  ·rename_i ty p x ho
   rw[hx p (by simp[ho,Op.operands]),hx x (by simp[ho,Op.operands])]
  ·rename_i c ho
   rw[hco c ho]
  ·rfl
 have h5:gn vs o.op=gn vs' o.op:=by
  by_cases hc:∃c,o.op=.call c
  ·obtain⟨c,hc⟩:=hc
   rw[hc]
   exact hco c hc
  ·unfold gn
   split
   ·rename_i c ho;exact absurd ⟨c,ho⟩ hc
   ·rfl
 unfold oE bj
 rw[h1,h2,h3,h4,h5]
 exact⟨rfl,rfl⟩
end
structure jL where
 tc:List Nat
 q:Bool
def s4 (ops:Array Oper) (t:Nat->D) (o:Oper):Option Bool :=
 match o.guard with
 | none=>some true
 | some (j,want) =>
  match (ops[j]?).bind (·.dst) with
  | some g=>match t g with | .bool b=>some (b==want) | .skp=>some false|_=>none
  | none=>none
def dN (t:Nat->D) (dst:Option Nat) (d:D):Nat->D :=
 match dst with
 | none=>t
 | some i=>bT t i d
def fits (N:Nat) (dst:Option Nat):Bool :=
 match dst with
 | none=>true
 | some i=>decide (i<N)
def tF (T:Nat->Option Ty) (Γ:Env) (N e:Nat) (ops:Array Oper) (o:Oper) (t:Nat->D) (h:Nat->Option Row):Option ((Nat->D)×(Nat->Option Row)×jL) :=
 if fits N o.dst then
  match s4 ops t o with
  | some true =>
   match oE T Γ e o (ev t) h with
   | some E=>some (dN t o.dst E.val,aG h E.hw,⟨bj o (ev t),E.hw.isEmpty⟩)
   | none=>none
  | some false=>some (dN t o.dst .skp,h,⟨[],true⟩)
  | none=>none
 else none
section
variable {P:Program} {T:Nat->Option Ty} {N:Nat} {M:Nat->Prop} {L:jM} {w0:World} {blk:Nat->Option (Nat×Nat)} {t:Nat->D} {h:Nat->Option Row} {a:Act} {w:World} {e:Nat} {o:Oper} {Γ:Env} {ops:Array Oper}
theorem w5 {V:Nat->Nat->Prop} (hI:Inv N M L w0 blk V t h a w) {b:Bool} (hg:s4 ops t o=some b):Region.wanted o (yielded ops a.tmps)=b:=by
 unfold s4 at hg
 split at hg
 ·rename_i ho
  simp only[acw]at hg
  subst hg
  simp[Region.wanted,ho]
 ·rename_i j want ho
  split at hg
  ·rename_i g hgd
   split at hg
   ·rename_i b' hb
    simp only[acw]at hg
    subst hg
    have hs:=hI.slots g
    rw[hb]at hs
    have hv:=tS hs
    have hget:a.tmps[g]? = some (.bool b'):=by
     simp only[acr]at hv
     cases hx:a.tmps[g]? with
     | none=>rw[hx]at hv;cases hv
     | some v=>rw[hx]at hv;simp only[Option.getD_some]at hv;rw[hv]
    have hy:yielded ops a.tmps j=some b':=by
     unfold yielded
     rw[hgd]
     simp[hget]
    simp only[Region.wanted,ho,hy]
    cases b'<;>cases want<;>rfl
   ·rename_i hb
    simp only[acw]at hg
    subst hg
    have hs:=hI.slots g
    rw[hb]at hs
    have hv:a.tmps.getD g undef=undef:=hs
    have hy:yielded ops a.tmps j=none:=by
     unfold yielded
     rw[hgd]
     simp only[acr]at hv
     cases hx:a.tmps[g]? with
     | none=>simp only[Option.bind_some,hx]
     | some v=>rw[hx]at hv;simp only[Option.getD_some]at hv;subst hv;simp only[Option.bind_some,hx];rfl
    simp only[Region.wanted,ho,hy]
    cases want<;>rfl
   ·cases hg
  ·cases hg
theorem Inv.aas {V:Nat->Nat->Prop} (hI:Inv N M L w0 blk V t h a w) (hf:fits N o.dst=true) {d:D} {v:Value} (hx:RT w (Own M h blk) h blk V d v):Inv N M L w0 blk V (dN t o.dst d) h (a.put o.dst v) w:=by
 cases hd:o.dst with
 | none=>simpa [dN,Act.put] using hI
 | some i =>
  rw[hd]at hf
  exact hI.put (by simpa [fits] using hf) hx
theorem RZ (hT:jn P T) (hΓ:bD P Γ) {done:List Nat} {t':Nat->D} {h':Nat->Option Row} {f:jL} {K:Act->World->Prop} {Q:Exit->Act->World->Prop} (hI:DC N M L w0 blk e done t h a w)
  (hs:tF T Γ N e ops o t h=some (t',h',f)) (hd:∀d,o.dst=some d->d∉done) (hK:∀a' w' blk',DC N M L w0 blk' e (o.dst.toList++done) t' h' a' w'->K a' w') :
  if Region.wanted o (yielded ops a.tmps) then o.wp P a w K Q∨(o.asks P a w∧LetsOut Q) else K (a.put o.dst undef) w:=by
 unfold tF at hs
 split at hs
 ·rename_i hf
  split at hs
  ·rename_i hg
   rw[w5 hI.inv hg]
   simp only[if_true]
   split at hs
   ·rename_i E hE
    simp only[acw,Prod.mk.injEq]at hs
    obtain⟨rfl,rfl,_⟩:=hs
    have:=Oc hT hΓ hI (fun d hd'=>⟨hd d hd',by rw[hd']at hf;simpa [fits] using hf⟩) hE
    refine .inl (this.wp fun v w' hA =>?_)
    obtain⟨blk',hI',hR⟩:=hA
    exact hK _ _ blk' ⟨hI'.inv.aas hf hR,hI'.nv⟩
   ·cases hs
  ·rename_i hg
   rw[w5 hI.inv hg]
   simp only[acX,if_false]
   simp only[acw,Prod.mk.injEq]at hs
   obtain⟨rfl,rfl,_⟩:=hs
   have hsub:∀x,x∈done->x∈o.dst.toList++done:=fun x hx=>acC _ hx
   exact hK _ _ blk ⟨(hI.inv.aas hf (d := .skp) (v:=undef) rfl).weaken fun x n hx=>hx.step (.refl e h) hsub,hI.nv.step (.refl e h) hsub⟩
  ·cases hs
 ·cases hs
theorem eu {x:Nat} : ∀ {l:List (Nat×Option Row)} {h:Nat->Option Row},(∀p∈l,p.1≠x)->aG h l x=h x
 | [],_,_=>rfl
 | (y,r)::l,h,hn=>by
  simp only[aG]
  rw[eu (fun p hp=>hn p (by simp[hp]))]
  exact aA _ _ (fun e=>hn (y,r) (by simp) e.symm)
theorem ye {x:Nat} : ∀ {l:List (Nat×Option Row)} {h h':Nat->Option Row},(∃p∈l,p.1=x)->aG h l x=aG h' l x
 | [],_,_,he=>by obtain⟨p,hp,_⟩:=he;simp at hp
 | (y,r)::l,h,h',he=>by
  simp only[aG]
  by_cases hl:∃p∈l,p.1=x
  ·exact ye hl
  ·have hn:∀p∈l,p.1≠x:=fun p hp hpx=>hl ⟨p,hp,hpx⟩
   rw[eu hn,eu hn]
   obtain⟨p,hp,hpx⟩:=he
   rcases acu.1 hp with rfl|hp
   ·simp only at hpx;subst hpx;rw[ay,ay]
   ·exact absurd hpx (hn p hp)
theorem I6 {l l':List (Nat×Option Row)} {h:Nat->Option Row} (hd:∀p∈l,∀q∈l',p.1≠q.1):aG (aG h l) l'=aG (aG h l') l:=by
 funext x
 by_cases h1:∃p∈l,p.1=x
 ·obtain⟨p,hp,rfl⟩:=h1
  rw[eu (fun q hq e=>hd p hp q hq e.symm)]
  exact ye ⟨p,hp,rfl⟩
 ·have hn:∀p∈l,p.1≠x:=fun p hp hpx=>h1 ⟨p,hp,hpx⟩
  rw[eu hn]
  by_cases h2:∃p∈l',p.1=x
  ·exact ye h2
  ·have hn':∀p∈l',p.1≠x:=fun p hp hpx=>h2 ⟨p,hp,hpx⟩
   rw[eu hn',eu hn',eu hn]
theorem Ts {t:Nat->D} {x y:Option Nat} {v u:D} (hne:∀d,x=some d->y≠some d):dN (dN t x v) y u=dN (dN t y u) x v:=by
 cases x with
 | none=>rfl
 | some i =>
  cases y with
  | none=>rfl
  | some j=>exact WR t v u (fun e=>hne i rfl (by rw[e]))
theorem RF {t:Nat->D} {x:Option Nat} {v:D} {s:Nat} (hne:x≠some s):dN t x v s=t s:=by
 cases x with
 | none=>rfl
 | some i=>exact aA _ _ (fun e=>hne (by rw[e]))
theorem No {t t1:Nat->D} {h h1:Nat->Option Row} {f:jL} (hs:tF T Γ N e ops o t h=some (t1,h1,f)) :
  ∃v hw,t1=dN t o.dst v∧h1=aG h hw∧(∀p∈hw,p.1∈f.tc)∧(f.q=true->hw=[]) ∧
   ∀t' h',(∀s∈o.looksAt ops,t s=t' s)->(∀x∈f.tc,h x=h' x)->tF T Γ N e ops o t' h'=some (dN t' o.dst v,aG h' hw,f):=by
 have hgd:∀t':Nat->D,(∀s∈o.looksAt ops,t s=t' s)->s4 ops t o=s4 ops t' o:=by
  intro t' ht
  unfold s4
  split
  ·rfl
  ·rename_i j want ho
   split
   ·rename_i g hg
    rw[ht g (by simp[Oper.looksAt,ho,hg])]
   ·rfl
 have hvs:∀t':Nat->D,(∀s∈o.looksAt ops,t s=t' s)->∀y∈o.op.operands.toList,ev t y=ev t' y:=by
  intro t' ht y hy
  cases y with
  | tmp i=>exact ht i (by unfold Oper.looksAt;exact acB _ (List.mem_filterMap.2 ⟨_,hy,rfl⟩))
  | const v=>rfl
  | global g=>rfl
  | func f=>rfl
 unfold tF at hs
 split at hs
 ·rename_i hf
  split at hs
  ·rename_i hg
   split at hs
   ·rename_i E hE
    simp only[acw,Prod.mk.injEq]at hs
    obtain⟨rfl,rfl,rfl⟩:=hs
    refine⟨E.val,E.hw,rfl,rfl,Ob hE,fun hq=>by simpa using hq,fun t' h' ht hh =>?_⟩
    obtain⟨e1,e2⟩:=Xp (T:=T) (Γ:=Γ) (e:=e) (h:=h) (hvs t' ht)
    have e3:oE T Γ e o (ev t') h'=some E:=by
     rw[<- hE,e1]
     exact (Oa (fun x hx=>hh x (by rw[e2];exact hx))).symm
    unfold tF
    rw[if_pos hf,<- hgd t' ht,hg]
    simp only[e3,e2]
   ·cases hs
  ·rename_i hg
   simp only[acw,Prod.mk.injEq]at hs
   obtain⟨rfl,rfl,rfl⟩:=hs
   refine⟨.skp,[],rfl,rfl,fun p hp=>by simp at hp,fun _=>rfl,fun t' h' ht hh =>?_⟩
   unfold tF
   rw[if_pos hf,<- hgd t' ht,hg]
   rfl
  ·cases hs
 ·cases hs
def NP (T:Nat->Option Ty) (Γ:Env) (N e:Nat) (ops:Array Oper) (F:Nat->jL):List Nat->(Nat->D)->(Nat->Option Row)->(Nat->D)->(Nat->Option Row)->Prop
 | [],t,h,t',h'=>t=t'∧h=h'
 | i::L,t,h,t',h'=>∃o t1 h1,ops[i]? = some o∧tF T Γ N e ops o t h=some (t1,h1,F i)∧NP T Γ N e ops F L t1 h1 t' h'
def Xl (l l':List Nat):Bool:=l.all fun x => !l'.contains x
structure P0 (ops:Array Oper) (F:Nat->jL) (j i:Nat):Prop where
 apart:∀oj oi,ops[j]? = some oj->ops[i]? = some oi->oj.apart ops oi=true
 foot:((F j).q&&(F i).q||Xl (F j).tc (F i).tc)=true
theorem swap {F:Nat->jL} {i j:Nat} {L:List Nat} {t t':Nat->D} {h h':Nat->Option Row} (hr:NP T Γ N e ops F (j::i::L) t h t' h') (hi:P0 ops F j i):NP T Γ N e ops F (i::j::L) t h t' h':=by
 obtain⟨oj,t1,h1,hoj,hsj,oi,t2,h2,hoi,hsi,hrest⟩:=hr
 obtain⟨a1,a2,a3⟩:=Oper.apart_spec (hi.apart oj oi hoj hoi)
 obtain⟨vj,wj,rfl,rfl,nj,qj,locj⟩:=No hsj
 obtain⟨vi,wi,rfl,rfl,ni,qi,loci⟩:=No hsi
 have hfoot:=hi.foot
 simp only[adT,acY]at hfoot
 have d1:∀x∈(F i).tc,∀p∈wj,p.1≠x:=by
  intro x hx p hp he
  rcases hfoot with⟨h1,_⟩|h1
  ·rw[qj h1]at hp;simp at hp
  ·simp only[Xl,acy]at h1
   have:=h1 p.1 (nj p hp)
   rw[he]at this
   simp[hx]at this
 have d2:∀x∈(F j).tc,∀p∈wi,p.1≠x:=by
  intro x hx p hp he
  rcases hfoot with⟨_,h1⟩|h1
  ·rw[qi h1]at hp;simp at hp
  ·simp only[Xl,acy]at h1
   have:=h1 x hx
   have hm:=ni p hp
   rw[he]at hm
   simp[hm]at this
 have hsi':=loci t h (fun s hs=>RF (fun hd=>a1 s hd hs)) (fun x hx=>eu (d1 x hx))
 have hsj':=locj (dN t oi.dst vi) (aG h wi) (fun s hs=>(RF (fun hd=>a3 s hd hs)).symm) (fun x hx=>(eu (d2 x hx)).symm)
 refine⟨oi,_,_,hoi,hsi',oj,_,_,hoj,hsj',?_⟩
 rw[Ts (x:=oi.dst) (y:=oj.dst) (fun d hd hd'=>a2 d hd' hd),I6 (l:=wi) (l':=wj) (fun p hp q hq he=>d1 p.1 (ni p hp) q hq he.symm)]
 exact hrest
theorem front {F:Nat->jL} {i:Nat} {post:List Nat} : ∀ {pre:List Nat} {t t':Nat->D} {h h':Nat->Option Row},NP T Γ N e ops F (pre++i::post) t h t' h'->(∀j∈pre,P0 ops F j i)->NP T Γ N e ops F (i::(pre++post)) t h t' h'
 | [],_,_,_,_,hr,_=>hr
 | j::pre,t,t',h,h',hr,hi=>by
  obtain⟨oj,t1,h1,hoj,hsj,hrest⟩:=hr
  have ih:=front (pre:=pre) hrest (fun k hk=>hi k (by simp[hk]))
  exact swap ⟨oj,t1,h1,hoj,hsj,ih⟩ (hi j (by simp))
def direct (o:Oper):List Nat:=(o.after.toList.filter (Region.binds .any)).map (·.on)
def tV:List Oper->List (List Nat)->List (List Nat)
 | [],acc=>acc
 | o::l,acc=>tV l (acc++[direct o++(direct o).flatMap fun k=>acc.getD k []])
def Y8 (ops:Array Oper):List (List Nat):=tV ops.toList []
theorem Bi (S:Nat->Prop):∀(l:List Oper) (acc:List (List Nat)) (k:Nat),k=acc.length->(∀i j,j∈acc.getD i []->i<k->(∀m o,ops[m]? = some o->S m->∀d∈direct o,S d)->(∀o,ops[i]? = some o->∀d∈direct o,S d)->S j) ->
  (∀j,l[j]? = ops[k+j]?)->∀i j,j∈(tV l acc).getD i []->(∀m o,ops[m]? = some o->S m->∀d∈direct o,S d)->(∀o,ops[i]? = some o->∀d∈direct o,S d)->S j
 | [],acc,k,hk,hacc,hl,i,j,hj,hS,hi=>by
  simp only[tV]at hj
  by_cases hik:i<k
  ·exact hacc i j hj hik hS hi
  ·have:acc.getD i []=[]:=by simp[List.getD,adU (show acc.length<=i by omega)]
   rw[this]at hj
   simp at hj
 | o::l,acc,k,hk,hacc,hl,i,j,hj,hS,hi=>by
  simp only[tV]at hj
  refine Bi S l _ (k+1) (by simp[hk]) ?_ (fun j=>by have:=hl (j+1);simpa [acI,Nat.add_comm 1 j] using this) i j hj hS hi
  intro i' j' hj' hik' hS' hi'
  by_cases hlt:i'<k
  ·have:(acc++[direct o++(direct o).flatMap fun k=>acc.getD k []]).getD i' []=acc.getD i' []:=by
    simp[List.getD,ac1 (show i'<acc.length by omega)]
   rw[this]at hj'
   exact hacc i' j' hj' hlt hS' hi'
  ·obtain rfl:i'=k:=by omega
   have:(acc++[direct o++(direct o).flatMap fun k=>acc.getD k []]).getD i' []=direct o++(direct o).flatMap fun k=>acc.getD k []:=by
    simp[List.getD,ac2 (show acc.length<=i' by omega),hk]
   rw[this]at hj'
   have ho:ops[i']? = some o:=by have:=hl 0;simpa using this.symm
   rcases adw.1 hj' with hd|hd
   ·exact hi' o ho j' hd
   ·obtain⟨m,hm,hmj⟩:=adM.1 hd
    have hSm:=hi' o ho m hm
    by_cases hmk:m<i'
    ·exact hacc m j' hmj hmk hS' (fun o' ho' d hd'=>hS' m o' ho' hSm d hd')
    ·have:acc.getD m []=[]:=by simp[List.getD,adU (show acc.length<=m by omega)]
     rw[this]at hmj
     simp at hmj
theorem Xh {S:Nat->Prop} {i j:Nat} (hj:j∈(Y8 ops).getD i []) (hS:∀m o,ops[m]? = some o->S m->∀d∈direct o,S d) (hi:∀o,ops[i]? = some o->∀d∈direct o,S d):S j :=
 Bi S ops.toList [] 0 rfl (fun i j hj _ _ _=>by simp at hj) (fun j=>by simp) i j hj hS hi
def UJ (acc:List Nat):List Nat->Nat
 | []=>0
 | k::l=>(2 ^ k ||| acc.getD k 0) ||| UJ acc l
def Bj:List Oper->List Nat->List Nat
 | [],acc=>acc
 | o::l,acc=>Bj l (acc++[UJ acc (direct o)])
def QG (ops:Array Oper):List Nat:=Bj ops.toList []
theorem QJ {acc:List Nat} {j:Nat} : ∀ {l:List Nat},(UJ acc l).testBit j=true->j∈l∨∃k∈l,(acc.getD k 0).testBit j=true
 | [],h=>by simp[UJ]at h
 | k::l,h=>by
  simp only[UJ,Nat.testBit_or,adT,Nat.testBit_two_pow,decide_eq_true_eq]at h
  rcases h with (rfl|h)|h
  ·exact .inl (adO ..)
  ·exact .inr ⟨k,adO ..,h⟩
  ·rcases QJ h with h|⟨k',h1,h2⟩
   ·exact .inl (adP _ h)
   ·exact .inr ⟨k',adP _ h1,h2⟩
theorem y7:∀(l:List Oper) (accM:List Nat) (acc:List (List Nat)),accM.length=acc.length->(∀i j,(accM.getD i 0).testBit j=true->j∈acc.getD i [])->∀i j,((Bj l accM).getD i 0).testBit j=true->j∈(tV l acc).getD i []
 | [],_,_,_,h,i,j,hj=>h i j hj
 | o::l,accM,acc,hl,h,i,j,hj=>by
  refine y7 l _ _ (by simp[hl]) (fun i' j' hj' =>?_) i j hj
  by_cases h1:i'<accM.length
  ·rw[ac0,ac1 h1,<- ac0]at hj'
   rw[ac0,ac1 (by omega),<- ac0]
   exact h i' j' hj'
  ·by_cases h2:i'=accM.length
   ·subst h2
    rw[ac0,ac2 (acm _),ads]at hj'
    simp only[List.getElem?_cons_zero,Option.getD_some]at hj'
    rw[hl,ac0,ac2 (acm _),ads]
    simp only[List.getElem?_cons_zero,Option.getD_some,adw,adM]
    rcases QJ hj' with hj'|⟨k,hk,hj'⟩
    ·exact .inl hj'
    ·exact .inr ⟨k,hk,h k j' hj'⟩
   ·rw[ac0,adU (by simp;omega)]at hj'
    simp at hj'
theorem Uz {i j:Nat} (h:((QG ops).getD i 0).testBit j=true):j∈(Y8 ops).getD i [] :=
 y7 ops.toList [] [] rfl (fun i j h=>by simp at h) i j h
def P5 (ops:Array Oper) (F:Nat->jL):Prop:=∀j i,j<i->i<ops.size->j∈(Y8 ops).getD i []∨P0 ops F j i
theorem TH (hT:jn P T) (hΓ:bD P Γ) {F:Nat->jL} {Q:Exit->Act->World->Prop} {t':Nat->D} {h':Nat->Option Row} (hp:P5 ops F) (hedge:∀i o,ops[i]? = some o->∀d∈direct o,d<i)
  (hdst:∀(i j:Nat) (oi oj:Oper) (d:Nat),ops[i]? = some oi->ops[j]? = some oj->oi.dst=some d->oj.dst=some d->i=j) (hQ:∀a' w' blk' done,DC N M L w0 blk' e done t' h' a' w'->Q .normal a' w') :
  ∀(n:Nat) (LL:List Nat) (listed:Array Bool) (t:Nat->D) (h:Nat->Option Row) (a:Act) (w:World) (blk:Nat->Option (Nat×Nat)) (done:List Nat),LL.length=n->(∀i,i∈LL↔listed.getD i true=false)->LL.Pairwise (· < ·)->(∀i∈LL,i<ops.size)->listed.size=ops.size ->
   (∀i o,ops[i]? = some o->listed.getD i false=true->∀d∈direct o,listed.getD d false=true)->(∀d∈done,∃i o,ops[i]? = some o∧o.dst=some d∧listed.getD i false=true) ->
   NP T Γ N e ops F LL t h t' h'->DC N M L w0 blk e done t h a w->wpAny P .any ops Q n listed a w:=by
 intro n
 induction n with
 | zero =>
  intro LL listed t h a w blk done hn hL hs hlt hsz hdown hdone hr hI
  have:LL=[]:=adx hn
  subst this
  obtain⟨rfl,rfl⟩:=hr
  refine⟨?_,hQ a w blk done hI⟩
  refine List.eq_nil_iff_forall_not_mem.2 fun i hi =>?_
  have:=(mem_ready.1 hi).1
  exact absurd ((hL i).2 this) (by simp)
 | succ n ih =>
  intro LL listed t h a w blk done hn hL hs hlt hsz hdown hdone hr hI
  refine⟨fun hempty =>?_,fun i hi =>?_⟩
  ·cases LL with
   | nil=>simp at hn
   | cons i LL =>
    obtain⟨o,t1,h1,ho,_⟩:=hr
    have hready:i∈Region.ready .any ops listed:=by
     refine mem_ready.2 ⟨(hL i).1 (by simp),o,ho,fun ed hed hb =>?_⟩
     have hd:ed.on∈direct o:=ack.2 ⟨ed,adV.2 ⟨by simpa using hed,hb⟩,rfl⟩
     have hlt':=hedge i o ho _ hd
     by_cases hm:ed.on∈i::LL
     ·rcases acu.1 hm with hm|hm
      ·omega
      ·have:=(adW.1 hs).1 _ hm
       omega
     ·have h1:¬listed.getD ed.on true=false:=fun hf=>hm ((hL _).2 hf)
      have h2:ed.on<listed.size:=by rw[hsz];have:=hlt i (by simp);omega
      have:listed.getD ed.on true=listed.getD ed.on false:=by simp[Array.getD,h2]
      rw[<- this]
      simpa using h1
    rw[hempty]at hready
    simp at hready
  ·obtain⟨hi0,o,ho,hneeds⟩:=mem_ready.1 hi
   have hiL:i∈LL:=(hL i).2 hi0
   obtain⟨pre,post,rfl⟩:=List.append_of_mem hiL
   have hisz:i<listed.size:=by rw[hsz];exact hlt i hiL
   have hdirect:∀d∈direct o,listed.getD d false=true:=by
    intro d hd
    obtain⟨ed,hed,rfl⟩:=ack.1 hd
    obtain⟨h1,h2⟩:=adV.1 hed
    exact hneeds ed (by simpa using h1) h2
   have hind:∀j∈pre,P0 ops F j i:=by
    intro j hj
    have hji:j<i:=by
     have:=adX.1 hs
     exact this.2.2 j hj i (by simp)
    rcases hp j i hji (hlt i hiL) with hc|hc
    ·have hjl:listed.getD j false=true:=Xh (S:=fun m=>listed.getD m false=true) hc (fun m om hm hSm d hd=>hdown m om hm hSm d hd) (fun o' ho' d hd=>by
      rw[ho]at ho'
      cases ho'
      exact hdirect d hd)
     have hjt:=(hL j).1 (by simp[hj])
     have hjs:j<listed.size:=by omega
     have:listed.getD j true=listed.getD j false:=by simp[Array.getD,hjs]
     rw[this,hjl]at hjt
     cases hjt
    ·exact hc
   obtain⟨o',t1,h1,ho',hstep,hrest⟩:=front hr hind
   rw[ho]at ho'
   cases ho'
   unfold wpOp
   simp only[ho]
   refine RZ hT hΓ hI hstep (fun d hd hdd =>?_) (fun a' w' blk' hI' =>?_)
   ·obtain⟨k,ok,hk,hkd,hkl⟩:=hdone d hdd
    have:=hdst i k o ok d ho hk hd hkd
    subst this
    have:listed.getD i true=listed.getD i false:=by simp[Array.getD,hisz]
    rw[this,hkl]at hi0
    cases hi0
   ·have hset:∀k,(listed.setIfInBounds i true).getD k false=true↔k=i∨listed.getD k false=true:=by
     intro k
     by_cases hki:k=i
     ·subst hki;simp[hisz]
     ·rw[getD_set_ne false (Ne.symm hki)];simp[hki]
    have hset2:∀k,(listed.setIfInBounds i true).getD k true=false↔k≠i∧listed.getD k true=false:=by
     intro k
     by_cases hki:k=i
     ·subst hki;simp[hisz]
     ·rw[getD_set_ne true (Ne.symm hki)];simp[hki]
    have hnd:(pre++i::post).Nodup:=hs.imp (fun h=>Nat.ne_of_lt h)
    refine ih (pre++post) (listed.setIfInBounds i true) t1 h1 a' w' blk' _ (by simp at hn ⊢;omega) (fun k =>?_) ?_ (fun k hk=>hlt k (by simp at hk ⊢;rcases hk with hk|hk<;>simp[hk])) (by simpa using hsz) (fun k ok hk hkl d hd =>?_) (fun d hd =>?_) hrest hI'
    ·rw[hset2]
     constructor
     ·intro hk
      have hkL:k∈pre++i::post:=by simp at hk ⊢;rcases hk with hk|hk<;>simp[hk]
      refine⟨fun e =>?_,(hL k).1 hkL⟩
      subst e
      have:=List.nodup_append.1 hnd
      simp only[adY]at this
      rcases adw.1 hk with hk|hk
      ·exact this.2.2 k hk k (by simp) rfl
      ·exact this.2.1.1 hk
     ·rintro⟨hk,hkl⟩
      have:=(hL k).2 hkl
      simp only[adw,acu]at this ⊢
      rcases this with h|h|h
      ·exact .inl h
      ·exact absurd h hk
      ·exact .inr h
    ·refine List.Pairwise.sublist ?_ hs
     exact List.Sublist.append_left (List.sublist_cons_self _ _) _
    ·rw[hset]
     rcases (hset k).1 hkl with rfl|hkl
     ·rw[ho]at hk;cases hk;exact .inr (hdirect d hd)
     ·exact .inr (hdown k ok hk hkl d hd)
    ·rcases adw.1 hd with hd|hd
     ·exact⟨i,o,ho,by simpa using hd,(hset i).2 (.inl rfl)⟩
     ·obtain⟨k,ok,hk,hkd,hkl⟩:=hdone d hd
      exact⟨k,ok,hk,hkd,(hset k).2 (.inr hkl)⟩
end
def Aj (T:Nat->Option Ty) (Γ:Env) (N e:Nat) (ops:Array Oper):List Oper->(Nat->D)->(Nat->Option Row)->Option ((Nat->D)×(Nat->Option Row)×List jL)
 | [],t,h=>some (t,h,[])
 | o::l,t,h =>
  match tF T Γ N e ops o t h with
  | some (t1,h1,f) =>
   match Aj T Γ N e ops l t1 h1 with
   | some (t2,h2,fs)=>some (t2,h2,f::fs)
   | none=>none
  | none=>none
def Ii:List Nat->Bool
 | []=>true
 | x::l => !l.contains x&&Ii l
def UU (ops:Array Oper):Bool:=Ii (ops.toList.filterMap (·.dst))
def Qg (ops:Array Oper) (j i:Nat):Bool :=
 match ops[j]?,ops[i]? with
 | some oj,some oi=>oj.apart ops oi
 | _,_=>true
def N9 (ops:Array Oper):Bool :=
 (ops.toList.zipIdx.all fun p=>(direct p.1).all fun d=>decide (d<p.2)) &&
 ((List.range ops.size).all fun i=>(List.range i).all fun j=>((QG ops).getD i 0).testBit j||Qg ops j i)
def Gk (ops:Array Oper):List (Nat×Nat):=(List.range ops.size).flatMap fun i=>((List.range i).filter fun j => !((QG ops).getD i 0).testBit j).map fun j=>(j,i)
def VS (fs:List jL) (p:Nat×Nat):Bool :=
 match fs[p.1]?,fs[p.2]? with
 | some f,some g=>f.q&&g.q||Xl f.tc g.tc
 | _,_=>false
def BC (ops:Array Oper) (fs:List jL):Bool:=(Gk ops).all (VS fs)
inductive Ex where
 | normal
 | exit (n:Nat)
 | ret
structure St where
 t:Nat->D
 h:Nat->Option Row
 e:Nat
def iter (f:St->Option (Ex×St)):Nat->St->Option (Ex×St)
 | 0,_=>none
 | n+1,s =>
  match f s with
  | some (.normal,s1)=>iter f n s1
  | r=>r
def uR (T:Nat->Option Ty) (Γ:Env) (N:Nat) (ops:Array Oper) (draw:Bool) (s:St):Option (Ex×St) :=
 match Aj T Γ N s.e ops ops.toList s.t s.h with
 | some (t,h,fs)=>if !draw||BC ops fs then some (.normal,⟨t,h,s.e+1⟩) else none
 | none=>none
def Nx (d:D) (x y:Option (Ex×St)):Option (Ex×St) :=
 match d with
 | .bool b=>if b then x else y
 | _=>none
def aa9 (r:Option (Ex×St)) (k:St->Option (Ex×St)):Option (Ex×St) :=
 match r with
 | some (.normal,s)=>k s
 | r=>r
def PR (id:Nat) (r:Option (Ex×St)):Option (Ex×St) :=
 match r with
 | some (.exit n,s)=>if n=id then some (.normal,s) else some (.exit n,s)
 | r=>r
def fL (T:Nat->Option Ty) (Γ:Env) (N F:Nat):Code->St->Option (Ex×St)
 | .skip,s=>some (.normal,s)
 | .region _ ops draw,s=>uR T Γ N ops draw s
 | .seq a b,s=>aa9 (fL T Γ N F a s) (fL T Γ N F b)
 | .cond c x y,s=>Nx (ev s.t c) (fL T Γ N F x s) (fL T Γ N F y s)
 | .block id b,s=>PR id (fL T Γ N F b s)
 | .loop b,s=>iter (fL T Γ N F b) F s
 | .exit id,s=>some (.exit id,s)
 | .ret,s=>some (.ret,s)
 | _,_=>none
def codeOk:Code->Bool
 | .region _ ops draw=>UU ops&&(!draw||N9 ops)
 | .seq a b=>codeOk a&&codeOk b
 | .cond _ x y=>codeOk x&&codeOk y
 | .block _ b=>codeOk b
 | .loop b=>codeOk b
 | _=>true
section
variable {P:Program} {T:Nat->Option Ty} {N:Nat} {M:Nat->Prop} {L:jM} {w0:World} {blk:Nat->Option (Nat×Nat)} {t:Nat->D} {h:Nat->Option Row} {a:Act} {w:World} {e:Nat} {o:Oper} {Γ:Env} {ops:Array Oper}
theorem Ge:∀ {l:List Nat},Ii l=true->l.Nodup
 | [],_=>List.nodup_nil
 | x::l,h=>by
  simp only[Ii,acY,acZ,List.contains_eq_mem,decide_eq_false_iff_not]at h
  exact adY.2 ⟨h.1,Ge h.2⟩
theorem DI:∀ {l:List Oper} {done:List Nat},(l.filterMap (·.dst)).Nodup->(∀o∈l,∀d,o.dst=some d->d∉done)->∀o l',l=o::l'->(l'.filterMap (·.dst)).Nodup∧∀o'∈l',∀d,o'.dst=some d->d∉o.dst.toList++done:=by
 intro l done hn hd o l' he
 subst he
 cases ho:o.dst with
 | none =>
  rw[List.filterMap_cons_none ho]at hn
  exact⟨hn,fun o' ho' d hd'=>by simpa using hd o' (by simp[ho']) d hd'⟩
 | some x =>
  rw[List.filterMap_cons_some ho]at hn
  obtain⟨h1,h2⟩:=adY.1 hn
  refine⟨h2,fun o' ho' d hd' hm =>?_⟩
  simp only[Option.toList_some,List.singleton_append,acu]at hm
  rcases hm with rfl|hm
  ·exact h1 (List.mem_filterMap.2 ⟨o',ho',hd'⟩)
  ·exact hd o' (by simp[ho']) d hd' hm
theorem Dz (hT:jn P T) (hΓ:bD P Γ) {Q:Exit->Act->World->Prop} : ∀ {l:List Oper} {t t':Nat->D} {h h':Nat->Option Row} {fs:List jL} {a:Act} {w:World} {blk:Nat->Option (Nat×Nat)} {done:List Nat},
  Aj T Γ N e ops l t h=some (t',h',fs)->(l.filterMap (·.dst)).Nodup->(∀o∈l,∀d,o.dst=some d->d∉done)->DC N M L w0 blk e done t h a w ->
  (∀a' w' blk' done,DC N M L w0 blk' e done t' h' a' w'->Q .normal a' w')->wpList P ops Q l a w
 | [],t,t',h,h',fs,a,w,blk,done,hr,_,_,hI,hQ=>by
  simp only[Aj,acw,Prod.mk.injEq]at hr
  obtain⟨rfl,rfl,_⟩:=hr
  exact hQ a w blk done hI
 | o::l,t,t',h,h',fs,a,w,blk,done,hr,hn,hd,hI,hQ=>by
  simp only[Aj]at hr
  split at hr
  ·rename_i t1 h1 f hs
   split at hr
   ·rename_i t2 h2 fs2 hr2
    simp only[acw,Prod.mk.injEq]at hr
    obtain⟨rfl,rfl,_⟩:=hr
    obtain⟨hn',hd'⟩:=DI hn hd o l rfl
    have:=RZ (K:=wpList P ops Q l) (Q:=Q) hT hΓ hI hs (hd o (by simp)) (fun a' w' blk' hI'=>Dz hT hΓ hr2 hn' hd' hI' hQ)
    unfold wpList
    exact this
   ·cases hr
  ·cases hr
theorem xB {F:Nat->jL} : ∀ {l:List Oper} {k:Nat} {t t':Nat->D} {h h':Nat->Option Row} {fs:List jL},Aj T Γ N e ops l t h=some (t',h',fs)->(∀j,l[j]? = ops[k+j]?)->(∀j f,fs[j]? = some f->F (k+j)=f) ->
  fs.length=l.length∧NP T Γ N e ops F (List.range' k l.length) t h t' h'
 | [],k,t,t',h,h',fs,hr,_,_=>by
  simp only[Aj,acw,Prod.mk.injEq]at hr
  obtain⟨rfl,rfl,rfl⟩:=hr
  exact⟨rfl,rfl,rfl⟩
 | o::l,k,t,t',h,h',fs,hr,hl,hF=>by
  simp only[Aj]at hr
  split at hr
  ·rename_i t1 h1 f hs
   split at hr
   ·rename_i t2 h2 fs2 hr2
    simp only[acw,Prod.mk.injEq]at hr
    obtain⟨rfl,rfl,rfl⟩:=hr
    obtain⟨i1,i2⟩:=xB (k:=k+1) hr2 (fun j=>by have:=hl (j+1);simpa [acI,Nat.add_comm 1 j] using this) (fun j f' hj=>by have:=hF (j+1) f' (by simpa using hj);rwa [show k+(j+1)=k+1+j by omega]at this)
    refine⟨by simp[i1],o,t1,h1,by have:=hl 0;simpa using this.symm,?_,i2⟩
    have:=hF 0 f rfl
    rw[acW]at this
    rw[this]
    exact hs
   ·cases hr
  ·cases hr
def Holds (N:Nat) (M:Nat->Prop) (L:jM) (w0:World) (s:St) (a:Act) (w:World):Prop:=∃blk,DC N M L w0 blk s.e [] s.t s.h a w
theorem Ec (hT:jn P T) (hΓ:bD P Γ) (hm:P.follows .mixedOrders=true) {id:Nat} {draw:Bool} {s:St} {x:Ex} {s':St} {Q:Exit->Act->World->Prop} (hr:uR T Γ N ops draw s=some (x,s')) (hok:(UU ops&&(!draw||N9 ops))=true)
  (hH:Holds N M L w0 s a w) (hQ:∀a' w',Holds N M L w0 s' a' w'->Q .normal a' w'):x=.normal∧(Code.region id ops draw).wp P Q a w:=by
 unfold uR at hr
 split at hr
 ·rename_i t h fs hrun
  split at hr
  ·rename_i hdyn
   simp only[acw,Prod.mk.injEq]at hr
   obtain⟨rfl,rfl⟩:=hr
   refine⟨rfl,?_⟩
   simp only[acY]at hok
   have hnd:(ops.toList.filterMap (·.dst)).Nodup:=Ge hok.1
   obtain⟨blk,hI⟩:=hH
   have hfin:∀a' w' blk' done,DC N M L w0 blk' s.e done t h a' w'->Q .normal a' w':=by
    intro a' w' blk' done hI'
    refine hQ a' w' ⟨blk',hI'.inv.weaken fun x v hx =>?_,fun x r ty s nv cs k1 k2 k3 k4 =>?_⟩
    ·rcases hx with⟨hn,hx|⟨hx,_⟩⟩|⟨hn,h2,h3,h4⟩
     ·exact .inl ⟨hn,.inl (by simp only;omega)⟩
     ·exact .inl ⟨hn,.inl (by simp only;omega)⟩
     ·exact .inr ⟨hn,by simp only;omega,fun _=>by simp only;omega,h4⟩
    ·have:=hI'.nv x r ty s nv cs k1 k2 k3 k4
     exact⟨by simp only;omega,fun _=>by simp only;omega⟩
   cases draw with
   | false =>
    refine wp_region_list ?_
    exact Dz hT hΓ hrun hnd (done:=[]) (fun o _ d _=>by simp) hI hfin
   | true =>
    simp only[adJ,Bool.false_or]at hdyn hok
    refine wp_region_any hm ?_
    have hdr:=hok.2
    simp only[N9,acY]at hdr
    let F:Nat->jL:=fun i=>fs.getD i ⟨[],true⟩
    obtain⟨hlen,hRun⟩:=xB (F:=F) (k:=0) hrun (fun j=>by simp) (fun j f hj=>by simp[F,List.getD,hj])
    have hedge:∀i o,ops[i]? = some o->∀d∈direct o,d<i:=by
     intro i o ho d hd
     have h1:=hdr.1
     rw[acy]at h1
     have hmem:(o,i)∈ops.toList.zipIdx:=by
      rw[List.mem_zipIdx_iff_getElem?]
      simpa using ho
     have:=h1 _ hmem
     rw[acy]at this
     simpa using this d hd
    have hdst:∀(i j:Nat) (oi oj:Oper) (d:Nat),ops[i]? = some oi->ops[j]? = some oj->oi.dst=some d->oj.dst=some d->i=j:=by
     have key:∀(l:List Oper),(l.filterMap (·.dst)).Nodup->∀(i j:Nat) (oi oj:Oper) (d:Nat),l[i]? = some oi->l[j]? = some oj->oi.dst=some d->oj.dst=some d->i=j:=by
      intro l
      induction l with
      | nil=>intro _ i j oi oj d hi;simp at hi
      | cons o l ih =>
       intro hn i j oi oj d hi hj hdi hdj
       have hn':(l.filterMap (·.dst)).Nodup:=by
        cases ho:o.dst with
        | none=>rw[List.filterMap_cons_none ho]at hn;exact hn
        | some x=>rw[List.filterMap_cons_some ho]at hn;exact (adY.1 hn).2
       have hnot:∀(k:Nat) (ok:Oper),l[k]? = some ok->o.dst=some d->ok.dst=some d->False:=by
        intro k ok hk ho hkd
        rw[List.filterMap_cons_some ho]at hn
        exact (adY.1 hn).1 (List.mem_filterMap.2 ⟨ok,acP hk,hkd⟩)
       cases i with
       | zero =>
        simp only[List.getElem?_cons_zero,acw]at hi
        subst hi
        cases j with
        | zero=>rfl
        | succ j=>exact (hnot j oj (by simpa using hj) hdi hdj).elim
       | succ i =>
        cases j with
        | zero =>
         simp only[List.getElem?_cons_zero,acw]at hj
         subst hj
         exact (hnot i oi (by simpa using hi) hdj hdi).elim
        | succ j=>rw[ih hn' i j oi oj d (by simpa using hi) (by simpa using hj) hdi hdj]
     intro i j oi oj d hi hj
     exact key ops.toList hnd i j oi oj d (by simpa using hi) (by simpa using hj)
    have hpairs:P5 ops F:=by
     intro j i hji hi
     by_cases hc:((QG ops).getD i 0).testBit j=true
     ·exact .inl (Uz hc)
     ·refine .inr ⟨fun oj oi hoj hoi =>?_,?_⟩
      ·have h2:=hdr.2
       rw[acy]at h2
       have:=h2 i (adZ.2 hi)
       rw[acy]at this
       have:=this j (adZ.2 hji)
       simp only[adT]at this
       rcases this with h'|h'
       ·exact absurd h' hc
       ·simpa [Qg,hoj,hoi] using h'
      ·rw[BC,acy]at hdyn
       have hmem:(j,i)∈Gk ops:=by
        refine adM.2 ⟨i,adZ.2 hi,ack.2 ⟨j,adV.2 ⟨adZ.2 hji,?_⟩,rfl⟩⟩
        simpa using hc
       have:=hdyn _ hmem
       have hi':i<fs.length:=by rw[hlen];simpa using hi
       have hj':j<fs.length:=by omega
       simp only[VS,acA hj',acA hi']at this
       simp only[F,ac0,acA hj',acA hi',Option.getD_some]
       exact this
    rw[ac3,<- List.range_eq_range']at hRun
    have hrep:∀i,(Array.replicate ops.size false).getD i false=false:=by
     intro i
     by_cases hi:i<ops.size
     ·simp[Array.getD,hi]
     ·simp[Array.getD,hi]
    have hrept:∀i,(Array.replicate ops.size false).getD i true=false↔i<ops.size:=by
     intro i
     by_cases hi:i<ops.size
     ·simp[Array.getD,hi]
     ·simp[Array.getD,hi]
    exact TH hT hΓ hpairs hedge hdst hfin ops.size (List.range ops.size) (Array.replicate ops.size false) s.t s.h a _ blk [] (by simp) (fun i=>by rw[hrept];exact adZ) List.pairwise_lt_range (fun i hi=>adZ.1 hi) (by simp)
     (fun i o _ hl=>by rw[hrep]at hl;cases hl) (fun d hd=>by simp at hd) hRun ⟨hI.inv.drew,hI.nv⟩
  ·cases hr
 ·cases hr
def Oh:Ex->Exit
 | .normal =>.normal
 | .exit n =>.exit n
 | .ret =>.ret
theorem po (hT:jn P T) (hΓ:bD P Γ) (hm:P.follows .mixedOrders=true) {F:Nat} : ∀(c:Code) (s:St) (x:Ex) (s':St) (Q:Exit->Act->World->Prop) (a:Act) (w:World),fL T Γ N F c s=some (x,s')->codeOk c=true->Holds N M L w0 s a w ->
  (∀a' w',Holds N M L w0 s' a' w'->Q (Oh x) a' w')->c.wp P Q a w:=by
 intro c
 induction c with
 | skip =>
  intro s x s' Q a w hr _ hH hQ
  simp only[fL,acw,Prod.mk.injEq]at hr
  obtain⟨rfl,rfl⟩:=hr
  exact wp_skip (hQ a w hH)
 | region id ops draw =>
  intro s x s' Q a w hr hok hH hQ
  simp only[fL]at hr
  have hx:x=.normal:=by
   unfold uR at hr
   split at hr
   ·split at hr
    ·simp only[acw,Prod.mk.injEq]at hr;exact hr.1.symm
    ·cases hr
   ·cases hr
  subst hx
  exact (Ec hT hΓ hm hr hok hH hQ).2
 | seq b c ihb ihc =>
  intro s x s' Q a w hr hok hH hQ
  simp only[codeOk,acY]at hok
  simp only[fL,aa9]at hr
  refine wp_seq ?_
  split at hr
  ·rename_i s1 h1
   exact ihb s .normal s1 _ a w h1 hok.1 hH (fun a' w' hH'=>ihc s1 x s' Q a' w' hr hok.2 hH' hQ)
  ·rename_i r hne
   refine ihb s x s' _ a w hr hok.1 hH (fun a' w' hH' =>?_)
   cases x with
   | normal=>exact absurd hr (fun h=>hne s' h)
   | exit n=>exact hQ a' w' hH'
   | ret=>exact hQ a' w' hH'
 | cond c b d ihb ihd =>
  intro s x s' Q a w hr hok hH hQ
  simp only[codeOk,acY]at hok
  simp only[fL]at hr
  unfold Nx at hr
  split at hr
  ·rename_i bb hb
   obtain⟨blk,hI⟩:=hH
   have hv:=hI.inv.ev c
   rw[hb]at hv
   refine wp_cond (t:=bb) (tS hv) ?_
   cases bb with
   | true=>exact ihb s x s' Q a w hr hok.1 ⟨blk,hI⟩ hQ
   | false=>exact ihd s x s' Q a w hr hok.2 ⟨blk,hI⟩ hQ
  ·cases hr
 | block id b ih =>
  intro s x s' Q a w hr hok hH hQ
  simp only[fL]at hr
  refine wp_block ?_
  unfold PR at hr
  split at hr
  ·rename_i n s1 h1
   refine ih s (.exit n) s1 _ a w h1 hok hH (fun a' w' hH' =>?_)
   split at hr
   ·rename_i hn
    simp only[acw,Prod.mk.injEq]at hr
    obtain⟨rfl,rfl⟩:=hr
    simp only[Oh,Exit.inBlock,hn,if_true]
    exact hQ a' w' hH'
   ·rename_i hn
    simp only[acw,Prod.mk.injEq]at hr
    obtain⟨rfl,rfl⟩:=hr
    simp only[Oh,Exit.inBlock,hn,if_false]
    exact hQ a' w' hH'
  ·rename_i r hne
   refine ih s x s' _ a w hr hok hH (fun a' w' hH' =>?_)
   cases x with
   | normal=>exact hQ a' w' hH'
   | exit n=>exact absurd hr (fun h=>hne n s' h)
   | ret=>exact hQ a' w' hH'
 | loop b ih =>
  intro s x s' Q a w hr hok hH hQ
  simp only[fL]at hr
  refine wp_loop_ghost (fun n a w=>∃s,Holds N M L w0 s a w∧iter (fL T Γ N F b) n s=some (x,s')) F ⟨s,hH,hr⟩ ?_
  intro n a w ⟨s1,hH1,h1⟩
  cases n with
  | zero=>simp[iter]at h1
  | succ n =>
   simp only[iter]at h1
   split at h1
   ·rename_i s2 h2
    exact ih s1 .normal s2 _ a w h2 hok hH1 (fun a' w' hH'=>⟨n,by omega,s2,hH',h1⟩)
   ·rename_i r hne
    refine ih s1 x s' _ a w h1 hok hH1 (fun a' w' hH' =>?_)
    cases x with
    | normal=>exact absurd h1 (fun h=>hne s' h)
    | exit n=>exact hQ a' w' hH'
    | ret=>exact hQ a' w' hH'
 | exit id =>
  intro s x s' Q a w hr _ hH hQ
  simp only[fL,acw,Prod.mk.injEq]at hr
  obtain⟨rfl,rfl⟩:=hr
  exact wp_exit (hQ a w hH)
 | ret =>
  intro s x s' Q a w hr _ hH hQ
  simp only[fL,acw,Prod.mk.injEq]at hr
  obtain⟨rfl,rfl⟩:=hr
  exact wp_ret (hQ a w hH)
 | _=>intro s x s' Q a w hr;simp[fL]at hr
end
def MO (T:Nat->Option Ty) (s:St):ResultVar->Option (D×List Nat)
 | .tmp i=>bo s.h (s.t i)
 | .cell i ty =>
  match T ty,s.t i with
  | some τ,.ptr x v o=>match cY τ s.h (.ptr x v o) with|some E=>some (fa E.val,[])|none=>none
  | _,_=>none
def tv (T:Nat->Option Ty) (s:St):List ResultVar->Option (List D×List Nat)
 | []=>some ([],[])
 | r::rs =>
  match MO T s r with
  | some (d,fr)=>match tv T s rs with
   | some (ds,fr')=>some (d::ds,fr++fr')
   | none=>none
  | none=>none
def me:List D->D
 | [d]=>d
 | ds =>.tup ds
inductive Mode where
 | clean|same|tight
 | fresh (ty s:Nat)
def bS:Option (D×Row)->List D->St
 | none,args=>⟨fun i=>args.getD i .und,fun _=>none,0⟩
 | some (d0,r),args=>⟨fun i=>(d0::args).getD i .und,fun x=>if x=0 then some { r with v:=0 } else none,1⟩
def lu:Option (D×Row)->St->Option (Option Row)
 | none,_=>some none
 | some (_,r),s =>
  match s.h 0 with
  | some r1=>if r1.v=0∧r1.fz=false∧r1.ty=r.ty∧r1.mp=false then some (some r1) else none
  | none=>none
def XM:Option (D×Row)->List Nat->Bool
 | none,_=>true
 | some _,fr => !fr.contains 0
def sW (T:Nat->Option Ty) (lent:Option (D×Row)) (rs:List ResultVar) (s:St):Option (RK×Option Row) :=
 match tv T s rs,lu lent s with
 | some (ds,fr),some o=>if XM lent fr then some (.clean (me ds),o) else none
 | _,_=>none
def As (lent:Option (D×Row)) (rs:List ResultVar) (s:St):Option (RK×Option Row) :=
 match rs with
 | [.tmp i] =>
  match s.t i,lu lent s with
  | .buf 0 0 sz o n,some (some r)=>some (.same sz o n,some r)
  | _,_=>none
 | _=>none
def ub:D->Option (RK×Option Row)
 | .sl nl tg n xs=>some (.clean (.sl nl tg n xs),none)
 | _=>none
def BU (lent:Option (D×Row)) (rs:List ResultVar) (s:St):Option (RK×Option Row) :=
 match lent,rs with
 | none,[.tmp i]=>ub (s.t i)
 | _,_=>none
def ua (ty s o n:Nat):Option Row->Option (RK×Option Row)
 | some r=>if r.fz=false∧r.ty=ty∧o+n*s<=r.cells.length then some (.fresh ty s n ((r.cells.drop o).take (n*s)),none) else none
 | none=>none
def l4 (ty s:Nat) (h:Nat->Option Row):D->Option (RK×Option Row)
 | .buf x v sz o n=>if sz=s then ua ty s o n (live h x v) else none
 | .sl _ tg 0 _=>if tg=true then some (.fresh ty s 0 [],none) else none
 | _=>none
def pK (ty s:Nat) (rs:List ResultVar) (st:St):Option (RK×Option Row) :=
 match rs with
 | [.tmp i]=>l4 ty s st.h (st.t i)
 | _=>none
def jv (mode:Mode) (T:Nat->Option Ty) (lent:Option (D×Row)) (rs:List ResultVar) (s:St):Option (RK×Option Row) :=
 match mode with
 | .clean=>sW T lent rs s
 | .same=>As lent rs s
 | .tight=>BU lent rs s
 | .fresh ty sz=>pK ty sz rs s
def a8 (mode:Mode) (T:Nat->Option Ty) (Γ:Env) (F:Nat) (fn:Func) (lent:Option (D×Row)) (args:List D):Option (RK×Option Row) :=
 match fn.body with
 | some c =>
  if fn.ntmps<=PK then
   match fL T Γ fn.ntmps F c (bS lent args) with
   | some (.exit _,_)=>none
   | some (_,s)=>jv mode T lent fn.results.toList ⟨s.t,EH s.h,s.e⟩
   | none=>none
  else none
 | none=>none
def Ij:Option (D×Row)->Bool
 | none=>true
 | some (.buf 0 0 _ _ _,_)=>true
 | some (.ptr 0 0 _,_)=>true
 | _=>false
def F3:Option (D×Row)->List D->Nat
 | none,acg=>acg.length
 | some _,acg=>acg.length+1
section
variable {P:Program} {T:Nat->Option Ty} {N:Nat} {M:Nat->Prop} {L:jM} {w0:World} {blk:Nat->Option (Nat×Nat)} {a:Act} {w:World} {Γ:Env}
theorem Inv.YD {V:Nat->Nat->Prop} {t:Nat->D} {h:Nat->Option Row} (hI:Inv N M L w0 blk V t h a w) (fr:List Nat):m8 M h blk fr M where
 le b hb := .inl hb
 no x hx r g hr hg hb:=hI.notM hr hg hb
def yF (tm:Array Value):ResultVar->Sem Value
 | .tmp t=>pure (tm.getD t undef)
 | .cell b t=>do loadVar t (<- asAddr (tm.getD b undef))
theorem C4 (fn:Func) (tm:Array Value):results fn tm=(do
  let vs <- fn.results.mapM (yF tm)
  pure (if h:vs.size=1 then vs[0] else .tuple vs)):=by
 unfold results
 congr 1
theorem Tt (hT:jn P T) {M':Nat->Prop} {ty:Nat} {τ:Ty} {g c:Nat} {xs:List D} {d:D} (hτ:T ty=some τ) (hat:At w M' g c xs) (hl:xs.length=τ.size) (hd:lx τ xs=some d) :
  ∃u,(loadVar ty ⟨g,c,none⟩).run P w=.ok u w∧RP w M' d u:=by
 obtain⟨us,h1,h2,h3,h4⟩:=hat.yM
 have hone:τ.ds.oe=false->xs.length=1∧xs=[d]:=by
  intro hf
  simp only[lx,hf,acX,if_false]at hd
  split at hd
  ·simp only[acw]at hd;subst hd;exact⟨rfl,rfl⟩
  ·cases hd
 have hrun:=jF (hT ty τ hτ) w g c us (by rw[h1,hl]) h2 (fun hf=>by rw[h1];exact (hone hf).1)
 refine⟨_,hrun,?_⟩
 cases ha:τ.ds.oe with
 | true =>
  simp only[lx,ha,if_true,acw]at hd
  subst hd
  exact .agg xs us h1 h3 h4
 | false =>
  obtain⟨_,rfl⟩:=hone ha
  exact h3 0 d rfl
theorem V0 (hT:jn P T) {M':Nat->Prop} {V:Nat->Nat->Prop} {s:St} (hI:Inv N M L w0 blk V s.t s.h a w) {r:ResultVar} {d:D} {fr:List Nat} (h1:MO T s r=some (d,fr)) (hl:m8 M s.h blk fr M'):∃u,(yF a.tmps r).run P w=.ok u w∧RP w M' d u:=by
 cases r with
 | tmp i =>
  simp only[MO]at h1
  exact⟨a.tmps.getD i undef,rfl,hI.bo h1 hl (hI.slots i)⟩
 | cell i ty =>
  simp only[MO]at h1
  split at h1
  ·rename_i τ x v o hτ hp
   split at h1
   ·rename_i E hE
    simp only[acw,Prod.mk.injEq]at h1
    obtain⟨rfl,_⟩:=h1
    have hsl:=hI.slots i
    rw[hp]at hsl
    simp only[cY]at hE
    split at hE
    ·rename_i rr hlv
     obtain⟨hx,hv⟩:=bP hlv
     split at hE
     ·rename_i hle
      split at hE
      ·rename_i d' hd'
       simp only[acw]at hE
       subst hE
       obtain⟨g,hg,hpv⟩:=hsl.2 rr hx hv
       have hat:=((hI.rowAt hx hg (fG hlv)).drop o).take τ.size
       obtain⟨u,hu1,hu2⟩:=Tt hT hτ hat (by simp;omega) hd'
       refine⟨u,?_,(hu2.less fun b hb=>hl.le b hb).fa⟩
       simp only[yF,hpv,asAddr,acU,Sem.run_pure,Result.andThen_ok,hu1]
      ·cases hE
     ·cases hE
    ·cases hE
   ·cases h1
  ·cases h1
theorem M3 (hT:jn P T) {M':Nat->Prop} {V:Nat->Nat->Prop} {s:St} (hI:Inv N M L w0 blk V s.t s.h a w):∀(rs:List ResultVar) (ds:List D) (fr:List Nat),tv T s rs=some (ds,fr)->m8 M s.h blk fr M' ->
  ∃us:List Value,(rs.mapM (yF a.tmps)).run P w=.ok us w∧us.length=ds.length∧∀j d,ds[j]? = some d->RP w M' d (us.getD j undef)
 | [],ds,fr,h,_=>by
  simp only[tv,acw,Prod.mk.injEq]at h
  obtain⟨rfl,_⟩:=h
  exact⟨[],by simp,rfl,fun j d hj=>by simp at hj⟩
 | r::rs,ds,fr,h,hl=>by
  simp only[tv]at h
  split at h
  ·rename_i d fr1 h1
   split at h
   ·rename_i ds2 fr2 h2
    simp only[acw,Prod.mk.injEq]at h
    obtain⟨rfl,rfl⟩:=h
    obtain⟨us,i1,i2,i3⟩:=M3 hT hI rs ds2 fr2 h2 hl.right
    obtain⟨u,hu1,hu2⟩:=V0 (P:=P) hT hI h1 hl.left
    refine⟨u::us,?_,by simp[i2],fun j d hj =>?_⟩
    ·simp only[List.mapM_cons,acU,hu1,Result.andThen_ok,i1,Sem.run_pure]
    ·cases j with
     | zero=>simp only[List.getElem?_cons_zero,acw]at hj;subst hj;simpa using hu2
     | succ j=>simpa using i3 j d (by simpa using hj)
   ·cases h
  ·cases h
theorem tz (hT:jn P T) {M':Nat->Prop} {V:Nat->Nat->Prop} {s:St} (hI:Inv N M L w0 blk V s.t s.h a w) {fn:Func} {ds:List D} {fr:List Nat} (h:tv T s fn.results.toList=some (ds,fr)) (hl:m8 M s.h blk fr M') :
  ∃v,(results fn a.tmps).run P w=.ok v w∧RP w M' (me ds) v:=by
 obtain⟨us,i1,i2,i3⟩:=M3 (P:=P) hT hI _ ds fr h hl
 have hm:(fn.results.mapM (yF a.tmps)).run P w=.ok us.toArray w:=by
  rw[adg,Sem.run_map,i1]
  rfl
 rw[C4]
 simp only[acU,hm,Result.andThen_ok,Sem.run_pure]
 refine⟨_,rfl,?_⟩
 match us,ds,i2,i3 with
 | [u],[d],_,i3=>simpa [me] using i3 0 d rfl
 | [],[],_,_=>exact .tup [] [] rfl (fun j x hj=>by simp at hj)
 | u1::u2::us,d1::d2::ds,i2,i3 =>
  have:¬(u1::u2::us).toArray.size=1:=by simp
  rw[dif_neg this]
  exact .tup _ _ (by simpa using i2) i3
theorem kO {fn:Func} {tm:Array Value} {i:Nat} (h:fn.results.toList=[.tmp i]):(results fn tm).run P w=.ok (tm.getD i undef) w:=by
 have he:fn.results = #[.tmp i]:=by rw[<- h]
 rw[C4,he]
 simp[yF]
theorem Inv.pK {V:Nat->Nat->Prop} {s:St} {ty0 s0:Nat} (hI:Inv N M L w0 blk V s.t s.h a w) {fn:Func} {rk:RK} {out:Option Row} (he:Am.pK ty0 s0 fn.results.toList s=some (rk,out)) :
  out=none∧∃v ty sz n cells,rk=.fresh ty sz n cells∧(results fn a.tmps).run P w=.ok v w∧AF w0 w M (LB L) v rk:=by
 unfold Am.pK at he
 split at he
 ·rename_i i hrs
  have hsl:=hI.slots i
  unfold l4 at he
  split at he
  ·rename_i x v sz o n ht
   rw[ht]at hsl
   split at he
   ·rename_i hsz
    subst hsz
    unfold ua at he
    split at he
    ·rename_i r hlv
     split at he
     ·rename_i hcond
      obtain⟨hz,hty,hle⟩:=hcond
      simp only[acw,Prod.mk.injEq]at he
      obtain⟨rfl,rfl⟩:=he
      refine⟨rfl,a.tmps.getD i undef,_,_,_,_,rfl,kO hrs,?_⟩
      obtain⟨hx,hv⟩:=bP hlv
      have hol:((r.cells.drop o).take (n*sz)).length=n*sz:=by simp;omega
      rcases hI.wG hlv hsl with⟨g,o',c,cs,g0,g1,g2,g3,g4,g5,g7,g8⟩|⟨g0,rfl,g2,A,g3⟩
      ·by_cases hc:0<c∨o=0
       ·obtain⟨k1,k2⟩:=g5 hc
        subst k1
        refine .inl ⟨(g.1,g.2+o),c,cs,g1,(show w0.heap.size<=g.1∨LB L g.1 from hI.base hx g0),by rw[<- hty];exact g4,g2,g3,k2,by rw[hol];simp only;omega,fun j d hj =>?_⟩
        rw[b8]at hj
        split at hj
        ·rw[acI]
         refine⟨(g8 _ _ hj).1,(g8 _ _ hj).2.less fun b hb =>?_⟩
         rcases hb with hb|rfl
         ·exact .inl hb
         ·exact .inr ⟨x,r,g,hx,hz,g0,rfl⟩
        ·cases hj
       ·have hn:n=0:=by omega
        have hc0:c=0:=by omega
        subst hn hc0
        exact .inr ⟨rfl,by simp,_,g1⟩
      ·exact .inr ⟨rfl,by simp,A,g3⟩
     ·cases he
    ·cases he
   ·cases he
  ·rename_i nl tg xs ht
   rw[ht]at hsl
   split at he
   ·rename_i hnt
    simp only[acw,Prod.mk.injEq]at he
    obtain⟨rfl,rfl⟩:=he
    refine⟨rfl,a.tmps.getD i undef,_,_,_,_,rfl,kO hrs,.inr ⟨rfl,rfl,?_⟩⟩
    have hr:RP w (Own M s.h blk) (.sl nl tg 0 xs) (a.tmps.getD i undef):=hsl
    generalize a.tmps.getD i undef=u at *
    cases hr with
    | sl A c nl tight n xs us h1 h2 h3 h4 h5 h6 h7 h8 =>
     have hc:c=0:=by
      exact h5 hnt
     subst hc
     exact⟨A,rfl⟩
   ·cases he
  ·cases he
 ·cases he
theorem xD {args:List D} {vs:Array Value} {n i:Nat} (hs:vs.size=args.length):(vs++Array.replicate (n-vs.size) undef).getD i undef=vs.getD i undef∨args.getD i .und=.und:=by
 by_cases hi:i<args.length
 ·left
  have:i<vs.size:=by omega
  simp[acr,ad0 this]
 ·right
  simp[List.getD,adU (ad1 hi)]
theorem AB {h:Nat->Option Row} (hp:∀k r,h k=some r->k<2*PK∧r.mp=false):EH h=h:=by
 funext k
 by_cases hk:k<2*PK
 ·rw[sn hk]
  cases hh:h k with
  | none=>rfl
  | some r =>
   simp only[Option.map_some,Az,(hp k r hh).2]
   rfl
 ·have h1:h k=none:=by
   cases hh:h k with
   | none=>rfl
   | some r=>exact absurd (hp k r hh).1 hk
  rw[h1]
  unfold EH
  rw[if_neg hk]
  cases hh:h (k % PK) with
  | none=>rfl
  | some r =>
   simp only[Option.bind_some,pO,(hp _ r hh).2]
   rfl
theorem kR (hT:jn P T) (hΓ:bD P Γ) (hm:P.follows .mixedOrders=true) {mode:Mode} {f:FuncId} {fn:Func} {F:Nat} {lent:Option (D×Row)} {args:List D} {rk:RK} {out:Option Row} (hf:P.funcs[f]? = some fn)
  (hok:(match fn.body with|some c=>codeOk c|none=>true)=true) (hn:F3 lent args<=fn.ntmps) (hlo:Ij lent=true)
  (hr:a8 mode T Γ F fn lent args=some (rk,out)):nM P f lent args rk out:=by
 unfold a8 at hr
 split at hr<;>try (cases hr;done)
 rename_i c hc
 rw[hc]at hok
 simp only at hok
 split at hr<;>try (cases hr;done)
 rename_i hbig
 split at hr<;>try (cases hr;done)
 rename_i x s hne hv
 cases lent with
 | none =>
  intro w M vs hM hargs
  have hI:Inv fn.ntmps M none w (fun _=>none) (fun x v=>x<fn.ntmps∧v<0) (bS none args).t (bS none args).h { tmps:=vs++Array.replicate (fn.ntmps-vs.size) undef,defers:=[] } w:={
   tab:=fun b hb=>(hargs.tab b hb).less fun b hb=>by
    rcases hb with hb|⟨x,r,g,hx,_⟩
    ·exact hb
    ·cases hx
   below:=db.refl _ _
   mlt:=hM
   lent:=fun b hb=>absurd hb qh
   pin:=fun go hg=>by cases hg
   defers:=rfl
   tsz:=by have:=hargs.1;simp only[F3]at hn;simp;omega
   slots:=fun i=>by
    simp only[bS]
    rcases xD (n:=fn.ntmps) (i:=i) hargs.1 with he|he
    ·rw[he]
     by_cases hi:i<args.length
     ·have h1:=hargs.2 i _ (acA hi)
      have e1:args.getD i .und=args[i]:=by simp[List.getD,hi]
      rw[e1]
      exact bA (h1.less fun b hb=>by
       rcases hb with hb|⟨x,r,g,hx,_⟩
       ·exact hb
       ·cases hx)
     ·have e1:args.getD i .und=.und:=by simp[List.getD,adU (ad1 hi)]
      rw[e1]
      trivial
    ·rw[he];trivial
   rows:=fun x r hx=>by cases hx
   inj:=fun x y r s g g' hx=>by cases hx
   big:=hbig
   pha:=fun y r g hy=>by cases hy
   ali:=fun y r g hy=>by cases hy }
  refine calls_of_wp hf hc ?_
  refine po hT hΓ hm c (bS none args) x s _ _ _ hv hok ⟨_,⟨(by rw[AB (fun k r hk=>by cases hk)];exact hI.weaken fun x v hx=>absurd hx.2 (Nat.not_lt_zero _)),fun x r ty s nv cs hx=>by cases hx⟩⟩ (fun a' w' hH =>?_)
  obtain⟨blk',hIE⟩:=hH
  obtain⟨sE,hsE⟩:∃sE:St,sE=⟨s.t,EH s.h,s.e⟩:=⟨_,rfl⟩
  have hI':Inv fn.ntmps M none w blk' (VE fn.ntmps s.e [] s.h) sE.t sE.h a' w':=by rw[hsE];exact hIE.inv
  rw[<- hsE]at hr
  have hbel:Below w.heap.size w w':=hI'.below.below (fun b hb=>absurd hb qh)
  have hpost:a'.defers=[]∧∃v,(results fn a'.tmps).run P w'=.ok v w'∧(∃v',Ending.returned v=.returned v'∧Below w.heap.size w w'∧AF w w' M (fun _=>False) v' rk):=by
   refine⟨hI'.defers,?_⟩
   cases mode with
   | clean =>
    simp only[jv,sW,lu]at hr
    split at hr<;>try (cases hr;done)
    rename_i ds fr o hres ho
    split at hr<;>try (cases hr;done)
    simp only[acw,Prod.mk.injEq]at hr
    obtain⟨rfl,_⟩:=hr
    obtain⟨v,hv1,hv2⟩:=tz (P:=P) hT hI' hres (hI'.YD fr)
    exact⟨v,hv1,v,rfl,hbel,hv2⟩
   | same =>
    simp only[jv,As,lu]at hr
    split at hr<;>try (cases hr;done)
    split at hr
    ·rename_i hq;cases hq
    ·cases hr
   | tight =>
    simp only[jv,BU]at hr
    split at hr<;>try (cases hr;done)
    rename_i i _ hrs
    have hsl:=hI'.slots i
    generalize sE.t i=dd at *
    unfold ub at hr
    split at hr<;>try (cases hr;done)
    rename_i nl tg n xs
    simp only[acw,Prod.mk.injEq]at hr
    obtain⟨rfl,_⟩:=hr
    have hsl':RP w' (Own M sE.h blk') (.sl nl tg n xs) (a'.tmps.getD i undef):=hsl
    exact⟨a'.tmps.getD i undef,kO hrs,_,rfl,hbel,hsl'.less fun b hb =>.inl hb⟩
   | fresh ty0 s0 =>
    obtain⟨rfl,v,ty,sz,n,cells,rfl,hv1,hv2⟩:=hI'.pK (P:=P) hr
    refine⟨v,hv1,v,rfl,hbel,?_⟩
    rcases hv2 with⟨g,k1,cs,k2,k3,k4⟩|hv2
    ·exact .inl ⟨g,k1,cs,k2,k3.imp id (fun hb=>absurd hb qh),k4⟩
    ·exact .inr hv2
  cases x with
  | normal=>exact hpost
  | ret=>exact hpost
  | exit n=>exact (hne n rfl).elim
 | some p =>
  obtain⟨d0,r⟩:=p
  intro w M go u0 vs hM hgoM hz hmp hrow hlv hargs
  have hown:∀b,Own M (bS (some (d0,r)) args).h (fun x=>if x=0 then go else none) b↔(M b∨rZ go b):=by
   intro b
   constructor
   ·rintro (hb|⟨x,r',g,hx,_,hg,he⟩)
    ·exact .inl hb
    ·simp only[bS]at hx
     split at hx
     ·rename_i h0
      subst h0
      simp only[if_true]at hg
      exact .inr ⟨g,hg,he.symm⟩
     ·cases hx
   ·rintro (hb|⟨g,hg,he⟩)
    ·exact .inl hb
    ·exact .inr ⟨0,{ r with v:=0 },g,rfl,hz,by simpa using hg,he.symm⟩
  have hI:Inv fn.ntmps M (HZ go) w (fun x=>if x=0 then go else none) (fun x v=>x<fn.ntmps∧v<1) (bS (some (d0,r)) args).t (bS (some (d0,r)) args).h { tmps:=(#[u0]++vs)++Array.replicate (fn.ntmps-(#[u0]++vs).size) undef,defers:=[] } w:={
   tab:=fun b hb=>(hargs.tab b hb).less fun b hb=>(hown b).1 hb
   below:=db.refl _ _
   mlt:=hM
   lent:=fun b hb=>hgoM b (Hp.1 hb)
   pin:=fun go' hg=>by
    cases hg
    exact⟨⟨by simp only[F3]at hn;omega,ad2⟩,fun r' _ _=>⟨rfl,fun g _=>rfl⟩⟩
   defers:=rfl
   tsz:=by have:=hargs.1;simp only[F3]at hn;simp;omega
   slots:=fun i=>by
    simp only[bS]
    rcases xD (args:=d0::args) (vs:=#[u0]++vs) (n:=fn.ntmps) (i:=i) (by simp[hargs.1];omega) with he|he
    ·rw[he]
     cases i with
     | zero =>
      have e1:(#[u0]++vs).getD 0 undef=u0:=by simp[Array.getElem?_append]
      rw[e1]
      simp only[ady]
      cases d0 with
      | buf x v sz o n =>
       have hxv:x=0∧v=0:=by
        simp only[Ij]at hlo
        split at hlo<;>simp_all
       obtain⟨rfl,rfl⟩:=hxv
       exact⟨⟨by simp only[F3]at hn;omega,ad2⟩,fun r' h1 h2=>by simpa using hlv.2 ⟨0,0,[],false,false,false⟩ rfl rfl⟩
      | ptr x v o =>
       have hxv:x=0∧v=0:=by
        simp only[Ij]at hlo
        split at hlo<;>simp_all
       obtain⟨rfl,rfl⟩:=hxv
       exact⟨⟨by simp only[F3]at hn;omega,ad2⟩,fun r' h1 h2=>by simpa using hlv.2 ⟨0,0,[],false,false,false⟩ rfl rfl⟩
      | _=>simp[Ij]at hlo
     | succ i =>
      have e1:(#[u0]++vs).getD (i+1) undef=vs.getD i undef:=by
       simp only[acr]
       rw[Array.getElem?_append_right (by simp)]
       simp
      rw[e1]
      simp only[List.getD_cons_succ]
      by_cases hi:i<args.length
      ·have h1:=hargs.2 i _ (acA hi)
       have e1:args.getD i .und=args[i]:=by simp[List.getD,hi]
       rw[e1]
       exact bA (h1.less fun b hb=>(hown b).1 hb)
      ·have e1:args.getD i .und=.und:=by simp[List.getD,adU (ad1 hi)]
       rw[e1]
       trivial
    ·rw[he];trivial
   rows:=fun x r' hx=>by
    simp only[bS]at hx
    split at hx
    ·rename_i h0
     subst h0
     simp only[acw]at hx
     subst hx
     refine⟨fun hn=>⟨hn,ad2⟩,?_⟩
     simp only[if_true]
     cases go with
     | none=>exact hrow
     | some g =>
      obtain⟨cs,k1,k2,k3⟩:=hrow
      refine⟨.inr (Hp.2 ⟨g,rfl,rfl⟩),?_⟩
      unfold dB
      simp only[hmp]
      exact⟨cs,k1,k2,fun j d hj=>⟨(k3 j d hj).1,(k3 j d hj).2.less fun b hb=>(hown b).1 hb⟩⟩
    ·cases hx
   inj:=fun x y r1 r2 g g' hx hy _ _ _=>by
    simp only[bS]at hx hy
    split at hx
    ·split at hy
     ·omega
     ·cases hy
    ·cases hx
   big:=hbig
   pha:=fun y r1 g hy hm=>by
    simp only[bS]at hy
    split at hy
    ·simp only[acw]at hy
     subst hy
     simp_all
    ·cases hy
   ali:=fun y r1 g hy hz1=>by
    simp only[bS]at hy
    split at hy
    ·simp only[acw]at hy
     subst hy
     simp_all
    ·cases hy }
  have hplain:EH (bS (some (d0,r)) args).h=(bS (some (d0,r)) args).h:=by
   refine AB fun k r' hk =>?_
   simp only[bS]at hk
   split at hk
   ·rename_i h0
    subst h0
    simp only[acw]at hk
    subst hk
    exact⟨(by have:=cJ;omega),hmp⟩
   ·cases hk
  have hnv0:DD (bS (some (d0,r)) args).e [] (bS (some (d0,r)) args).h:=by
   intro x r' ty s nv cs hx hm'
   simp only[bS]at hx
   split at hx
   ·simp only[acw]at hx
    subst hx
    simp only[hmp]at hm'
    cases hm'
   ·cases hx
  refine calls_of_wp hf hc ?_
  refine po hT hΓ hm c (bS (some (d0,r)) args) x s _ _ _ hv hok ⟨_,⟨(by rw[hplain];exact hI.weaken fun x v hx =>.inl ⟨hx.1,.inl hx.2⟩),hnv0⟩⟩ (fun a' w' hH =>?_)
  obtain⟨blk',hIE⟩:=hH
  obtain⟨sE,hsE⟩:∃sE:St,sE=⟨s.t,EH s.h,s.e⟩:=⟨_,rfl⟩
  have hI':Inv fn.ntmps M (HZ go) w blk' (VE fn.ntmps s.e [] s.h) sE.t sE.h a' w':=by rw[hsE];exact hIE.inv
  rw[<- hsE]at hr
  have hbel:db (rZ go) w w':=⟨hI'.below.os,hI'.below.tape,hI'.below.output,hI'.below.size,fun k hk hn=>hI'.below.block k hk (fun hb=>hn (Hp.1 hb))⟩
  have hlast:∀r1,lu (some (d0,r)) sE=some (some r1)->sE.h 0=some r1∧r1.v=0∧r1.fz=false∧(r1.ty=r.ty∧r1.mp=false)∧blk' 0=go∧(∀g,go=some g->w'.shape? g.1=w.shape? g.1)∧(∀b,(M b∨rZ go b)->Own M sE.h blk' b):=by
   intro r1 hl
   simp only[lu]at hl
   split at hl<;>try (cases hl;done)
   rename_i r2 h2
   split at hl<;>try (cases hl;done)
   rename_i hcond
   simp only[acw]at hl
   subst hl
   obtain⟨c1,c2,c3⟩:=hcond
   obtain⟨_,k2⟩:=hI'.pin _ rfl
   obtain⟨k3,k4⟩:=k2 r2 h2 c1
   refine⟨h2,c1,c2,c3,k3,k4,?_⟩
   rintro b (hb|⟨g,hg,he⟩)
   ·exact .inl hb
   ·exact .inr ⟨0,r2,g,h2,c2,k3.trans hg,he.symm⟩
  have hrowin:∀r1,lu (some (d0,r)) sE=some (some r1)->P6 w' (fun b=>M b∨rZ go b) go r1:=by
   intro r1 hl
   obtain⟨h1,_,_,h4,h5,_,h7⟩:=hlast r1 hl
   have:=(hI'.rows 0 r1 h1).2
   rw[h5]at this
   cases go with
   | none=>exact this
   | some g =>
    have this:=this.2
    unfold dB at this
    rw[h4.2]at this
    obtain⟨cs,k1,k2,k3⟩:=this
    exact⟨cs,k1,k2,fun j d hj=>⟨(k3 j d hj).1,(k3 j d hj).2.less h7⟩⟩
  have hpost:a'.defers=[]∧∃v,(results fn a'.tmps).run P w'=.ok v w'∧(∃v',Ending.returned v=.returned v'∧db (rZ go) w w'∧Yc w w' M go r out∧Ye w w' M go v' rk):=by
   refine⟨hI'.defers,?_⟩
   cases mode with
   | clean =>
    simp only[jv,sW]at hr
    split at hr<;>try (cases hr;done)
    rename_i ds fr o hres ho
    split at hr<;>try (cases hr;done)
    rename_i hfr
    simp only[XM,acZ,List.contains_eq_mem,decide_eq_false_iff_not]at hfr
    simp only[acw,Prod.mk.injEq]at hr
    obtain⟨rfl,rfl⟩:=hr
    cases o with
    | none =>
     simp only[lu]at ho
     split at ho<;>try (cases ho;done)
     split at ho<;>cases ho
    | some r1 =>
     obtain⟨h1,h2,h3,h4,h5,h6,h7⟩:=hlast r1 ho
     have hless:m8 M sE.h blk' fr (fun b=>M b∨rZ go b):=by
      refine⟨h7,fun x hx r' g hx' hg hb =>?_⟩
      rcases hb with hb|⟨g',hg',he⟩
      ·exact hI'.notM hx' hg hb
      ·have:x=0:=hI'.inj x 0 r' r1 g g' hx' h1 hg (h5.trans hg') he
       subst this
       exact hfr hx
     obtain⟨v,hv1,hv2⟩:=tz (P:=P) hT hI' hres hless
     exact⟨v,hv1,v,rfl,hbel,⟨h4.1,h3,h4.2,h6,hrowin r1 ho⟩,hv2⟩
   | same =>
    simp only[jv,As]at hr
    split at hr<;>try (cases hr;done)
    rename_i i hrs
    split at hr<;>try (cases hr;done)
    rename_i sz o n r1 ht ho
    simp only[acw,Prod.mk.injEq]at hr
    obtain⟨rfl,rfl⟩:=hr
    obtain⟨h1,h2,h3,h4,h5,h6,h7⟩:=hlast r1 ho
    refine⟨a'.tmps.getD i undef,kO hrs,_,rfl,hbel,⟨h4.1,h3,h4.2,h6,hrowin r1 ho⟩,?_⟩
    have hsl:=hI'.slots i
    rw[ht]at hsl
    refine⟨trivial,fun r' _ _ =>?_⟩
    have:=hsl.2 r1 h1 h2
    rw[h5]at this
    exact this
   | tight =>
    simp only[jv,BU]at hr
    cases hr
   | fresh ty0 s0 =>
    obtain⟨rfl,v,ty,sz,n,cells,rfl,hv1,hv2⟩:=hI'.pK (P:=P) hr
    refine⟨v,hv1,v,rfl,hbel,trivial,?_⟩
    rcases hv2 with⟨g,k1,cs,k2,k3,k4⟩|hv2
    ·exact .inl ⟨g,k1,cs,k2,k3.imp id (fun hb=>Hp.1 hb),k4⟩
    ·exact .inr hv2
  cases x with
  | normal=>exact hpost
  | ret=>exact hpost
  | exit n=>exact (hne n rfl).elim
def ext (Γ:Env) (f:Nat) (l:Bool) (G:Option (D×Row)->List D->Option (RK×Option Row)):Env:=⟨fun g=>if g=f then l else Γ.lends g,fun g lent acg=>if g=f then G lent acg else Γ.sem g lent acg,Γ.own,Γ.hint,Γ.ins,Γ.grw,Γ.nst,Γ.nx⟩
theorem bD.ext (hΓ:bD P Γ) {f:Nat} {l:Bool} {G:Option (D×Row)->List D->Option (RK×Option Row)} (hG:∀lent acg rk out,G lent acg=some (rk,out)->nM P f lent acg rk out) (hc:dh P f):bD P (Am.ext Γ f l G):=by
 refine⟨fun g lent acg rk out h =>?_,hΓ.ins,hΓ.grw,hΓ.lnd,hΓ.res⟩
 simp only[Am.ext]at h
 split at h
 ·rename_i he;subst he;exact⟨hG lent acg rk out h,hc⟩
 ·exact hΓ.calls g lent acg rk out h
def a6:Env:=⟨fun _=>false,fun _ _ _=>none,fun _=>true,fun _=>none,fun _=>none,fun _=>none,fun _=>none,{}⟩
theorem bD.none:bD P a6:=⟨fun f lent args rk out h=>(by cases h),fun f p h=>(by cases h),fun f p h=>(by cases h),fun f p h=>(by cases h),fun f p h=>(by cases h)⟩
def keep (d:Nat) (Γ:Env):Env:=⟨Γ.lends,Γ.sem,fun i=>i != d&&Γ.own i,Γ.hint,Γ.ins,Γ.grw,Γ.nst,Γ.nx⟩
theorem bD.keep (hΓ:bD P Γ) (d:Nat):bD P (Am.keep d Γ):=⟨hΓ.calls,hΓ.ins,hΓ.grw,hΓ.lnd,hΓ.res⟩
def vo (d y:Nat) (Γ:Env):Env:=⟨Γ.lends,Γ.sem,Γ.own,fun i=>if i=d then some y else Γ.hint i,Γ.ins,Γ.grw,Γ.nst,Γ.nx⟩
theorem bD.vo (hΓ:bD P Γ) (d y:Nat):bD P (Am.vo d y Γ):=⟨hΓ.calls,hΓ.ins,hΓ.grw,hΓ.lnd,hΓ.res⟩
def yp (f:Nat) (p:Nat×Nat×Nat) (Γ:Env):Env:=⟨Γ.lends,Γ.sem,Γ.own,Γ.hint,fun g=>if g=f then some p else Γ.ins g,Γ.grw,Γ.nst,Γ.nx⟩
theorem bD.yp (hΓ:bD P Γ) {f:Nat} {p:Nat×Nat×Nat} (hi:TQ P f p):bD P (Am.yp f p Γ):=⟨hΓ.calls,fun g q h=>by
 simp only[Am.yp]at h
 split at h
 ·rename_i he;subst he;cases h;exact hi
 ·exact hΓ.ins g q h,hΓ.grw,hΓ.lnd,hΓ.res⟩
def xi (d:Nat) (p:Nat×Nat×Nat) (Γ:Env):Env:=⟨Γ.lends,Γ.sem,Γ.own,Γ.hint,Γ.ins,Γ.grw,fun i=>if i=d then some p else Γ.nst i,Γ.nx⟩
theorem bD.xi (hΓ:bD P Γ) (d:Nat) (p:Nat×Nat×Nat):bD P (Am.xi d p Γ):=⟨hΓ.calls,hΓ.ins,hΓ.grw,hΓ.lnd,hΓ.res⟩
def ny (f:Nat) (p:Nat×(Nat->Nat->Nat->Nat->List D->List D->Option (D×List D))) (Γ:Env):Env:=⟨Γ.lends,Γ.sem,Γ.own,Γ.hint,Γ.ins,Γ.grw,Γ.nst,⟨fun g=>if g=f then some p else Γ.nx.lnd g,Γ.nx.res⟩⟩
theorem bD.ny (hΓ:bD P Γ) {f:Nat} {p:Nat×(Nat->Nat->Nat->Nat->List D->List D->Option (D×List D))} (hc:dh P f) (hi:∀ty t s o cs args d cs',p.2 ty t s o cs args=some (d,cs')->Hn P f ty t s o cs args d cs'):bD P (Am.ny f p Γ):=⟨hΓ.calls,hΓ.ins,hΓ.grw,fun g q h=>by
 simp only[Am.ny]at h
 split at h
 ·rename_i he;subst he;cases h;exact⟨hc,hi⟩
 ·exact hΓ.lnd g q h,hΓ.res⟩
def xh (f:Nat) (p:List D->Option (Nat×Nat×Nat×Nat×Nat×List D)) (Γ:Env):Env:=⟨Γ.lends,Γ.sem,Γ.own,Γ.hint,Γ.ins,Γ.grw,Γ.nst,⟨Γ.nx.lnd,fun g=>if g=f then some p else Γ.nx.res g⟩⟩
theorem bD.xh (hΓ:bD P Γ) {f:Nat} {p:List D->Option (Nat×Nat×Nat×Nat×Nat×List D)} (hc:dh P f) (hi:∀args ty t s S n cs,p args=some (ty,t,s,S,n,cs)->Hm P f args ty t s S n cs):bD P (Am.xh f p Γ):=⟨hΓ.calls,hΓ.ins,hΓ.grw,hΓ.lnd,fun g q h=>by
 simp only[Am.xh]at h
 split at h
 ·rename_i he;subst he;cases h;exact⟨hc,hi⟩
 ·exact hΓ.res g q h⟩
def B9 (f:Nat) (p:Grow) (Γ:Env):Env:=⟨Γ.lends,Γ.sem,Γ.own,Γ.hint,Γ.ins,fun g=>if g=f then some p else Γ.grw g,Γ.nst,Γ.nx⟩
theorem bD.B9 (hΓ:bD P Γ) {f:Nat} {p:Grow} (hi:TP P f p):bD P (Am.B9 f p Γ):=⟨hΓ.calls,hΓ.ins,fun g q h=>by
 simp only[Am.B9]at h
 split at h
 ·rename_i he;subst he;cases h;exact hi
 ·exact hΓ.grw g q h,hΓ.lnd,hΓ.res⟩
end
def oA (ty t s o:Nat) (cs args:List D):St:=⟨fun i=>(.ptr 0 0 o::args).getD i .und,lJ (gg ty t s 0 cs),1⟩
def U3 (t s:Nat) (ds:List D):List D->Option (D×List D)
 | [.nr t' s' _ cs']=>if t'=t∧s'=s then some (me ds,cs') else none
 | _=>none
def Kj (ty t s:Nat):Option (List D×List Nat)->Option Row->Option (D×List D)
 | some (ds,fr),some r=>if r.v=0∧r.fz=false∧r.ty=ty∧r.mp=true∧fr.all (fun k=>rt k != 0)=true then U3 t s ds r.cells else none
 | _,_=>none
def SH (T:Nat->Option Ty) (ty t s:Nat) (rs:List ResultVar) (st:St):Option (D×List D):=Kj ty t s (tv T ⟨st.t,EH st.h,st.e⟩ rs) (st.h 0)
def rH (T:Nat->Option Ty) (Γ:Env) (F:Nat) (fn:Func) (ty t s o:Nat) (cs args:List D):Option (D×List D) :=
 match fn.body with
 | some c =>
  if fn.ntmps<=PK then
   match fL T Γ fn.ntmps F c (oA ty t s o cs args) with
   | some (.exit _,_)=>none
   | some (_,st)=>SH T ty t s fn.results.toList st
   | none=>none
  else none
 | none=>none
def U2 (x S n:Nat) (ty:Nat):List D->Option (Nat×Nat×Nat×Nat×Nat×List D)
 | [.nr t s _ cs]=>if x<PK then some (ty,t,s,S,n,cs) else none
 | _=>none
def Kh (x v S n:Nat):Option Row->Option (Nat×Nat×Nat×Nat×Nat×List D)
 | some r=>if r.v=v∧r.fz=false∧r.mp=true then U2 x S n r.ty r.cells else none
 | none=>none
def QS (h:Nat->Option Row):D->Option (Nat×Nat×Nat×Nat×Nat×List D)
 | .buf x v S 0 n=>Kh x v S n (h x)
 | _=>none
def SG (rs:List ResultVar) (st:St):Option (Nat×Nat×Nat×Nat×Nat×List D) :=
 match rs with
 | [.tmp i]=>QS st.h (st.t i)
 | _=>none
def rG (T:Nat->Option Ty) (Γ:Env) (F:Nat) (fn:Func) (args:List D):Option (Nat×Nat×Nat×Nat×Nat×List D) :=
 match fn.body with
 | some c =>
  if fn.ntmps<=PK then
   match fL T Γ fn.ntmps F c (bS none args) with
   | some (.exit _,_)=>none
   | some (_,st)=>SG fn.results.toList st
   | none=>none
  else none
 | none=>none
def U4 (T:Nat->Option Ty):Option (Nat×Nat×Nat×Nat×Nat×List D)->Option D
 | some (_,_,s,S,n,cs)=>if n*S<=cs.length∧cs.all (uX s)=true then some (.sl false false n ((cs.map Dx).take (n*S))) else none
 | none=>none
def PS (T:Nat->Option Ty) (Γ:Env) (F:Nat) (fn:Func) (args:List D):Option D:=U4 T (rG T Γ F fn args)
section
variable {P:Program} {T:Nat->Option Ty} {N:Nat} {M:Nat->Prop} {L:jM} {w0:World} {blk:Nat->Option (Nat×Nat)} {a:Act} {w:World} {Γ:Env}
theorem IN (hT:jn P T) (hΓ:bD P Γ) (hm:P.follows .mixedOrders=true) {f:FuncId} {fn:Func} {F:Nat} {ty t s o:Nat} {cs args cs':List D} {d:D} (hf:P.funcs[f]? = some fn)
  (hok:(match fn.body with|some c=>codeOk c|none=>true)=true) (hn:args.length+1<=fn.ntmps)
  (hr:rH T Γ F fn ty t s o cs args=some (d,cs')):Hn P f ty t s o cs args d cs':=by
 unfold rH at hr
 split at hr<;>try (cases hr;done)
 rename_i c hc
 rw[hc]at hok
 simp only at hok
 split at hr<;>try (cases hr;done)
 rename_i hbig
 split at hr<;>try (cases hr;done)
 rename_i x st hne hv
 intro w M blk h0 h1 g0 vs hh0 hh1 hM hdis hg0 hR hargs
 have hpk:=cJ
 have hfz:∀k r,h0 k=some r->r.fz=false:=by
  intro k r hk
  rw[hh0]at hk
  rcases ia hk with⟨_,rfl⟩|⟨_,_,_,_,_,rfl⟩<;>rfl
 have hown:∀b,Own M h0 blk b↔(M b∨tR blk h0 b):=by
  intro b
  constructor
  ·rintro (hb|⟨k,r,g,h1,_,h2,h3⟩)
   ·exact .inl hb
   ·exact .inr ⟨k,r,g,h1,h2,h3⟩
  ·rintro (hb|⟨k,r,g,h1,h2,h3⟩)
   ·exact .inl hb
   ·exact .inr ⟨k,r,g,h1,hfz k r h1,h2,h3⟩
 have hrow0:h0 0=some ⟨0,ty,cs.mapIdx (pk 0 s),false,true,true⟩:=by rw[hh0];exact tw
 obtain⟨LL,hLL⟩:∃LL:jM,LL=some (some g0,tR blk h0):=⟨_,rfl⟩
 have hLB:∀b,LB LL b↔tR blk h0 b:=by
  intro b
  subst hLL
  constructor
  ·rintro⟨p,hp,h⟩
   cases hp
   rcases h with⟨g,hg,rfl⟩|h
   ·cases hg;exact⟨0,_,g0,hrow0,hg0,rfl⟩
   ·exact h
  ·exact fun h=>⟨_,rfl,.inr h⟩
 have hI:Inv fn.ntmps M LL w blk (fun x v=>x<fn.ntmps∧v<1) (oA ty t s o cs args).t h0 { tmps:=(#[Value.pointer (some ⟨g0.1,g0.2+o,none⟩)]++vs)++Array.replicate (fn.ntmps-(#[Value.pointer (some ⟨g0.1,g0.2+o,none⟩)]++vs).size) undef,defers:=[] } w:={
  tab:=fun b hb=>(hargs.tab b hb).less fun b hb=>(hown b).1 hb
  below:=db.refl _ _
  mlt:=hM
  lent:=fun b hb=>hdis b ((hLB b).1 hb)
  pin:=fun p hp=>by
   subst hLL
   cases hp
   exact⟨⟨by omega,ad2⟩,fun r' _ _=>⟨hg0,fun g _=>rfl⟩⟩
  defers:=rfl
  tsz:=by have:=hargs.1;simp;omega
  slots:=fun i=>by
   simp only[oA]
   rcases xD (args := .ptr 0 0 o::args) (vs:=#[.pointer (some ⟨g0.1,g0.2+o,none⟩)]++vs) (n:=fn.ntmps) (i:=i) (by simp[hargs.1];omega) with he|he
   ·rw[he]
    cases i with
    | zero =>
     have e1:(#[Value.pointer (some ⟨g0.1,g0.2+o,none⟩)]++vs).getD 0 undef=.pointer (some ⟨g0.1,g0.2+o,none⟩):=by simp[Array.getElem?_append]
     rw[e1]
     simp only[ady]
     exact⟨⟨by omega,ad2⟩,fun r' _ _=>⟨g0,hg0,rfl⟩⟩
    | succ i =>
     have e1:(#[Value.pointer (some ⟨g0.1,g0.2+o,none⟩)]++vs).getD (i+1) undef=vs.getD i undef:=by
      simp only[acr]
      rw[Array.getElem?_append_right (by simp)]
      simp
     rw[e1]
     simp only[List.getD_cons_succ]
     by_cases hi:i<args.length
     ·have h1:=hargs.2 i _ (acA hi)
      have e1:args.getD i .und=args[i]:=by simp[List.getD,hi]
      rw[e1]
      exact bA (h1.less fun b hb=>(hown b).1 hb)
     ·have e1:args.getD i .und=.und:=by simp[List.getD,adU (ad1 hi)]
      rw[e1]
      trivial
   ·rw[he];trivial
  rows:=fun k r hk=>by
   refine⟨fun hn =>?_,?_⟩
   ·rw[hh0]at hk
    rcases ia hk with⟨rfl,rfl⟩|⟨o',_,_,rfl,_,rfl⟩
    ·exact⟨hn,ad2⟩
    ·have:=fI 0 o';omega
   ·have:=hR.rows k r hk
    cases hg:blk k with
    | none=>rw[hg]at this;exact this
    | some g =>
     rw[hg]at this
     exact⟨.inr ((hLB g.1).2 ⟨k,r,g,hk,hg,rfl⟩),this.keep rfl rfl rfl rfl fun b q1 q2=>⟨q1,fun hb=>q2 ((hown b).1 hb),rfl⟩⟩
  inj:=hR.inj
  big:=hbig
  pha:=hR.pha
  ali:=fun y r g hy hz=>by rw[hfz y r hy]at hz;cases hz }
 have hnv0:DD (oA ty t s o cs args).e [] (oA ty t s o cs args).h:=by
  intro k r' ty' s' nv' cs1 hx hm' hcc
  simp only[oA,lJ]at hx
  split at hx
  ·simp only[acw]at hx
   subst hx
   simp only[gg,acL,D.nr.injEq,and_true]at hcc
   obtain⟨_,_,rfl,_⟩:=hcc
   exact fun _=>⟨by simp[oA],fun _=>by simp[oA]⟩
  ·cases hx
 have hEH:EH (oA ty t s o cs args).h=h0:=hh0.symm
 refine calls_of_wp hf hc ?_
 refine po hT hΓ hm c (oA ty t s o cs args) x st _ _ _ hv hok ⟨_,⟨(by rw[hEH];exact hI.weaken fun x v hx=>Or.inl ⟨hx.1,Or.inl hx.2⟩),hnv0⟩⟩ (fun a' w' hH =>?_)
 obtain⟨blk',hIE⟩:=hH
 have hI':=hIE.inv
 unfold SH Kj at hr
 split at hr<;>try (cases hr;done)
 rename_i ds fr r1 hres hr1
 split at hr<;>try (cases hr;done)
 rename_i hcond
 obtain⟨c1,c2,c3,c4,c5⟩:=hcond
 unfold U3 at hr
 split at hr<;>try (cases hr;done)
 rename_i t' s' nv' cs1 hcells
 split at hr<;>try (cases hr;done)
 rename_i hts
 obtain⟨rfl,rfl⟩:=hts
 simp only[acw,Prod.mk.injEq]at hr
 obtain⟨rfl,rfl⟩:=hr
 have hE0:=fp hr1 c4 hcells lV
 obtain⟨p1,p2⟩:=(hI'.pin (some g0,tR blk h0) hLL).2 _ hE0 c1
 have hIB:=Ho (blk:=blk') hr1 c4 hcells lV
 rw[c3]at hIB
 have hQ:∀b,(M b∨tR (oF blk' 0) h1 b)->Own M (EH st.h) blk' b:=by
  rintro b (hb|hb)
  ·exact .inl hb
  ·rw[hh1]at hb
   obtain⟨k,r',g',q0,q1,q2,q3⟩:=(hIB b).1 hb
   refine .inr ⟨k,r',g',q1,?_,q2,q3⟩
   rcases dA hr1 c4 hcells lV q0 q1 with⟨_,rfl⟩|⟨_,_,_,_,_,rfl⟩<;>exact c2
 have hless:m8 M (EH st.h) blk' fr (fun b=>M b∨tR (oF blk' 0) h1 b):=by
  refine⟨hQ,fun k hk r' g hk1 hg hb =>?_⟩
  rcases hb with hb|hb
  ·exact hI'.notM hk1 hg hb
  ·rw[hh1]at hb
   obtain⟨l,r2,g',q0,q1,q2,q3⟩:=(hIB _).1 hb
   have:=hI'.inj k l r' r2 g g' hk1 q1 hg q2 q3.symm
   subst this
   have:=acy.1 c5 _ hk
   simp[q0]at this
 obtain⟨v,hv1,hv2⟩:=tz (P:=P) (s:=⟨st.t,EH st.h,st.e⟩) hT hI' hres hless
 have hlend:=hI'.Zv hr1 c4 hcells c2 lV hQ
 rw[c3,<- hh1]at hlend
 have hpost:a'.defers=[]∧∃v,(results fn a'.tmps).run P w'=.ok v w'∧(∃v' blk1,Ending.returned v=.returned v'∧db (tR blk h0) w w'∧blk1 0=some g0∧w'.shape? g0.1=w.shape? g0.1∧(∀b,tR blk1 h1 b->w.heap.size<=b∨tR blk h0 b)∧Eg w' (fun b=>M b∨tR blk1 h1 b) blk1 h1∧RP w' (fun b=>M b∨tR blk1 h1 b) (me ds) v'):=by
  refine⟨hI'.defers,v,hv1,v,oF blk' 0,rfl,⟨hI'.below.os,hI'.below.tape,hI'.below.output,hI'.below.size,fun k hk hn=>hI'.below.block k hk fun hb=>hn ((hLB k).1 hb)⟩,by rw[oF,pD];exact p1,p2 g0 rfl,fun b hb =>?_,hlend,hv2⟩
  rw[hh1]at hb
  obtain⟨k,r',g',q0,q1,q2,q3⟩:=(hIB b).1 hb
  rcases hI'.base q1 q2 with q|q
  ·exact .inl (by omega)
  ·exact .inr (by rw[<- q3];exact (hLB _).1 q)
 cases x with
 | normal=>exact hpost
 | ret=>exact hpost
 | exit n=>exact (hne n rfl).elim
theorem aax (hT:jn P T) (hΓ:bD P Γ) (hm:P.follows .mixedOrders=true) {f:FuncId} {fn:Func} {F:Nat} {args:List D} {c:Code} {x:Ex} {st:St} (hf:P.funcs[f]? = some fn) (hc:fn.body=some c) (hok:codeOk c=true) (hn:args.length<=fn.ntmps) (hbig:fn.ntmps<=PK)
  (hv:fL T Γ fn.ntmps F c (bS none args)=some (x,st)) (hne:∀n,x ≠ .exit n) {w:World} {M:Nat->Prop} {vs:Array Value} (hM:∀b,M b->b<w.heap.size) (hargs:yR w M args vs) {Φ:Ending->World->Prop}
  (hk:∀a' w' blk',Inv fn.ntmps M none w blk' (VE fn.ntmps st.e [] st.h) st.t (EH st.h) a' w'->∃v,(results fn a'.tmps).run P w'=.ok v w'∧Φ (.returned v) w'):Calls P f vs w Φ:=by
 have hI:Inv fn.ntmps M none w (fun _=>none) (fun x v=>x<fn.ntmps∧v<0) (bS none args).t (bS none args).h { tmps:=vs++Array.replicate (fn.ntmps-vs.size) undef,defers:=[] } w:={
  tab:=fun b hb=>(hargs.tab b hb).less fun b hb=>by
   rcases hb with hb|⟨x,r,g,hx,_⟩
   ·exact hb
   ·cases hx
  below:=db.refl _ _
  mlt:=hM
  lent:=fun b hb=>absurd hb qh
  pin:=fun go hg=>by cases hg
  defers:=rfl
  tsz:=by have:=hargs.1;simp;omega
  slots:=fun i=>by
   simp only[bS]
   rcases xD (n:=fn.ntmps) (i:=i) hargs.1 with he|he
   ·rw[he]
    by_cases hi:i<args.length
    ·have h1:=hargs.2 i _ (acA hi)
     have e1:args.getD i .und=args[i]:=by simp[List.getD,hi]
     rw[e1]
     exact bA (h1.less fun b hb=>by
      rcases hb with hb|⟨x,r,g,hx,_⟩
      ·exact hb
      ·cases hx)
    ·have e1:args.getD i .und=.und:=by simp[List.getD,adU (ad1 hi)]
     rw[e1]
     trivial
   ·rw[he];trivial
  rows:=fun x r hx=>by cases hx
  inj:=fun x y r s g g' hx=>by cases hx
  big:=hbig
  pha:=fun y r g hy=>by cases hy
  ali:=fun y r g hy=>by cases hy }
 refine calls_of_wp hf hc ?_
 refine po hT hΓ hm c (bS none args) x st _ _ _ hv hok ⟨_,⟨(by rw[AB (fun k r hk=>by cases hk)];exact hI.weaken fun x v hx=>absurd hx.2 (Nat.not_lt_zero _)),fun x r ty s nv cs hx=>by cases hx⟩⟩ (fun a' w' hH =>?_)
 obtain⟨blk',hIE⟩:=hH
 obtain⟨v,h1,h2⟩:=hk a' w' blk' hIE.inv
 have hpost:a'.defers=[]∧∃v,(results fn a'.tmps).run P w'=.ok v w'∧Φ (.returned v) w':=⟨hIE.inv.defers,v,h1,h2⟩
 cases x with
 | normal=>exact hpost
 | ret=>exact hpost
 | exit n=>exact (hne n rfl).elim
theorem z7 {F:Nat} {fn:Func} {args:List D} {ty t s S n:Nat} {cs:List D} (hr:rG T Γ F fn args=some (ty,t,s,S,n,cs)) :
  ∃c x st i k v r nv,fn.body=some c∧fn.ntmps<=PK∧fL T Γ fn.ntmps F c (bS none args)=some (x,st)∧(∀m,x ≠ .exit m)∧fn.results.toList=[.tmp i]∧st.t i=.buf k v S 0 n∧st.h k=some r∧r.v=v∧r.fz=false∧r.mp=true∧k<PK∧r.ty=ty∧r.cells=[.nr t s nv cs]:=by
 unfold rG at hr
 split at hr<;>try (cases hr;done)
 rename_i c hc
 split at hr<;>try (cases hr;done)
 rename_i hbig
 split at hr<;>try (cases hr;done)
 rename_i x st hne hv
 unfold SG at hr
 split at hr<;>try (cases hr;done)
 rename_i i hrs
 unfold QS at hr
 split at hr<;>try (cases hr;done)
 rename_i k v S' n' ht
 unfold Kh at hr
 split at hr<;>try (cases hr;done)
 rename_i r hh
 split at hr<;>try (cases hr;done)
 rename_i hcond
 unfold U2 at hr
 split at hr<;>try (cases hr;done)
 rename_i t' s' nv cs' hcells
 split at hr<;>try (cases hr;done)
 rename_i hk
 simp only[acw,Prod.mk.injEq]at hr
 obtain⟨h1,h2,h3,h4,h5,h6⟩:=hr
 subst h2 h3 h4 h5 h6
 exact⟨c,x,st,i,k,v,r,nv,hc,hbig,hv,fun m hm=>hne m hm,hrs,ht,hh,hcond.1,hcond.2.1,hcond.2.2,hk,h1,hcells⟩
theorem IM (hT:jn P T) (hΓ:bD P Γ) (hm:P.follows .mixedOrders=true) {f:FuncId} {fn:Func} {F:Nat} {args:List D} {ty t s S n:Nat} {cs:List D} (hf:P.funcs[f]? = some fn)
  (hok:(match fn.body with|some c=>codeOk c|none=>true)=true) (hn:args.length<=fn.ntmps)
  (hr:rG T Γ F fn args=some (ty,t,s,S,n,cs)):Hm P f args ty t s S n cs:=by
 obtain⟨c,x,st,i,k,v,r,nv,hc,hbig,hv,hne,hrs,ht,hh,c1,c2,c3,hk,hty,hcells⟩:=z7 hr
 rw[hc]at hok
 simp only at hok
 intro w M h vs hh0 hM hargs
 refine aax hT hΓ hm hf hc hok hn hbig hv hne hM hargs fun a' w' blk' hI' =>?_
 have hIB:=Ho (blk:=blk') hh c3 hcells hk
 rw[hty,<- hh0]at hIB
 have hbel:Below w.heap.size w w':=hI'.below.below (fun b hb=>absurd hb qh)
 have hQ:∀b,(M b∨tR (oF blk' k) h b)->Own M (EH st.h) blk' b:=by
  rintro b (hb|hb)
  ·exact .inl hb
  ·obtain⟨l,r',g',q0,q1,q2,q3⟩:=(hIB b).1 hb
   refine .inr ⟨l,r',g',q1,?_,q2,q3⟩
   rcases dA hh c3 hcells hk q0 q1 with⟨_,rfl⟩|⟨_,_,_,_,_,rfl⟩<;>exact c2
 have hlend:=hI'.Zv hh c3 hcells c2 hk hQ
 rw[hty,<- hh0]at hlend
 have hsl:=hI'.slots i
 rw[ht]at hsl
 refine⟨_,kO hrs,_,oF blk' k,rfl,hbel,fun b hb =>?_,hlend,trivial,fun r' _ _ =>?_⟩
 ·obtain⟨l,r',g',q0,q1,q2,q3⟩:=(hIB b).1 hb
  rcases hI'.base q1 q2 with q|q
  ·omega
  ·exact absurd q qh
 ·rw[oF,pD]
  exact hsl.2 _ (fp hh c3 hcells hk) c1
theorem WQ {s:Nat} {d:D} (h:uX s d=true):eY (Dx d)=true:=by
 cases d<;>first|rfl|exact h
theorem IP (hT:jn P T) (hΓ:bD P Γ) (hm:P.follows .mixedOrders=true) {f:FuncId} {fn:Func} {F:Nat} {args:List D} {d:D} (hf:P.funcs[f]? = some fn)
  (hok:(match fn.body with|some c=>codeOk c|none=>true)=true) (hn:args.length<=fn.ntmps)
  (hr:PS T Γ F fn args=some d):nM P f none args (.clean d) none:=by
 unfold PS U4 at hr
 split at hr<;>try (cases hr;done)
 rename_i ty t s S n cs hF
 split at hr<;>try (cases hr;done)
 rename_i hcond
 simp only[acw]at hr
 subst hr
 obtain⟨hle,hall⟩:=hcond
 obtain⟨c,x,st,i,k,v,r,nv,hc,hbig,hv,hne,hrs,ht,hh,c1,c2,c3,hk,hty,hcells⟩:=z7 hF
 rw[hc]at hok
 simp only at hok
 intro w M vs hM hargs
 refine aax hT hΓ hm hf hc hok hn hbig hv hne hM hargs fun a' w' blk' hI' =>?_
 have hbel:Below w.heap.size w w':=hI'.below.below (fun b hb=>absurd hb qh)
 obtain⟨k1,_⟩:=hI'.Zq (o:=0) hh c3 hcells c2 hk cs.length (by rw[adI,aen];exact hall)
 have hw:pW cs.length 0 cs=cs.map Dx:=by
  apply aeo
  intro j
  rw[rI,aci]
  cases hj:cs[j]? with
  | none=>rfl
  | some d =>
   have:=(acQ.1 hj).1
   simp only[Option.map_some]
   rw[if_pos (by omega)]
 rw[hw]at k1
 generalize hh2:bT st.h k (some (⟨r.v,r.ty,[.nr t s nv (cs.map Dx)],false,r.lst,true⟩:Row))=h2 at k1
 have hx2:h2 k=some ⟨r.v,r.ty,[.nr t s nv (cs.map Dx)],false,r.lst,true⟩:=by rw[<- hh2,ay]
 have hEk:=fp hx2 rfl rfl hk
 have k2:=k1.lI (x:=k) (r:=⟨r.v,r.ty,(cs.map Dx).mapIdx (pk k s),false,r.lst,true⟩) (r0:=⟨r.v,r.ty,cs.map Dx,false,r.lst,false⟩) (w':=w') hEk rfl rfl rfl rfl rfl (acm _) (fun _ _ _=>rfl) (by
  cases hg:blk' k with
  | none =>
   have:=(k1.rows k _ hEk).2
   rw[hg]at this
   have h1:(cs.map Dx).mapIdx (pk k s)=[]:=this
   have h2:(cs.map Dx).length=0:=by
    have:=congrArg List.length h1
    simpa using this
   exact adx h2
  | some g =>
   obtain⟨arr,a1,a2,a3⟩:=k1.Cw hx2 rfl rfl hk hg
   refine⟨rfl,arr,a1,a2,fun j d hj =>?_⟩
   have hd:eY d=true:=by
    have:=hj
    simp only[aci,acj]at this
    obtain⟨d0,hd0,rfl⟩:=this
    exact WQ (acy.1 hall d0 (acP hd0))
   exact⟨(fV hd).1,a3 j d hj hd⟩) (fun h=>by cases h)
 have hlive:live (bT (EH h2) k (some ⟨r.v,r.ty,cs.map Dx,false,r.lst,false⟩)) k v=some ⟨r.v,r.ty,cs.map Dx,false,r.lst,false⟩:=by
  unfold live
  rw[ay]
  simp[c1]
 have hcl:Am.bo (bT (EH h2) k (some ⟨r.v,r.ty,cs.map Dx,false,r.lst,false⟩)) (.buf k v S 0 n)=some (.sl false false n ((cs.map Dx).take (n*S)),[k]):=by
  simp only[Am.bo,Am.aM,Am.cM,hlive,ada,adI]
  rw[if_pos (by rw[acR];exact hle)]
  rfl
 have hsl:=k2.slots i
 rw[ht]at hsl
 exact⟨_,kO hrs,_,rfl,hbel,k2.bo hcl (k2.YD [k]) hsl⟩
end
def tab (t:Nat):Option Ty :=
 match t with
 | 2=>some ⟨.int .i64,1,8,[.int .i64 0],false⟩
 | 3=>some ⟨.int .i64,1,8,[.int .i64 0],false⟩
 | 4=>some ⟨.bool,1,1,[.bool false],false⟩
 | 5=>some ⟨.int .u8,1,1,[.int .u8 0],false⟩
 | 9=>some ⟨.str,1,16,[.string ⟨#[]⟩],false⟩
 | 12=>some ⟨.int .u64,1,8,[.int .u64 0],false⟩
 | 21=>some ⟨.int .i32,1,4,[.int .i32 0],false⟩
 | 22=>some ⟨.slice 46,1,24,[.slice none 0 0],false⟩
 | 23=>some ⟨.struct [(3,0),(22,1)],2,32,[.int .i64 0,.slice none 0 0],false⟩
 | 24=>some ⟨.struct [(3,0),(22,1)],2,32,[.int .i64 0,.slice none 0 0],false⟩
 | 25=>some ⟨.slice 41,1,24,[.slice none 0 0],false⟩
 | 30=>some ⟨.int .i64,1,8,[.int .i64 0],false⟩
 | 33=>some ⟨.slice 3,1,24,[.slice none 0 0],false⟩
 | 37=>some ⟨.slice 4,1,24,[.slice none 0 0],false⟩
 | 38=>some ⟨.struct [(3,0),(33,1)],2,32,[.int .i64 0,.slice none 0 0],false⟩
 | 39=>some ⟨.struct [(3,0),(33,1)],2,32,[.int .i64 0,.slice none 0 0],false⟩
 | 40=>some ⟨.struct [(39,0),(39,2)],4,64,[.int .i64 0,.slice none 0 0,.int .i64 0,.slice none 0 0],false⟩
 | 41=>some ⟨.struct [(39,0),(39,2)],4,64,[.int .i64 0,.slice none 0 0,.int .i64 0,.slice none 0 0],false⟩
 | 45=>some ⟨.struct [(3,0),(3,1),(41,2)],6,80,[.int .i64 0,.int .i64 0,.int .i64 0,.slice none 0 0,.int .i64 0,.slice none 0 0],false⟩
 | 46=>some ⟨.struct [(3,0),(3,1),(41,2)],6,80,[.int .i64 0,.int .i64 0,.int .i64 0,.slice none 0 0,.int .i64 0,.slice none 0 0],false⟩
 | 55=>some ⟨.slice 5,1,24,[.slice none 0 0],false⟩
 | 65=>some ⟨.slice 69,1,24,[.slice none 0 0],false⟩
 | 67=>some ⟨.slice 74,1,24,[.slice none 0 0],false⟩
 | 68=>some ⟨.struct [(41,0),(67,4)],5,88,[.int .i64 0,.slice none 0 0,.int .i64 0,.slice none 0 0,.slice none 0 0],false⟩
 | 69=>some ⟨.struct [(41,0),(67,4)],5,88,[.int .i64 0,.slice none 0 0,.int .i64 0,.slice none 0 0,.slice none 0 0],false⟩
 | 73=>some ⟨.struct [(3,0),(41,1)],5,72,[.int .i64 0,.int .i64 0,.slice none 0 0,.int .i64 0,.slice none 0 0],false⟩
 | 74=>some ⟨.struct [(3,0),(41,1)],5,72,[.int .i64 0,.int .i64 0,.slice none 0 0,.int .i64 0,.slice none 0 0],false⟩
 | 97=>some ⟨.slice 33,1,24,[.slice none 0 0],false⟩
 | 111=>some ⟨.int .u64,1,8,[.int .u64 0],false⟩
 | 117=>some ⟨.int .u64,1,8,[.int .u64 0],false⟩
 | 123=>some ⟨.int .u32,1,4,[.int .u32 0],false⟩
 | _=>none
theorem YS:tab 2=some ⟨.int .i64,1,8,[.int .i64 0],false⟩:=rfl
theorem Sc:tab 3=some ⟨.int .i64,1,8,[.int .i64 0],false⟩:=rfl
theorem YT:tab 4=some ⟨.bool,1,1,[.bool false],false⟩:=rfl
theorem YU:tab 5=some ⟨.int .u8,1,1,[.int .u8 0],false⟩:=rfl
theorem YV:tab 9=some ⟨.str,1,16,[.string ⟨#[]⟩],false⟩:=rfl
theorem Wn:tab 12=some ⟨.int .u64,1,8,[.int .u64 0],false⟩:=rfl
theorem Wo:tab 21=some ⟨.int .i32,1,4,[.int .i32 0],false⟩:=rfl
theorem Pu:tab 22=some ⟨.slice 46,1,24,[.slice none 0 0],false⟩:=rfl
theorem Wp:tab 23=some ⟨.struct [(3,0),(22,1)],2,32,[.int .i64 0,.slice none 0 0],false⟩:=rfl
theorem IG:tab 24=some ⟨.struct [(3,0),(22,1)],2,32,[.int .i64 0,.slice none 0 0],false⟩:=rfl
theorem Dl:tab 25=some ⟨.slice 41,1,24,[.slice none 0 0],false⟩:=rfl
theorem Wq:tab 30=some ⟨.int .i64,1,8,[.int .i64 0],false⟩:=rfl
theorem IH:tab 33=some ⟨.slice 3,1,24,[.slice none 0 0],false⟩:=rfl
theorem Wr:tab 37=some ⟨.slice 4,1,24,[.slice none 0 0],false⟩:=rfl
theorem Ws:tab 38=some ⟨.struct [(3,0),(33,1)],2,32,[.int .i64 0,.slice none 0 0],false⟩:=rfl
theorem Pv:tab 39=some ⟨.struct [(3,0),(33,1)],2,32,[.int .i64 0,.slice none 0 0],false⟩:=rfl
theorem Wt:tab 40=some ⟨.struct [(39,0),(39,2)],4,64,[.int .i64 0,.slice none 0 0,.int .i64 0,.slice none 0 0],false⟩:=rfl
theorem Dm:tab 41=some ⟨.struct [(39,0),(39,2)],4,64,[.int .i64 0,.slice none 0 0,.int .i64 0,.slice none 0 0],false⟩:=rfl
theorem Wu:tab 45=some ⟨.struct [(3,0),(3,1),(41,2)],6,80,[.int .i64 0,.int .i64 0,.int .i64 0,.slice none 0 0,.int .i64 0,.slice none 0 0],false⟩:=rfl
theorem II:tab 46=some ⟨.struct [(3,0),(3,1),(41,2)],6,80,[.int .i64 0,.int .i64 0,.int .i64 0,.slice none 0 0,.int .i64 0,.slice none 0 0],false⟩:=rfl
theorem Wv:tab 55=some ⟨.slice 5,1,24,[.slice none 0 0],false⟩:=rfl
theorem Ww:tab 65=some ⟨.slice 69,1,24,[.slice none 0 0],false⟩:=rfl
theorem Wx:tab 67=some ⟨.slice 74,1,24,[.slice none 0 0],false⟩:=rfl
theorem Wy:tab 68=some ⟨.struct [(41,0),(67,4)],5,88,[.int .i64 0,.slice none 0 0,.int .i64 0,.slice none 0 0,.slice none 0 0],false⟩:=rfl
theorem Pw:tab 69=some ⟨.struct [(41,0),(67,4)],5,88,[.int .i64 0,.slice none 0 0,.int .i64 0,.slice none 0 0,.slice none 0 0],false⟩:=rfl
theorem Wz:tab 73=some ⟨.struct [(3,0),(41,1)],5,72,[.int .i64 0,.int .i64 0,.slice none 0 0,.int .i64 0,.slice none 0 0],false⟩:=rfl
theorem WA:tab 74=some ⟨.struct [(3,0),(41,1)],5,72,[.int .i64 0,.int .i64 0,.slice none 0 0,.int .i64 0,.slice none 0 0],false⟩:=rfl
theorem WB:tab 97=some ⟨.slice 33,1,24,[.slice none 0 0],false⟩:=rfl
theorem R9:tab 111=some ⟨.int .u64,1,8,[.int .u64 0],false⟩:=rfl
theorem Sa:tab 117=some ⟨.int .u64,1,8,[.int .u64 0],false⟩:=rfl
theorem Sb:tab 123=some ⟨.int .u32,1,4,[.int .u32 0],false⟩:=rfl
theorem abJ:fM Try.prog 2 ⟨.int .i64,1,8,[.int .i64 0],false⟩:=⟨by kernel_rfl,by kernel_rfl,by kernel_rfl,fun h=>by cases h⟩
theorem abK:fM Try.prog 3 ⟨.int .i64,1,8,[.int .i64 0],false⟩:=⟨by kernel_rfl,by kernel_rfl,by kernel_rfl,fun h=>by cases h⟩
theorem abL:fM Try.prog 4 ⟨.bool,1,1,[.bool false],false⟩:=⟨by kernel_rfl,by kernel_rfl,by kernel_rfl,fun h=>by cases h⟩
theorem abM:fM Try.prog 5 ⟨.int .u8,1,1,[.int .u8 0],false⟩:=⟨by kernel_rfl,by kernel_rfl,by kernel_rfl,fun h=>by cases h⟩
theorem abN:fM Try.prog 9 ⟨.str,1,16,[.string ⟨#[]⟩],false⟩:=⟨by kernel_rfl,by kernel_rfl,by kernel_rfl,fun h=>by cases h⟩
theorem aaE:fM Try.prog 12 ⟨.int .u64,1,8,[.int .u64 0],false⟩:=⟨by kernel_rfl,by kernel_rfl,by kernel_rfl,fun h=>by cases h⟩
theorem aaF:fM Try.prog 21 ⟨.int .i32,1,4,[.int .i32 0],false⟩:=⟨by kernel_rfl,by kernel_rfl,by kernel_rfl,fun h=>by cases h⟩
theorem aaG:fM Try.prog 22 ⟨.slice 46,1,24,[.slice none 0 0],false⟩:=⟨by kernel_rfl,by kernel_rfl,by kernel_rfl,fun h=>by cases h⟩
theorem aaH:fM Try.prog 23 ⟨.struct [(3,0),(22,1)],2,32,[.int .i64 0,.slice none 0 0],false⟩:=⟨by kernel_rfl,by kernel_rfl,by kernel_rfl,fun h=>by cases h⟩
theorem aaI:fM Try.prog 24 ⟨.struct [(3,0),(22,1)],2,32,[.int .i64 0,.slice none 0 0],false⟩:=⟨by kernel_rfl,by kernel_rfl,by kernel_rfl,fun h=>by cases h⟩
theorem aaJ:fM Try.prog 25 ⟨.slice 41,1,24,[.slice none 0 0],false⟩:=⟨by kernel_rfl,by kernel_rfl,by kernel_rfl,fun h=>by cases h⟩
theorem aaK:fM Try.prog 30 ⟨.int .i64,1,8,[.int .i64 0],false⟩:=⟨by kernel_rfl,by kernel_rfl,by kernel_rfl,fun h=>by cases h⟩
theorem aaL:fM Try.prog 33 ⟨.slice 3,1,24,[.slice none 0 0],false⟩:=⟨by kernel_rfl,by kernel_rfl,by kernel_rfl,fun h=>by cases h⟩
theorem aaM:fM Try.prog 37 ⟨.slice 4,1,24,[.slice none 0 0],false⟩:=⟨by kernel_rfl,by kernel_rfl,by kernel_rfl,fun h=>by cases h⟩
theorem aaN:fM Try.prog 38 ⟨.struct [(3,0),(33,1)],2,32,[.int .i64 0,.slice none 0 0],false⟩:=⟨by kernel_rfl,by kernel_rfl,by kernel_rfl,fun h=>by cases h⟩
theorem aaO:fM Try.prog 39 ⟨.struct [(3,0),(33,1)],2,32,[.int .i64 0,.slice none 0 0],false⟩:=⟨by kernel_rfl,by kernel_rfl,by kernel_rfl,fun h=>by cases h⟩
theorem aaP:fM Try.prog 40 ⟨.struct [(39,0),(39,2)],4,64,[.int .i64 0,.slice none 0 0,.int .i64 0,.slice none 0 0],false⟩:=⟨by kernel_rfl,by kernel_rfl,by kernel_rfl,fun h=>by cases h⟩
theorem aaQ:fM Try.prog 41 ⟨.struct [(39,0),(39,2)],4,64,[.int .i64 0,.slice none 0 0,.int .i64 0,.slice none 0 0],false⟩:=⟨by kernel_rfl,by kernel_rfl,by kernel_rfl,fun h=>by cases h⟩
theorem aaR:fM Try.prog 45 ⟨.struct [(3,0),(3,1),(41,2)],6,80,[.int .i64 0,.int .i64 0,.int .i64 0,.slice none 0 0,.int .i64 0,.slice none 0 0],false⟩:=⟨by kernel_rfl,by kernel_rfl,by kernel_rfl,fun h=>by cases h⟩
theorem aaS:fM Try.prog 46 ⟨.struct [(3,0),(3,1),(41,2)],6,80,[.int .i64 0,.int .i64 0,.int .i64 0,.slice none 0 0,.int .i64 0,.slice none 0 0],false⟩:=⟨by kernel_rfl,by kernel_rfl,by kernel_rfl,fun h=>by cases h⟩
theorem aaT:fM Try.prog 55 ⟨.slice 5,1,24,[.slice none 0 0],false⟩:=⟨by kernel_rfl,by kernel_rfl,by kernel_rfl,fun h=>by cases h⟩
theorem aaU:fM Try.prog 65 ⟨.slice 69,1,24,[.slice none 0 0],false⟩:=⟨by kernel_rfl,by kernel_rfl,by kernel_rfl,fun h=>by cases h⟩
theorem aaV:fM Try.prog 67 ⟨.slice 74,1,24,[.slice none 0 0],false⟩:=⟨by kernel_rfl,by kernel_rfl,by kernel_rfl,fun h=>by cases h⟩
theorem aaW:fM Try.prog 68 ⟨.struct [(41,0),(67,4)],5,88,[.int .i64 0,.slice none 0 0,.int .i64 0,.slice none 0 0,.slice none 0 0],false⟩:=⟨by kernel_rfl,by kernel_rfl,by kernel_rfl,fun h=>by cases h⟩
theorem aaX:fM Try.prog 69 ⟨.struct [(41,0),(67,4)],5,88,[.int .i64 0,.slice none 0 0,.int .i64 0,.slice none 0 0,.slice none 0 0],false⟩:=⟨by kernel_rfl,by kernel_rfl,by kernel_rfl,fun h=>by cases h⟩
theorem aaY:fM Try.prog 73 ⟨.struct [(3,0),(41,1)],5,72,[.int .i64 0,.int .i64 0,.slice none 0 0,.int .i64 0,.slice none 0 0],false⟩:=⟨by kernel_rfl,by kernel_rfl,by kernel_rfl,fun h=>by cases h⟩
theorem aaZ:fM Try.prog 74 ⟨.struct [(3,0),(41,1)],5,72,[.int .i64 0,.int .i64 0,.slice none 0 0,.int .i64 0,.slice none 0 0],false⟩:=⟨by kernel_rfl,by kernel_rfl,by kernel_rfl,fun h=>by cases h⟩
theorem aa0:fM Try.prog 97 ⟨.slice 33,1,24,[.slice none 0 0],false⟩:=⟨by kernel_rfl,by kernel_rfl,by kernel_rfl,fun h=>by cases h⟩
theorem ZO:fM Try.prog 111 ⟨.int .u64,1,8,[.int .u64 0],false⟩:=⟨by kernel_rfl,by kernel_rfl,by kernel_rfl,fun h=>by cases h⟩
theorem ZP:fM Try.prog 117 ⟨.int .u64,1,8,[.int .u64 0],false⟩:=⟨by kernel_rfl,by kernel_rfl,by kernel_rfl,fun h=>by cases h⟩
theorem ZQ:fM Try.prog 123 ⟨.int .u32,1,4,[.int .u32 0],false⟩:=⟨by kernel_rfl,by kernel_rfl,by kernel_rfl,fun h=>by cases h⟩
theorem tok:jn Try.prog tab:=by
 intro t τ h
 unfold tab at h
 split at h
 ·cases h;exact abJ
 ·cases h;exact abK
 ·cases h;exact abL
 ·cases h;exact abM
 ·cases h;exact abN
 ·cases h;exact aaE
 ·cases h;exact aaF
 ·cases h;exact aaG
 ·cases h;exact aaH
 ·cases h;exact aaI
 ·cases h;exact aaJ
 ·cases h;exact aaK
 ·cases h;exact aaL
 ·cases h;exact aaM
 ·cases h;exact aaN
 ·cases h;exact aaO
 ·cases h;exact aaP
 ·cases h;exact aaQ
 ·cases h;exact aaR
 ·cases h;exact aaS
 ·cases h;exact aaT
 ·cases h;exact aaU
 ·cases h;exact aaV
 ·cases h;exact aaW
 ·cases h;exact aaX
 ·cases h;exact aaY
 ·cases h;exact aaZ
 ·cases h;exact aa0
 ·cases h;exact ZO
 ·cases h;exact ZP
 ·cases h;exact ZQ
 ·cases h
theorem mixed:Try.prog.follows .mixedOrders=true:=by kernel_rfl
def oh {α:Type} (x:Option α) (K:α->Prop):Prop :=
 match x with
 | some a=>K a
 | none=>False
def br (b:Bool) (A B:Prop):Prop:=(b=true->A)∧(b=false->B)
def PT (d:D) (t:Nat->D) (g:Nat) (A B:(Nat->D)->Prop):Prop :=
 match d with
 | .bool b=>br b (A (bT t g (.bool b))) (B (bT t g (.bool b)))
 | _=>False
def wpS (d:D) (t:Nat->D) (g:Nat) (A B S:(Nat->D)->Prop):Prop :=
 match d with
 | .skp=>S t
 | d=>PT d t g A B
theorem xM {t:Nat->D} {g:Nat} {b:Bool} {A B S:(Nat->D)->Prop} : wpS (.bool b) t g A B S=br b (A (bT t g (.bool b))) (B (bT t g (.bool b))):=rfl
def WX (ops:List Oper) (t:Nat->D) (gd:Option (Nat×Bool)) (A B:(Nat->D)->Prop):Prop :=
 match gd with
 | none=>A t
 | some (j,want)=>oh ((ops[j]?).bind (·.dst)) fun g=>wpS (t g) t g (if want then A else B) (if want then B else A) B
def PV (T:Nat->Option Ty) (Γ:Env) (e:Nat) (o:Oper) (t:Nat->D) (h:Nat->Option Row) (K:(Nat->D)->bK->Prop):Prop :=
 match o.op with
 | .pick (.tmp c) a b=>PT (t c) t c (fun t=>K t ⟨ev t a,[]⟩) (fun t=>K t ⟨ev t b,[]⟩)
 | _=>oh (oE T Γ e o (ev t) h) (K t)
def C8 (T:Nat->Option Ty) (Γ:Env) (N e:Nat) (ops:List Oper):List Oper->(Nat->D)->(Nat->Option Row)->((Nat->D)->(Nat->Option Row)->Prop)->Prop
 | [],t,h,K=>K t h
 | o::l,t,h,K=>fits N o.dst=true∧WX ops t o.guard (fun t=>PV T Γ e o t h fun t E=>C8 T Γ N e ops l (dN t o.dst E.val) (aG h E.hw) K) (fun t=>C8 T Γ N e ops l (dN t o.dst .skp) h K)
def runK (T:Nat->Option Ty) (Γ:Env) (N e:Nat) (ops:List Oper):List Oper->(Nat->D)->(Nat->Option Row)->List jL->((Nat->D)->(Nat->Option Row)->List jL->Prop)->Prop
 | [],t,h,fs,K=>K t h fs
 | o::l,t,h,fs,K=>fits N o.dst=true∧WX ops t o.guard (fun t=>PV T Γ e o t h fun t E=>runK T Γ N e ops l (dN t o.dst E.val) (aG h E.hw) (fs++[⟨bj o (ev t),E.hw.isEmpty⟩]) K) (fun t=>runK T Γ N e ops l (dN t o.dst .skp) h (fs++[⟨[],true⟩]) K)
abbrev Kt:=Ex->(Nat->D)->(Nat->Option Row)->Nat->Prop
def aaz (x:Ex) (A:Prop) (B:Prop):Prop :=
 match x with
 | .normal=>A
 | _=>B
def Ui (id:Nat) (x:Ex) (t:Nat->D) (h:Nat->Option Row) (e:Nat) (K:Kt):Prop :=
 match x with
 | .exit n=>if n=id then K .normal t h e else K (.exit n) t h e
 | x=>K x t h e
def wpR (T:Nat->Option Ty) (Γ:Env) (N:Nat) (ops:Array Oper) (draw:Bool) (t:Nat->D) (h:Nat->Option Row) (e:Nat) (K:(Nat->D)->(Nat->Option Row)->Prop):Prop :=
 match draw with
 | true=>runK T Γ N e ops.toList ops.toList t h [] fun t h fs=>BC ops fs=true∧K t h
 | false=>C8 T Γ N e ops.toList ops.toList t h K
def IW (T:Nat->Option Ty) (Γ:Env) (N F:Nat):Code->(Nat->D)->(Nat->Option Row)->Nat->Kt->Prop
 | .skip,t,h,e,K=>K .normal t h e
 | .region _ ops draw,t,h,e,K=>wpR T Γ N ops draw t h e fun t h=>K .normal t h (e+1)
 | .seq a b,t,h,e,K=>IW T Γ N F a t h e fun x t h e=>aaz x (IW T Γ N F b t h e K) (K x t h e)
 | .cond c x y,t,h,e,K =>
  match c with
  | .tmp g=>PT (t g) t g (fun t=>IW T Γ N F x t h e K) (fun t=>IW T Γ N F y t h e K)
  | .const (.bool true)=>IW T Γ N F x t h e K
  | .const (.bool false)=>IW T Γ N F y t h e K
  | _=>False
 | .block id b,t,h,e,K=>IW T Γ N F b t h e fun x t h e=>Ui id x t h e K
 | .loop b,t,h,e,K=>∃x s,iter (fL T Γ N F b) F ⟨t,h,e⟩=some (x,s)∧K x s.t s.h s.e
 | .exit id,t,h,e,K=>K (.exit id) t h e
 | .ret,t,h,e,K=>K .ret t h e
 | _,_,_,_,_=>False
def Zj (mode:Mode) (T:Nat->Option Ty) (lent:Option (D×Row)) (rs:List ResultVar) (x:Ex) (t:Nat->D) (h:Nat->Option Row) (e:Nat) (r:RK×Option Row):Prop :=
 match x with
 | .exit _=>False
 | _=>jv mode T lent rs ⟨t,EH h,e⟩=some r
def wpf (mode:Mode) (T:Nat->Option Ty) (Γ:Env) (F:Nat) (fn:Func) (lent:Option (D×Row)) (args:List D) (r:RK×Option Row):Prop :=
 oh fn.body fun c=>IW T Γ fn.ntmps F c (bS lent args).t (bS lent args).h (bS lent args).e fun x t h e=>Zj mode T lent fn.results.toList x t h e r
theorem rh {α:Type} (a:α) (K:α->Prop):oh (some a) K=K a:=rfl
theorem CA {α:Type} {x:Option α} {K:α->Prop} (h:oh x K):∃a,x=some a∧K a:=by
 cases x with
 | none=>exact h.elim
 | some a=>exact⟨a,rfl,h⟩
theorem PO {t:Nat->D} {g:Nat} {d:D} (h:t g=d):bT t g d=t:=by
 funext j
 unfold bT
 split
 ·rename_i e;subst e;exact h.symm
 ·rfl
theorem Hr (A B:Prop):br true A B=A:=by simp[br]
theorem AZ (A B:Prop):br false A B=B:=by simp[br]
theorem Xd {b:Bool} {A B:Prop} (h:br b A B):if b then A else B:=by
 cases b with
 | true=>exact h.1 rfl
 | false=>exact h.2 rfl
theorem WV {t:Nat->D} {g:Nat} {b:Bool} {A B:(Nat->D)->Prop} : PT (.bool b) t g A B=br b (A (bT t g (.bool b))) (B (bT t g (.bool b))):=rfl
theorem xK {t:Nat->D} {g:Nat} {A B:(Nat->D)->Prop} (h:t g=.bool true):PT (.bool true) t g A B=A t:=by simp[PT,PO h,Hr]
theorem uS {t:Nat->D} {g:Nat} {A B:(Nat->D)->Prop} (h:t g=.bool false):PT (.bool false) t g A B=B t:=by simp[PT,PO h,AZ]
theorem xN {t:Nat->D} {g:Nat} {A B S:(Nat->D)->Prop} (h:t g=.bool true):wpS (.bool true) t g A B S=A t:=xK h
theorem uT {t:Nat->D} {g:Nat} {A B S:(Nat->D)->Prop} (h:t g=.bool false):wpS (.bool false) t g A B S=B t:=uS h
theorem PU {t:Nat->D} {g:Nat} {A B:(Nat->D)->Prop} (h:PT (t g) t g A B):∃b,t g=.bool b∧(if b then A t else B t):=by
 unfold PT at h
 split at h
 ·rename_i b hb
  rw[PO hb]at h
  exact⟨b,hb,Xd h⟩
 ·exact h.elim
section
variable {T:Nat->Option Ty} {Γ:Env} {N F e:Nat}
theorem WY {ops:Array Oper} {t:Nat->D} {o:Oper} {A B:(Nat->D)->Prop} (h:WX ops.toList t o.guard A B):∃b,s4 ops t o=some b∧(if b then A t else B t):=by
 unfold WX at h
 unfold s4
 split at h
 ·rename_i hg
  try rw[hg]
  exact⟨true,rfl,by simpa using h⟩
 ·rename_i j want hg
  try rw[hg]
  obtain⟨g,h1,h2⟩:=CA h
  rw[adf]at h1
  unfold wpS at h2
  split at h2
  ·rename_i hs
   simp only[h1,hs]
   exact⟨false,rfl,h2⟩
  ·obtain⟨b,h3,h4⟩:=PU h2
   simp only[h1,h3]
   refine⟨_,rfl,?_⟩
   cases b<;>cases want<;>simpa using h4
theorem WW {o:Oper} {t:Nat->D} {h:Nat->Option Row} {K:(Nat->D)->bK->Prop} (hw:PV T Γ e o t h K):∃E,oE T Γ e o (ev t) h=some E∧K t E:=by
 unfold PV at hw
 split at hw
 ·rename_i c a b ho
  obtain⟨v,h1,h2⟩:=PU hw
  have hq:lS Γ e h o.dst none=none:=by cases o.dst<;>rfl
  cases v with
  | true=>exact⟨⟨ev t a,[]⟩,by unfold oE iG lR;rw[ho];simp only[ev,h1,W6,jJ,gn,hq],by simpa only[if_true] using h2⟩
  | false=>exact⟨⟨ev t b,[]⟩,by unfold oE iG lR;rw[ho];simp only[ev,h1,W6,jJ,gn,hq],by simpa only[acX,if_false] using h2⟩
 ·obtain⟨E,h1,h2⟩:=CA hw
  exact⟨E,h1,h2⟩
theorem Iz {ops:Array Oper} {K:(Nat->D)->(Nat->Option Row)->Prop} : ∀(l:List Oper) (t:Nat->D) (h:Nat->Option Row),C8 T Γ N e ops.toList l t h K->∃t' h' fs,Aj T Γ N e ops l t h=some (t',h',fs)∧K t' h'
 | [],t,h,hk=>⟨t,h,[],rfl,hk⟩
 | o::l,t,h,hk=>by
  unfold C8 at hk
  obtain⟨hf,hg⟩:=hk
  obtain⟨b,h1,h2⟩:=WY hg
  unfold Aj tF
  rw[if_pos hf,h1]
  cases b with
  | true =>
   obtain⟨E,h3,h4⟩:=WW (by simpa using h2)
   obtain⟨t',h',fs,h5,h6⟩:=Iz l _ _ h4
   simp only[h3,h5]
   exact⟨_,_,_,rfl,h6⟩
  | false =>
   obtain⟨t',h',fs,h5,h6⟩:=Iz l _ _ (by simpa using h2)
   simp only[h5]
   exact⟨_,_,_,rfl,h6⟩
theorem Iy {ops:Array Oper} {K:(Nat->D)->(Nat->Option Row)->List jL->Prop} : ∀(l:List Oper) (t:Nat->D) (h:Nat->Option Row) (f0:List jL),runK T Γ N e ops.toList l t h f0 K->∃t' h' fs,Aj T Γ N e ops l t h=some (t',h',fs)∧K t' h' (f0++fs)
 | [],t,h,f0,hk=>⟨t,h,[],rfl,by unfold runK at hk;simpa using hk⟩
 | o::l,t,h,f0,hk=>by
  unfold runK at hk
  obtain⟨hf,hg⟩:=hk
  obtain⟨b,h1,h2⟩:=WY hg
  unfold Aj tF
  rw[if_pos hf,h1]
  cases b with
  | true =>
   obtain⟨E,h3,h4⟩:=WW (by simpa using h2)
   obtain⟨t',h',fs,h5,h6⟩:=Iy l _ _ _ h4
   simp only[h3,h5]
   exact⟨_,_,_,rfl,by simpa using h6⟩
  | false =>
   obtain⟨t',h',fs,h5,h6⟩:=Iy l _ _ _ (by simpa using h2)
   simp only[h5]
   exact⟨_,_,_,rfl,by simpa using h6⟩
theorem ZS {ops:Array Oper} {draw:Bool} {t:Nat->D} {h:Nat->Option Row} {K:(Nat->D)->(Nat->Option Row)->Prop} (hk:wpR T Γ N ops draw t h e K):∃t' h',uR T Γ N ops draw ⟨t,h,e⟩=some (.normal,⟨t',h',e+1⟩)∧K t' h':=by
 unfold uR
 cases draw with
 | false =>
  obtain⟨t',h',fs,h1,h2⟩:=Iz _ _ _ hk
  simp only[h1]
  exact⟨t',h',by simp,h2⟩
 | true =>
  obtain⟨t',h',fs,h1,h2,h3⟩:=Iy _ _ _ _ hk
  simp only[h1]
  exact⟨t',h',by rw[ad3]at h2;simp[h2],h3⟩
theorem IQ:∀(c:Code) (t:Nat->D) (h:Nat->Option Row) (e:Nat) (K:Kt),IW T Γ N F c t h e K->∃x s,fL T Γ N F c ⟨t,h,e⟩=some (x,s)∧K x s.t s.h s.e:=by
 intro c
 induction c with
 | skip=>intro t h e K hk;exact⟨_,_,rfl,hk⟩
 | region i ops draw =>
  intro t h e K hk
  obtain⟨t',h',h1,h2⟩:=ZS hk
  exact⟨_,_,h1,h2⟩
 | seq a b iha ihb =>
  intro t h e K hk
  obtain⟨x,s,h1,h2⟩:=iha _ _ _ _ hk
  simp only[fL,h1]
  cases x with
  | normal =>
   obtain⟨x2,s2,h3,h4⟩:=ihb _ _ _ _ h2
   exact⟨x2,s2,h3,h4⟩
  | exit n=>exact⟨_,_,rfl,h2⟩
  | ret=>exact⟨_,_,rfl,h2⟩
 | cond c x y ihx ihy =>
  intro t h e K hk
  unfold IW at hk
  split at hk
  ·rename_i g
   obtain⟨b,h1,h2⟩:=PU hk
   simp only[fL,ev,h1,Nx]
   cases b with
   | true=>exact ihx _ _ _ _ (by simpa using h2)
   | false=>exact ihy _ _ _ _ (by simpa using h2)
  ·simpa only[fL,ev,mY,Nx,if_true] using ihx _ _ _ _ hk
  ·simpa only[fL,ev,mY,Nx,acX,if_false] using ihy _ _ _ _ hk
  ·exact hk.elim
 | block id b ih =>
  intro t h e K hk
  obtain⟨x,s,h1,h2⟩:=ih _ _ _ _ hk
  simp only[fL,h1]
  cases x with
  | normal=>exact⟨_,_,rfl,h2⟩
  | ret=>exact⟨_,_,rfl,h2⟩
  | exit n =>
   simp only[PR]
   unfold Ui at h2
   simp only at h2
   split at h2
   ·rename_i hn;rw[if_pos hn];exact⟨_,_,rfl,h2⟩
   ·rename_i hn;rw[if_neg hn];exact⟨_,_,rfl,h2⟩
 | loop b ih=>intro t h e K hk;exact hk
 | exit id=>intro t h e K hk;exact⟨_,_,rfl,hk⟩
 | ret=>intro t h e K hk;exact⟨_,_,rfl,hk⟩
 | _=>intro t h e K hk;exact hk.elim
theorem W0 {mode:Mode} {fn:Func} {lent:Option (D×Row)} {args:List D} {r:RK×Option Row} (h:wpf mode T Γ F fn lent args r) (hN:fn.ntmps<=PK):a8 mode T Γ F fn lent args=some r:=by
 obtain⟨c,h1,h2⟩:=CA h
 obtain⟨x,s,h3,h4⟩:=IQ _ _ _ _ _ h2
 unfold a8
 simp only[h1]
 rw[if_pos hN]
 have e0:bS lent args=⟨(bS lent args).t,(bS lent args).h,(bS lent args).e⟩:=rfl
 rw[e0,h3]
 unfold Zj at h4
 split at h4
 ·exact h4.elim
 ·rename_i hx
  split
  ·rename_i n _ he;cases he;exact (hx n rfl).elim
  ·rename_i _ x' s' _ he
   cases he
   exact h4
  ·rename_i he;cases he
theorem Sf {α:Type} (f:Nat->α) (i:Nat) (v:α) (j:Nat):bT f i v j=if j=i then v else f j:=ae2
def yf (args:List D) (i:Nat):D:=args.getD i .und
theorem I7 (i:Nat):yf [] i=.und:=by simp[yf]
theorem El (d:D) (l:List D):yf (d::l) 0=d:=ae2
theorem Ek (d:D) (l:List D) (i:Nat):yf (d::l) (i+1)=yf l i:=ae2
def Mf (_:Nat):Option Row:=none
theorem Gd (i:Nat):Mf i=none:=ae2
end
inductive W where
 | code (c:Code)
 | blk (id:Nat)
section
variable (T:Nat->Option Ty) (Γ:Env) (N F:Nat)
def cv:List W->Kt->Kt
 | [],Q=>Q
 | .code c::ws,Q=>fun x t h e=>aaz x (IW T Γ N F c t h e (cv ws Q)) (cv ws Q x t h e)
 | .blk id::ws,Q=>fun x t h e=>Ui id x t h e (cv ws Q)
def kx (ops l:List Oper) (ws:List W) (Q:Kt) (t:Nat->D) (h:Nat->Option Row) (e:Nat):Prop :=
 C8 T Γ N e ops l t h fun t h=>cv T Γ N F ws Q .normal t h (e+1)
def ky (ops l:List Oper) (ws:List W) (Q:Kt) (t:Nat->D) (h:Nat->Option Row) (e:Nat) (fs:List jL):Prop :=
 runK T Γ N e ops l t h fs fun t h fs=>BC ops.toArray fs=true∧cv T Γ N F ws Q .normal t h (e+1)
def nW (o:Oper) (ops l:List Oper) (ws:List W) (Q:Kt) (t:Nat->D) (h:Nat->Option Row) (e:Nat):Prop :=
 PV T Γ e o t h fun t E=>kx T Γ N F ops l ws Q (dN t o.dst E.val) (aG h E.hw) e
def nX (o:Oper) (ops l:List Oper) (ws:List W) (Q:Kt) (t:Nat->D) (h:Nat->Option Row) (e:Nat) (fs:List jL):Prop :=
 PV T Γ e o t h fun t E=>ky T Γ N F ops l ws Q (dN t o.dst E.val) (aG h E.hw) e (fs++[⟨bj o (ev t),E.hw.isEmpty⟩])
def uZ (d:D) (g:Nat) (want:Bool) (o:Oper) (ops l:List Oper) (ws:List W) (Q:Kt) (t:Nat->D) (h:Nat->Option Row) (e:Nat):Prop :=
 wpS d t g (fun t=>if want then nW T Γ N F o ops l ws Q t h e else kx T Γ N F ops l ws Q (dN t o.dst .skp) h e) (fun t=>if want then kx T Γ N F ops l ws Q (dN t o.dst .skp) h e else nW T Γ N F o ops l ws Q t h e) (fun t=>kx T Γ N F ops l ws Q (dN t o.dst .skp) h e)
def u3 (d:D) (g:Nat) (want:Bool) (o:Oper) (ops l:List Oper) (ws:List W) (Q:Kt) (t:Nat->D) (h:Nat->Option Row) (e:Nat) (fs:List jL):Prop :=
 wpS d t g (fun t=>if want then nX T Γ N F o ops l ws Q t h e fs else ky T Γ N F ops l ws Q (dN t o.dst .skp) h e (fs++[⟨[],true⟩])) (fun t=>if want then ky T Γ N F ops l ws Q (dN t o.dst .skp) h e (fs++[⟨[],true⟩]) else nX T Γ N F o ops l ws Q t h e fs) (fun t=>ky T Γ N F ops l ws Q (dN t o.dst .skp) h e (fs++[⟨[],true⟩]))
def Di (x y:Option bK) (dst:Option Nat) (ops l:List Oper) (ws:List W) (Q:Kt) (t:Nat->D) (h:Nat->Option Row) (e:Nat):Prop :=
 oh (W6 h x y) fun E=>kx T Γ N F ops l ws Q (dN t dst E.val) (aG h E.hw) e
def Dj (x y:Option bK) (dst:Option Nat) (ft:List Nat) (ops l:List Oper) (ws:List W) (Q:Kt) (t:Nat->D) (h:Nat->Option Row) (e:Nat) (fs:List jL):Prop :=
 oh (W6 h x y) fun E=>ky T Γ N F ops l ws Q (dN t dst E.val) (aG h E.hw) e (fs++[⟨ft,E.hw.isEmpty⟩])
def wx (x:Option bK) (dst:Option Nat) (ops l:List Oper) (ws:List W) (Q:Kt) (t:Nat->D) (h:Nat->Option Row) (e:Nat):Prop:=Di T Γ N F x none dst ops l ws Q t h e
def wy (x:Option bK) (dst:Option Nat) (ft:List Nat) (ops l:List Oper) (ws:List W) (Q:Kt) (t:Nat->D) (h:Nat->Option Row) (e:Nat) (fs:List jL):Prop:=Dj T Γ N F x none dst ft ops l ws Q t h e fs
def D9 (y:Option bK) (dst:Option Nat) (ops l:List Oper) (ws:List W) (Q:Kt) (t:Nat->D) (h:Nat->Option Row) (e:Nat):Prop :=
 oh y fun E=>kx T Γ N F ops l ws Q (dN t dst E.val) (aG h E.hw) e
def Ea (y:Option bK) (dst:Option Nat) (ft:List Nat) (ops l:List Oper) (ws:List W) (Q:Kt) (t:Nat->D) (h:Nat->Option Row) (e:Nat) (fs:List jL):Prop :=
 oh y fun E=>ky T Γ N F ops l ws Q (dN t dst E.val) (aG h E.hw) e (fs++[⟨ft,E.hw.isEmpty⟩])
def IK (d:D) (g:Nat) (x y:Code) (ws:List W) (Q:Kt) (t:Nat->D) (h:Nat->Option Row) (e:Nat):Prop :=
 PT d t g (fun t=>cv T Γ N F (.code x::ws) Q .normal t h e) (fun t=>cv T Γ N F (.code y::ws) Q .normal t h e)
def VT (d:D) (g:Nat) (a b:Operand) (dst:Option Nat) (ops l:List Oper) (ws:List W) (Q:Kt) (t:Nat->D) (h:Nat->Option Row) (e:Nat):Prop :=
 PT d t g (fun t=>kx T Γ N F ops l ws Q (dN t dst (ev t a)) h e) (fun t=>kx T Γ N F ops l ws Q (dN t dst (ev t b)) h e)
def VU (d:D) (g:Nat) (a b:Operand) (dst:Option Nat) (ops l:List Oper) (ws:List W) (Q:Kt) (t:Nat->D) (h:Nat->Option Row) (e:Nat) (fs:List jL):Prop :=
 PT d t g (fun t=>ky T Γ N F ops l ws Q (dN t dst (ev t a)) h e (fs++[⟨[],true⟩])) (fun t=>ky T Γ N F ops l ws Q (dN t dst (ev t b)) h e (fs++[⟨[],true⟩]))
def RI (b:Code) (ws:List W) (Q:Kt) (t:Nat->D) (h:Nat->Option Row) (e:Nat):Prop:=IW T Γ N F (.loop b) t h e (cv T Γ N F ws Q)
end
theorem FQ {n:Nat} (h:n<=1000000):n<=maxLen:=aco h (by decide)
theorem GD {z:List D} : mc 0 z=[]:=ae2
theorem GC {n:Nat} {z:List D} : mc (n+1) z=z++mc n z:=by simp[mc,List.replicate_succ]
theorem Fy {N:Nat} : fits N none=true:=ae2
theorem Fz {N i:Nat} : fits N (some i)=decide (i<N):=ae2
def sQ:List Oper->Nat->Nat
 | [],_=>0
 | o::_,0=>o.dst.getD 0
 | _::l,j+1=>sQ l j
def w6:List Oper->Nat->Bool
 | [],_=>false
 | o::_,0=>o.dst.isSome
 | _::l,j+1=>w6 l j
theorem By:∀(l:List Oper) (j:Nat),w6 l j=true->(l[j]?).bind (·.dst)=some (sQ l j)
 | [],j,h=>by simp[w6]at h
 | o::l,0,h=>by
  simp only[w6]at h
  simp only[List.getElem?_cons_zero,Option.bind_some,sQ]
  cases hd:o.dst with
  | none=>rw[hd]at h;cases h
  | some d=>rfl
 | o::l,j+1,h=>by simpa [sQ] using By l j h
theorem BA {d:Nat} {op:Op} {ty:Nat} {pos:String} {af:Array Edge} {gd:Option (Nat×Bool)} {l:List Oper} : sQ (⟨some d,op,ty,pos,af,gd⟩::l) 0=d:=ae2
theorem Bz {o:Oper} {l:List Oper} {j:Nat} : sQ (o::l) (j+1)=sQ l j:=ae2
theorem Cc {d:Nat} {op:Op} {ty:Nat} {pos:String} {af:Array Edge} {gd:Option (Nat×Bool)} {l:List Oper} : w6 (⟨some d,op,ty,pos,af,gd⟩::l) 0=true:=ae2
theorem Cb {o:Oper} {l:List Oper} {j:Nat} : w6 (o::l) (j+1)=w6 l j:=ae2
section
variable {dst:Option Nat} {ty:Nat} {pos:String} {af:Array Edge} {gd:Option (Nat×Bool)} {vs:Operand->D}
def xf (vs:Operand->D):List Operand->List Nat
 | []=>[]
 | x::l=>nm (vs x)++xf vs l
theorem eU (vs:Operand->D):∀l:List Operand,(l.flatMap fun x=>nm (vs x))=xf vs l
 | []=>Eq.trans rfl rfl
 | x::l=>by rw[List.flatMap_cons,eU vs l];exact Eq.trans rfl rfl
theorem Ru:xf vs []=[]:=ae2
theorem Md {x:Operand} {l:List Operand} : xf vs (x::l)=nm (vs x)++xf vs l:=ae2
theorem zT {o:BinOp} {tt z:Nat} {x y:Operand} : bj ⟨dst,.binOp o tt x y z,ty,pos,af,gd⟩ vs=(xf vs [x,y]++dst.toList).map rt:=by rw[<- eU];rfl
theorem Dq {o:UnOp} {tt:Nat} {x:Operand} : bj ⟨dst,.unOp o tt x,ty,pos,af,gd⟩ vs=(xf vs [x]++dst.toList).map rt:=by rw[<- eU];rfl
theorem xE {x:Operand} : bj ⟨dst,.assign x,ty,pos,af,gd⟩ vs=(xf vs [x]++dst.toList).map rt:=by rw[<- eU];rfl
theorem Dp {tt:Nat} {x:Operand} : bj ⟨dst,.load tt x,ty,pos,af,gd⟩ vs=(xf vs [x]++dst.toList).map rt:=by rw[<- eU];rfl
theorem zY {tt:Nat} {x y:Operand} : bj ⟨dst,.store tt x y,ty,pos,af,gd⟩ vs=(xf vs [x,y]++dst.toList).map rt:=by rw[<- eU];rfl
theorem tG {x:Operand} : bj ⟨dst,.nilCheck x,ty,pos,af,gd⟩ vs=(xf vs [x]++dst.toList).map rt:=by rw[<- eU];rfl
theorem rU {tt i:Nat} {x:Operand} : bj ⟨dst,.fieldAddr tt x i,ty,pos,af,gd⟩ vs=(xf vs [x]++dst.toList).map rt:=by rw[<- eU];rfl
theorem zV {tt i:Nat} {x:Operand} : bj ⟨dst,.field tt x i,ty,pos,af,gd⟩ vs=(xf vs [x]++dst.toList).map rt:=by rw[<- eU];rfl
theorem rV {tt:Nat} {x i:Operand} : bj ⟨dst,.indexAddr tt x i,ty,pos,af,gd⟩ vs=(xf vs [x,i]++dst.toList).map rt:=by rw[<- eU];rfl
theorem zW {tt:Nat} {x i:Operand} : bj ⟨dst,.index tt x i,ty,pos,af,gd⟩ vs=(xf vs [x,i]++dst.toList).map rt:=by rw[<- eU];rfl
theorem rW {tt:Nat} {x y:Operand} : bj ⟨dst,.makeSlice tt x y,ty,pos,af,gd⟩ vs=(xf vs [x,y]++dst.toList).map rt:=by rw[<- eU];rfl
theorem zS {tt:Nat} : bj ⟨dst,.alloc tt,ty,pos,af,gd⟩ vs=(xf vs []++dst.toList).map rt:=by rw[<- eU];rfl
theorem Hg {tt:Nat} {x:Operand} : bj ⟨dst,.box tt x,ty,pos,af,gd⟩ vs=(xf vs [x]++dst.toList).map rt:=by rw[<- eU];rfl
theorem vB {tt:Nat} : bj ⟨dst,.makeMap tt none,ty,pos,af,gd⟩ vs=(xf vs []++dst.toList).map rt:=by rw[<- eU];rfl
theorem xG {tt:Nat} {m i:Operand} {ok:Bool} : bj ⟨dst,.lookup tt m i ok,ty,pos,af,gd⟩ vs=(xf vs [m,i]++dst.toList).map rt:=by rw[<- eU];rfl
theorem rX {tt:Nat} {m i x:Operand} : bj ⟨dst,.mapUpdate tt m i x,ty,pos,af,gd⟩ vs=(xf vs [m,i,x]++dst.toList).map rt:=by rw[<- eU];rfl
theorem xF {tt:Nat} {m i x:Operand} : bj ⟨dst,.insert tt m i x,ty,pos,af,gd⟩ vs=(xf vs [m,i,x]++dst.toList).map rt:=by rw[<- eU];rfl
theorem vx {a b:Nat} {x:Operand} : bj ⟨dst,.convert a b x,ty,pos,af,gd⟩ vs=(xf vs [x]++dst.toList).map rt:=by rw[<- eU];rfl
theorem vA {x:Operand} {i:Nat} : bj ⟨dst,.extract x i,ty,pos,af,gd⟩ vs=(xf vs [x]++dst.toList).map rt:=by rw[<- eU];rfl
theorem zU {tt:Nat} {ps:List (Nat×Operand)} : bj ⟨dst,.build tt ps.toArray,ty,pos,af,gd⟩ vs=(xf vs (ps.map (·.2))++dst.toList).map rt:=by rw[<- eU];rfl
theorem pV {tt len:Nat} {ps:List (Nat×Operand)} : bj ⟨dst,.buildSlice tt len ps.toArray,ty,pos,af,gd⟩ vs=(xf vs (ps.map (·.2))++dst.toList).map rt:=by rw[<- eU];rfl
theorem zX {tt:Nat} {x:Operand} {lo hi mx:Option Operand} : bj ⟨dst,.slice tt x lo hi mx,ty,pos,af,gd⟩ vs=(xf vs (x::(lo.toList++(hi.toList++mx.toList)))++dst.toList).map rt:=by
 rw[<- eU];cases lo<;>cases hi<;>cases mx<;>rfl
theorem Dn {x:Operand} {l:List Operand} {tys:Array Nat} : bj ⟨dst,.call ⟨.value x,l.toArray,tys⟩,ty,pos,af,gd⟩ vs=(xf vs (x::l)++dst.toList).map rt:=by
 rw[<- eU];simp[bj,gx,Op.operands,Call.operands]
theorem vw {x:Builtin} {l:List Operand} {tys:Array Nat} : bj ⟨dst,.call ⟨.builtin x,l.toArray,tys⟩,ty,pos,af,gd⟩ vs=(xf vs l++dst.toList).map rt:=by
 rw[<- eU];simp[bj,gx,Op.operands,Call.operands]
end
section
variable {T:Nat->Option Ty} {ty e:Nat} {dst:Option Nat} {h:Nat->Option Row}
theorem Qj {k:IntKind} {n:Int} : bE T ty e dst h (.int k n)=some ⟨.int k n,[]⟩:=ae2
theorem I8 {b:Bool} : bE T ty e dst h (.bool b)=some ⟨.bool b,[]⟩:=ae2
theorem Qn {b:ByteArray} : bE T ty e dst h (.str b)=some ⟨.str b,[]⟩:=ae2
theorem Uf {tg:Bool} {n:Nat} {xs:List D} : bE T ty e dst h (.sl false tg n xs)=some ⟨.sl false tg n xs,[]⟩:=ae2
theorem Qm {x v o:Nat} : bE T ty e dst h (.ptr x v o)=some ⟨.ptr x v o,[]⟩:=ae2
theorem Uc {xs:List D} : bE T ty e dst h (.ip xs)=some ⟨.ip xs,[]⟩:=ae2
theorem Qh {xs:List D} : bE T ty e dst h (.agg xs)=some ⟨.agg xs,[]⟩:=ae2
theorem Qo {xs:List D} : bE T ty e dst h (.tup xs)=some ⟨.tup xs,[]⟩:=ae2
theorem Ub {f:Nat} : bE T ty e dst h (.fn f)=some ⟨.fn f,[]⟩:=ae2
theorem Ud {x v:Nat} : bE T ty e dst h (.mp x v)=some ⟨.mp x v,[]⟩:=ae2
theorem Qk {ks:List Int} {vs:List D} : bE T ty e dst h (.mpc ks vs)=some ⟨.mpc ks vs,[]⟩:=ae2
theorem Ue {x v y:Nat} : bE T ty e dst h (.pm x v y)=some ⟨.pm x v y,[]⟩:=ae2
theorem Ao {f kk:Nat} {xs:List D} : bE T ty e dst h (.clo f kk xs)=some ⟨.clo f kk xs,[]⟩:=ae2
def Y4 (b:Bool) (T:Nat->Option Ty) (ty e d:Nat) (h:Nat->Option Row) (x:D):Option bK:=if b then bE T ty e (some d) h x else gG h x
theorem Er {d:Nat} {x:D} : Y4 true T ty e d h x=bE T ty e (some d) h x:=ae2
theorem AV {d:Nat} {x:D} : Y4 false T ty e d h x=gG h x:=ae2
theorem Yh {q:Nat->Bool} {d:Nat} {x:D} : pB T q ty e (some d) h x=Y4 (q d) T ty e d h x:=ae2
theorem Qe {k:IntKind} {n:Int} : gG h (.int k n)=some ⟨.int k n,[]⟩:=ae2
theorem I2 {b:Bool} : gG h (.bool b)=some ⟨.bool b,[]⟩:=ae2
theorem Qf {b:ByteArray} : gG h (.str b)=some ⟨.str b,[]⟩:=ae2
theorem Qc {xs:List D} : gG h (.agg xs)=some ⟨.agg (xs.map canon),[]⟩:=ae2
theorem T3 {a b:Bool} {n:Nat} {xs:List D} : gG h (.sl a b n xs)=some ⟨.sl false false n xs,[]⟩:=ae2
theorem Qp:bE T ty e dst h .und=some ⟨.und,[]⟩:=ae2
def Xb (e d y s o n:Nat) (r:Row):Bool->Option bK
 | true=>some ⟨.buf y r.v s o n,[]⟩
 | false=>some ⟨.buf d e s o n,[(y,none),(d,some { r with v:=e })]⟩
theorem AU {d y s o n:Nat} {r:Row} : Xb e d y s o n r false=some ⟨.buf d e s o n,[(y,none),(d,some { r with v:=e })]⟩:=ae2
def Y3 (y v s o n:Nat):Option Row->Option bK
 | some _=>some ⟨.buf y v s o n,[]⟩
 | none=>some ⟨.und,[]⟩
theorem Em {y v s o n:Nat} {r:Row} : Y3 y v s o n (some r)=some ⟨.buf y v s o n,[]⟩:=ae2
def Ua (e:Nat) (dst:Option Nat) (y s o n:Nat) (w:Option bK):Option Row->Option bK
 | some r=>match dst with|some d=>Xb e d y s o n r r.fz|none=>w
 | none=>w
theorem Eo {d y s o n:Nat} {r:Row} {w:Option bK} : Ua e (some d) y s o n w (some r)=Xb e d y s o n r r.fz:=ae2
theorem En {d y s o n:Nat} {w:Option bK} : Ua e (some d) y s o n w none=w:=ae2
theorem Qi {d y v s o n:Nat} : bE T ty e (some d) h (.buf y v s o n)=Ua e (some d) y s o n (Y3 y v s o n (mK h y v)) (live h y v):=by
 simp only[bE]
 cases hl:live h y v with
 | none=>simp only[Ua];cases mK h y v<;>simp[Y3]
 | some r =>
  obtain⟨_,hv⟩:=bP hl
  simp only[Ua]
  cases hz:r.fz<;>simp[Xb,hv,hz]
def Xc (e:Nat) (dst:Option Nat) (T:Nat->Option Ty):Option Ty->Option bK
 | some τ =>
  match dst with
  | some d=>match τ.ds with
   | .slice el=>match T el with|some φ=>some ⟨.buf d e φ.size 0 0,[(d,some ⟨e,el,[],false,true,false⟩)]⟩|none=>none
   | _=>none
  | none=>none
 | none=>none
theorem Ep {d el b c:Nat} {z:List Value} {q:Bool} {φ:Ty} (hφ:T el=some φ):Xc e (some d) T (some ⟨.slice el,b,c,z,q⟩)=some ⟨.buf d e φ.size 0 0,[(d,some ⟨e,el,[],false,true,false⟩)]⟩:=by simp only[Xc,hφ]
theorem Ql:bE T ty e dst h (.sl true true 0 [])=Xc e dst T (T ty):=by
 unfold bE Xc
 cases dst<;>cases T ty<;>rfl
end
def YL (x:Option D):Option bK:=match x with|some d=>some ⟨d,[]⟩|none=>none
theorem Mt (d:D):YL (some d)=some ⟨d,[]⟩:=ae2
def v5 (x:Option Ty) (f:Ty->Option bK):Option bK:=match x with|some τ=>f τ|none=>none
theorem MD (τ:Ty) (f:Ty->Option bK):v5 (some τ) f=f τ:=ae2
def Y5 (x:Option (List D×List Nat)) (h:Nat->Option Row) (ty d e:Nat):Option bK :=
 match x with
 | some (cs,fr)=>if fr.contains d=false then some ⟨.ptr d e 0,ie h fr++[(d,some ⟨e,ty,cs,false,false,false⟩)]⟩ else none
 | none=>none
theorem Ev (cs:List D) (fr:List Nat) (h:Nat->Option Row) (ty d e:Nat):Y5 (some (cs,fr)) h ty d e=if fr.contains d=false then some ⟨.ptr d e 0,ie h fr++[(d,some ⟨e,ty,cs,false,false,false⟩)]⟩ else none:=ae2
def XO (d e:Nat):Option Nat->D
 | some y =>.pm d e y
 | none =>.ptr d e 0
theorem Gq {d e y:Nat} : XO d e (some y)=.pm d e y:=ae2
theorem Gp {d e:Nat} : XO d e none=.ptr d e 0:=ae2
def AS (x:Option Ty) (ty d e:Nat) (y:Option Nat):Option bK :=
 match x with
 | some τ=>if (τ.zero.map mY).all aT then some ⟨XO d e y,[(d,some ⟨e,ty,τ.zero.map mY,false,false,false⟩)]⟩ else none
 | none=>none
theorem yS (τ:Ty) (ty d e:Nat) (y:Option Nat):AS (some τ) ty d e y=if (τ.zero.map mY).all aT then some ⟨XO d e y,[(d,some ⟨e,ty,τ.zero.map mY,false,false,false⟩)]⟩ else none:=ae2
def aak (T:Nat->Option Ty) (x:Option Ty) (ty e d:Nat):Option bK:=match x with|some τ=>n6 T ty τ e d|none=>none
def UA (x y:Option Ty) (d:D):Option bK :=
 match x,y,d with
 | some τ,some _,.int _ n=>(match τ.ds with | .int k=>some ⟨.int k (k.wrap n),[]⟩|_=>none)
 | _,_,_=>none
theorem EV (k:IntKind) (b c:Nat) (z:List Value) (q:Bool) (σ:Ty) (k':IntKind) (n:Int):UA (some ⟨.int k,b,c,z,q⟩) (some σ) (.int k' n)=some ⟨.int k (k.wrap n),[]⟩:=ae2
def Xt (d:D) (i:Nat):Option bK:=match d with | .tup xs=>(match xs[i]? with|some d=>some ⟨d,[]⟩|none=>none)|_=>none
theorem Ko (xs:List D) (i:Nat):Xt (.tup xs) i=YL xs[i]?:=by simp only[Xt,YL]
section
variable {T:Nat->Option Ty} {Γ:Env} {N F e:Nat} {ws:List W} {Q:Kt} {t:Nat->D} {h:Nat->Option Row}
theorem eJ {x:Ex} : cv T Γ N F [] Q x t h e=Q x t h e:=ae2
theorem GO:cv T Γ N F (.code .skip::ws) Q .normal t h e=cv T Γ N F ws Q .normal t h e:=ae2
theorem MV {a b:Code} : cv T Γ N F (.code (.seq a b)::ws) Q .normal t h e=cv T Γ N F (.code a :: .code b::ws) Q .normal t h e:=ae2
theorem MU:cv T Γ N F (.code .ret::ws) Q .normal t h e=cv T Γ N F ws Q .ret t h e:=ae2
theorem GM {id:Nat} : cv T Γ N F (.code (.exit id)::ws) Q .normal t h e=cv T Γ N F ws Q (.exit id) t h e:=ae2
theorem C9 {id:Nat} {b:Code} : cv T Γ N F (.code (.block id b)::ws) Q .normal t h e=cv T Γ N F (.code b :: .blk id::ws) Q .normal t h e:=ae2
theorem GN {b:Code} : cv T Γ N F (.code (.loop b)::ws) Q .normal t h e=RI T Γ N F b ws Q t h e:=ae2
theorem bO {c:Code} : cv T Γ N F (.code c::ws) Q .ret t h e=cv T Γ N F ws Q .ret t h e:=ae2
theorem bI {c:Code} {n:Nat} : cv T Γ N F (.code c::ws) Q (.exit n) t h e=cv T Γ N F ws Q (.exit n) t h e:=ae2
theorem rS {id:Nat} : cv T Γ N F (.blk id::ws) Q .normal t h e=cv T Γ N F ws Q .normal t h e:=ae2
theorem b6 {id:Nat} : cv T Γ N F (.blk id::ws) Q .ret t h e=cv T Γ N F ws Q .ret t h e:=ae2
theorem vv {id n:Nat} : cv T Γ N F (.blk id::ws) Q (.exit n) t h e=if n=id then cv T Γ N F ws Q .normal t h e else cv T Γ N F ws Q (.exit n) t h e:=ae2
theorem zR {i:Nat} {ops:List Oper} : cv T Γ N F (.code (.region i ops.toArray false)::ws) Q .normal t h e=kx T Γ N F ops ops ws Q t h e:=ae2
theorem Dc {i:Nat} {ops:List Oper} : cv T Γ N F (.code (.region i ops.toArray true)::ws) Q .normal t h e=ky T Γ N F ops ops ws Q t h e []:=ae2
theorem GL {g:Nat} {x y:Code} : cv T Γ N F (.code (.cond (.tmp g) x y)::ws) Q .normal t h e=IK T Γ N F (t g) g x y ws Q t h e:=ae2
theorem Db {x y:Code} : cv T Γ N F (.code (.cond (.const (.bool true)) x y)::ws) Q .normal t h e=cv T Γ N F (.code x::ws) Q .normal t h e:=ae2
theorem Da {x y:Code} : cv T Γ N F (.code (.cond (.const (.bool false)) x y)::ws) Q .normal t h e=cv T Γ N F (.code y::ws) Q .normal t h e:=ae2
theorem Hh {g:Nat} {x y:Code} (hg:t g=.bool true):IK T Γ N F (.bool true) g x y ws Q t h e=cv T Γ N F (.code x::ws) Q .normal t h e:=xK hg
theorem Dr {g:Nat} {x y:Code} (hg:t g=.bool false):IK T Γ N F (.bool false) g x y ws Q t h e=cv T Γ N F (.code y::ws) Q .normal t h e:=uS hg
theorem TB {b:Bool} {g:Nat} {x y:Code} : IK T Γ N F (.bool b) g x y ws Q t h e=br b (cv T Γ N F (.code x::ws) Q .normal (bT t g (.bool true)) h e) (cv T Γ N F (.code y::ws) Q .normal (bT t g (.bool false)) h e):=by
 unfold IK;rw[WV];cases b<;>simp[br]
variable {ops l:List Oper} {dst:Option Nat} {op:Op} {ty:Nat} {pos:String} {af:Array Edge} {gd:Option (Nat×Bool)} {fs:List jL}
theorem MS:kx T Γ N F ops [] ws Q t h e=cv T Γ N F ws Q .normal t h (e+1):=ae2
theorem GJ (hf:fits N dst=true):kx T Γ N F ops (⟨dst,op,ty,pos,af,none⟩::l) ws Q t h e=nW T Γ N F ⟨dst,op,ty,pos,af,none⟩ ops l ws Q t h e:=by
 simp only[kx,C8,WX,hf,true_and,nW]
theorem C6 {j:Nat} {want:Bool} (hf:fits N dst=true) (hj:w6 ops j=true):kx T Γ N F ops (⟨dst,op,ty,pos,af,some (j,want)⟩::l) ws Q t h e=uZ T Γ N F (t (sQ ops j)) (sQ ops j) want ⟨dst,op,ty,pos,af,none⟩ ops l ws Q t h e:=by
 simp only[kx,C8,WX,hf,true_and,By ops j hj,rh,uZ]
 cases want<;>rfl
theorem Ns {g:Nat} {want:Bool} {o:Oper} : uZ T Γ N F .skp g want o ops l ws Q t h e=kx T Γ N F ops l ws Q (dN t o.dst .skp) h e:=ae2
theorem Hi {g:Nat} {o:Oper} (hg:t g=.bool true):uZ T Γ N F (.bool true) g true o ops l ws Q t h e=nW T Γ N F o ops l ws Q t h e:=(xN hg).trans (if_pos rfl)
theorem Dt {g:Nat} {o:Oper} (hg:t g=.bool false):uZ T Γ N F (.bool false) g true o ops l ws Q t h e=kx T Γ N F ops l ws Q (dN t o.dst .skp) h e:=(uT hg).trans (if_pos rfl)
theorem Du {g:Nat} {o:Oper} (hg:t g=.bool true):uZ T Γ N F (.bool true) g false o ops l ws Q t h e=kx T Γ N F ops l ws Q (dN t o.dst .skp) h e:=(xN hg).trans (if_neg (by decide))
theorem zZ {g:Nat} {o:Oper} (hg:t g=.bool false):uZ T Γ N F (.bool false) g false o ops l ws Q t h e=nW T Γ N F o ops l ws Q t h e:=(uT hg).trans (if_neg (by decide))
theorem TC {b:Bool} {g:Nat} {o:Oper} : uZ T Γ N F (.bool b) g true o ops l ws Q t h e=br b (nW T Γ N F o ops l ws Q (bT t g (.bool true)) h e) (kx T Γ N F ops l ws Q (dN (bT t g (.bool false)) o.dst .skp) h e):=by
 unfold uZ;rw[xM];cases b<;>simp[br]
theorem PL {b:Bool} {g:Nat} {o:Oper} : uZ T Γ N F (.bool b) g false o ops l ws Q t h e=br b (kx T Γ N F ops l ws Q (dN (bT t g (.bool true)) o.dst .skp) h e) (nW T Γ N F o ops l ws Q (bT t g (.bool false)) h e):=by
 unfold uZ;rw[xM];cases b<;>simp[br]
theorem MT:ky T Γ N F ops [] ws Q t h e fs=(BC ops.toArray fs=true∧cv T Γ N F ws Q .normal t h (e+1)):=ae2
theorem GK (hf:fits N dst=true):ky T Γ N F ops (⟨dst,op,ty,pos,af,none⟩::l) ws Q t h e fs=nX T Γ N F ⟨dst,op,ty,pos,af,none⟩ ops l ws Q t h e fs:=by
 simp only[ky,runK,WX,hf,true_and,nX]
theorem C7 {j:Nat} {want:Bool} (hf:fits N dst=true) (hj:w6 ops j=true):ky T Γ N F ops (⟨dst,op,ty,pos,af,some (j,want)⟩::l) ws Q t h e fs=u3 T Γ N F (t (sQ ops j)) (sQ ops j) want ⟨dst,op,ty,pos,af,none⟩ ops l ws Q t h e fs:=by
 simp only[ky,runK,WX,hf,true_and,By ops j hj,rh,u3]
 cases want<;>rfl
theorem Nt {g:Nat} {want:Bool} {o:Oper} : u3 T Γ N F .skp g want o ops l ws Q t h e fs=ky T Γ N F ops l ws Q (dN t o.dst .skp) h e (fs++[⟨[],true⟩]):=ae2
theorem Hj {g:Nat} {o:Oper} (hg:t g=.bool true):u3 T Γ N F (.bool true) g true o ops l ws Q t h e fs=nX T Γ N F o ops l ws Q t h e fs:=(xN hg).trans (if_pos rfl)
theorem Dv {g:Nat} {o:Oper} (hg:t g=.bool false):u3 T Γ N F (.bool false) g true o ops l ws Q t h e fs=ky T Γ N F ops l ws Q (dN t o.dst .skp) h e (fs++[⟨[],true⟩]):=(uT hg).trans (if_pos rfl)
theorem Dw {g:Nat} {o:Oper} (hg:t g=.bool true):u3 T Γ N F (.bool true) g false o ops l ws Q t h e fs=ky T Γ N F ops l ws Q (dN t o.dst .skp) h e (fs++[⟨[],true⟩]):=(xN hg).trans (if_neg (by decide))
theorem z6 {g:Nat} {o:Oper} (hg:t g=.bool false):u3 T Γ N F (.bool false) g false o ops l ws Q t h e fs=nX T Γ N F o ops l ws Q t h e fs:=(uT hg).trans (if_neg (by decide))
theorem TD {b:Bool} {g:Nat} {o:Oper} : u3 T Γ N F (.bool b) g true o ops l ws Q t h e fs=br b (nX T Γ N F o ops l ws Q (bT t g (.bool true)) h e fs) (ky T Γ N F ops l ws Q (dN (bT t g (.bool false)) o.dst .skp) h e (fs++[⟨[],true⟩])):=by
 unfold u3;rw[xM];cases b<;>simp[br]
theorem PM {b:Bool} {g:Nat} {o:Oper} : u3 T Γ N F (.bool b) g false o ops l ws Q t h e fs=br b (ky T Γ N F ops l ws Q (dN (bT t g (.bool true)) o.dst .skp) h e (fs++[⟨[],true⟩])) (nX T Γ N F o ops l ws Q (bT t g (.bool false)) h e fs):=by
 unfold u3;rw[xM];cases b<;>simp[br]
theorem Nf {d:D} {hw:List (Nat×Option Row)} : wx T Γ N F (some ⟨d,hw⟩) dst ops l ws Q t h e=kx T Γ N F ops l ws Q (dN t dst d) (aG h (jJ h hw)) e:=ae2
theorem Nn {d:D} {hw:List (Nat×Option Row)} {ft:List Nat} : wy T Γ N F (some ⟨d,hw⟩) dst ft ops l ws Q t h e fs=ky T Γ N F ops l ws Q (dN t dst d) (aG h (jJ h hw)) e (fs++[⟨ft,(jJ h hw).isEmpty⟩]):=ae2
theorem RS {c:Prop} [Decidable c] {E:bK} : wx T Γ N F (if c then some E else none) dst ops l ws Q t h e=(c∧wx T Γ N F (some E) dst ops l ws Q t h e):=by
 by_cases hc:c<;>simp[hc,wx,Di,W6,oh]
theorem RY {c:Prop} [Decidable c] {E:bK} {ft:List Nat} : wy T Γ N F (if c then some E else none) dst ft ops l ws Q t h e fs=(c∧wy T Γ N F (some E) dst ft ops l ws Q t h e fs):=by
 by_cases hc:c<;>simp[hc,wy,Dj,W6,oh]
theorem G0 {E:bK} {y:Option bK} : Di T Γ N F (some E) y dst ops l ws Q t h e=wx T Γ N F (some E) dst ops l ws Q t h e:=ae2
theorem Ha {E:bK} {y:Option bK} {ft:List Nat} : Dj T Γ N F (some E) y dst ft ops l ws Q t h e fs=wy T Γ N F (some E) dst ft ops l ws Q t h e fs:=ae2
theorem GZ {y:Option bK} : Di T Γ N F none y dst ops l ws Q t h e=D9 T Γ N F y dst ops l ws Q t h e:=ae2
theorem G9 {y:Option bK} {ft:List Nat} : Dj T Γ N F none y dst ft ops l ws Q t h e fs=Ea T Γ N F y dst ft ops l ws Q t h e fs:=ae2
theorem RR {x:Option bK} : Di T Γ N F x none dst ops l ws Q t h e=wx T Γ N F x dst ops l ws Q t h e:=ae2
theorem RX {x:Option bK} {ft:List Nat} : Dj T Γ N F x none dst ft ops l ws Q t h e fs=wy T Γ N F x dst ft ops l ws Q t h e fs:=ae2
theorem G1 {d:D} {hw:List (Nat×Option Row)} : D9 T Γ N F (some ⟨d,hw⟩) dst ops l ws Q t h e=kx T Γ N F ops l ws Q (dN t dst d) (aG h hw) e:=ae2
theorem Hb {d:D} {hw:List (Nat×Option Row)} {ft:List Nat} : Ea T Γ N F (some ⟨d,hw⟩) dst ft ops l ws Q t h e fs=ky T Γ N F ops l ws Q (dN t dst d) (aG h hw) e (fs++[⟨ft,hw.isEmpty⟩]):=ae2
theorem Nd {c:Prop} [Decidable c] {E:bK} : D9 T Γ N F (if c then some E else none) dst ops l ws Q t h e=(c∧D9 T Γ N F (some E) dst ops l ws Q t h e):=by
 by_cases hc:c<;>simp[hc,D9,oh]
theorem Nm {c:Prop} [Decidable c] {E:bK} {ft:List Nat} : Ea T Γ N F (if c then some E else none) dst ft ops l ws Q t h e fs=(c∧Ea T Γ N F (some E) dst ft ops l ws Q t h e fs):=by
 by_cases hc:c<;>simp[hc,Ea,oh]
theorem CQ {g:Nat} {a b:Operand} (hg:t g=.bool true):VT T Γ N F (.bool true) g a b dst ops l ws Q t h e=kx T Γ N F ops l ws Q (dN t dst (ev t a)) h e:=xK hg
theorem zD {g:Nat} {a b:Operand} (hg:t g=.bool false):VT T Γ N F (.bool false) g a b dst ops l ws Q t h e=kx T Γ N F ops l ws Q (dN t dst (ev t b)) h e:=uS hg
theorem CR {g:Nat} {a b:Operand} (hg:t g=.bool true):VU T Γ N F (.bool true) g a b dst ops l ws Q t h e fs=ky T Γ N F ops l ws Q (dN t dst (ev t a)) h e (fs++[⟨[],true⟩]):=xK hg
theorem zE {g:Nat} {a b:Operand} (hg:t g=.bool false):VU T Γ N F (.bool false) g a b dst ops l ws Q t h e fs=ky T Γ N F ops l ws Q (dN t dst (ev t b)) h e (fs++[⟨[],true⟩]):=uS hg
theorem JW {c:Nat} {a b:Operand} : nW T Γ N F ⟨dst,.pick (.tmp c) a b,ty,pos,af,gd⟩ ops l ws Q t h e=VT T Γ N F (t c) c a b dst ops l ws Q t h e:=ae2
theorem J2 {c:Nat} {a b:Operand} : nX T Γ N F ⟨dst,.pick (.tmp c) a b,ty,pos,af,gd⟩ ops l ws Q t h e fs=VU T Γ N F (t c) c a b dst ops l ws Q t h e fs:=ae2
theorem wL {x y:Option bK} (hp:∀c a b,op ≠ .pick c a b) (hm:iG T Γ e ⟨dst,op,ty,pos,af,gd⟩ (ev t)=none) (hcf:lS Γ e h dst (gn (ev t) op)=none) (hx:lR T Γ e ⟨dst,op,ty,pos,af,gd⟩ (ev t) (EH h)=x) (hy:sU T Γ e ⟨dst,op,ty,pos,af,gd⟩ (ev t) h=y):nW T Γ N F ⟨dst,op,ty,pos,af,gd⟩ ops l ws Q t h e=Di T Γ N F x y dst ops l ws Q t h e:=by
 subst hx
 subst hy
 unfold nW Di PV oE
 rw[hm]
 simp only
 rw[hcf]
 cases op<;>first|rfl|exact absurd rfl (hp _ _ _)
theorem wO {x y:Option bK} (hp:∀c a b,op ≠ .pick c a b) (hm:iG T Γ e ⟨dst,op,ty,pos,af,gd⟩ (ev t)=none) (hcf:lS Γ e h dst (gn (ev t) op)=none) (hx:lR T Γ e ⟨dst,op,ty,pos,af,gd⟩ (ev t) (EH h)=x) (hy:sU T Γ e ⟨dst,op,ty,pos,af,gd⟩ (ev t) h=y):nX T Γ N F ⟨dst,op,ty,pos,af,gd⟩ ops l ws Q t h e fs=Dj T Γ N F x y dst (bj ⟨dst,op,ty,pos,af,gd⟩ (ev t)) ops l ws Q t h e fs:=by
 subst hx
 subst hy
 unfold nX Dj PV oE
 rw[hm]
 simp only
 rw[hcf]
 cases op<;>first|rfl|exact absurd rfl (hp _ _ _)
theorem dS {x:Option bK} (hp:∀c a b,op ≠ .pick c a b) (hx:lR T Γ e ⟨dst,op,ty,pos,af,gd⟩ (ev t) (EH h)=x) (hm:iG T Γ e ⟨dst,op,ty,pos,af,gd⟩ (ev t)=none:=by rfl) (hy:sU T Γ e ⟨dst,op,ty,pos,af,gd⟩ (ev t) h=none:=by rfl) (hcf:lS Γ e h dst (gn (ev t) op)=none:=by first|rfl|(cases dst<;>rfl)):nW T Γ N F ⟨dst,op,ty,pos,af,gd⟩ ops l ws Q t h e=wx T Γ N F x dst ops l ws Q t h e:=wL hp hm hcf hx hy
theorem dU {x:Option bK} (hp:∀c a b,op ≠ .pick c a b) (hx:lR T Γ e ⟨dst,op,ty,pos,af,gd⟩ (ev t) (EH h)=x) (hm:iG T Γ e ⟨dst,op,ty,pos,af,gd⟩ (ev t)=none:=by rfl) (hy:sU T Γ e ⟨dst,op,ty,pos,af,gd⟩ (ev t) h=none:=by rfl) (hcf:lS Γ e h dst (gn (ev t) op)=none:=by first|rfl|(cases dst<;>rfl)):nX T Γ N F ⟨dst,op,ty,pos,af,gd⟩ ops l ws Q t h e fs=wy T Γ N F x dst (bj ⟨dst,op,ty,pos,af,gd⟩ (ev t)) ops l ws Q t h e fs:=wO hp hm hcf hx hy
theorem JV {x:Operand} : nW T Γ N F ⟨dst,.move x,ty,pos,af,gd⟩ ops l ws Q t h e=kx T Γ N F ops l ws Q (dN t dst (ev t x)) h e:=(dS (fun _ _ _ hh=>by cases hh) rfl).trans rfl
theorem J1 {x:Operand} : nX T Γ N F ⟨dst,.move x,ty,pos,af,gd⟩ ops l ws Q t h e fs=ky T Γ N F ops l ws Q (dN t dst (ev t x)) h e (fs++[⟨[],true⟩]):=(dU (fun _ _ _ hh=>by cases hh) rfl).trans rfl
theorem EZ {o:BinOp} {tt z:Nat} {x y:Operand} : nW T Γ N F ⟨dst,.binOp o tt x y z,ty,pos,af,gd⟩ ops l ws Q t h e=wx T Γ N F (YL (yg T tt o (ev t x) (ev t y))) dst ops l ws Q t h e:=dS (fun _ _ _ hh=>by cases hh) (by simp only[lR];first|rfl|(cases yg T tt o (ev t x) (ev t y)<;>rfl))
theorem E8 {o:BinOp} {tt z:Nat} {x y:Operand} : nX T Γ N F ⟨dst,.binOp o tt x y z,ty,pos,af,gd⟩ ops l ws Q t h e fs=wy T Γ N F (YL (yg T tt o (ev t x) (ev t y))) dst (bj ⟨dst,.binOp o tt x y z,ty,pos,af,gd⟩ (ev t)) ops l ws Q t h e fs:=dU (fun _ _ _ hh=>by cases hh) (by simp only[lR];first|rfl|(cases yg T tt o (ev t x) (ev t y)<;>rfl))
theorem JX {o:UnOp} {tt:Nat} {x:Operand} : nW T Γ N F ⟨dst,.unOp o tt x,ty,pos,af,gd⟩ ops l ws Q t h e=wx T Γ N F (YL (Eb o (ev t x))) dst ops l ws Q t h e:=dS (fun _ _ _ hh=>by cases hh) (by simp only[lR];first|rfl|(cases Eb o (ev t x)<;>rfl))
theorem J3 {o:UnOp} {tt:Nat} {x:Operand} : nX T Γ N F ⟨dst,.unOp o tt x,ty,pos,af,gd⟩ ops l ws Q t h e fs=wy T Γ N F (YL (Eb o (ev t x))) dst (bj ⟨dst,.unOp o tt x,ty,pos,af,gd⟩ (ev t)) ops l ws Q t h e fs:=dU (fun _ _ _ hh=>by cases hh) (by simp only[lR];first|rfl|(cases Eb o (ev t x)<;>rfl))
theorem Bo {x:Operand} : nW T Γ N F ⟨dst,.assign x,ty,pos,af,gd⟩ ops l ws Q t h e=wx T Γ N F (pB T Γ.own ty e dst (EH h) (ev t x)) dst ops l ws Q t h e:=dS (fun _ _ _ hh=>by cases hh) rfl
theorem Br {x:Operand} : nX T Γ N F ⟨dst,.assign x,ty,pos,af,gd⟩ ops l ws Q t h e fs=wy T Γ N F (pB T Γ.own ty e dst (EH h) (ev t x)) dst (bj ⟨dst,.assign x,ty,pos,af,gd⟩ (ev t)) ops l ws Q t h e fs:=dU (fun _ _ _ hh=>by cases hh) rfl
theorem wM {f:Nat} {first caps:List Operand} : nW T Γ N F ⟨dst,.makeFunc (.func f) first.toArray caps.toArray,ty,pos,af,gd⟩ ops l ws Q t h e=wx T Γ N F (if (first.map (ev t)++caps.map (ev t)).all iO then some ⟨.clo f first.length (first.map (ev t)++caps.map (ev t)),[]⟩ else none) dst ops l ws Q t h e:=dS (fun _ _ _ hh=>by cases hh) rfl
theorem wP {f:Nat} {first caps:List Operand} : nX T Γ N F ⟨dst,.makeFunc (.func f) first.toArray caps.toArray,ty,pos,af,gd⟩ ops l ws Q t h e fs=wy T Γ N F (if (first.map (ev t)++caps.map (ev t)).all iO then some ⟨.clo f first.length (first.map (ev t)++caps.map (ev t)),[]⟩ else none) dst (bj ⟨dst,.makeFunc (.func f) first.toArray caps.toArray,ty,pos,af,gd⟩ (ev t)) ops l ws Q t h e fs:=dU (fun _ _ _ hh=>by cases hh) rfl
theorem JT {tt:Nat} {x:Operand} : nW T Γ N F ⟨dst,.load tt x,ty,pos,af,gd⟩ ops l ws Q t h e=Di T Γ N F (v5 (T tt) fun τ=>mG τ (EH h) (ev t x)) (v5 (T tt) fun τ=>mW τ h (ev t x)) dst ops l ws Q t h e:=wL (fun _ _ _ hh=>by cases hh) rfl (by cases dst<;>rfl) (by simp only[lR];first|rfl|(cases T tt<;>rfl)) (by simp only[sU];first|rfl|(cases T tt<;>rfl))
theorem JZ {tt:Nat} {x:Operand} : nX T Γ N F ⟨dst,.load tt x,ty,pos,af,gd⟩ ops l ws Q t h e fs=Dj T Γ N F (v5 (T tt) fun τ=>mG τ (EH h) (ev t x)) (v5 (T tt) fun τ=>mW τ h (ev t x)) dst (bj ⟨dst,.load tt x,ty,pos,af,gd⟩ (ev t)) ops l ws Q t h e fs:=wO (fun _ _ _ hh=>by cases hh) rfl (by cases dst<;>rfl) (by simp only[lR];first|rfl|(cases T tt<;>rfl)) (by simp only[sU];first|rfl|(cases T tt<;>rfl))
theorem E6 {tt:Nat} {x y:Operand} : nW T Γ N F ⟨dst,.store tt x y,ty,pos,af,gd⟩ ops l ws Q t h e=Di T Γ N F (v5 (T tt) fun τ=>cG τ (EH h) (ev t x) (ev t y)) (v5 (T tt) fun τ=>ll τ e h (ev t x) (ev t y)) dst ops l ws Q t h e:=wL (fun _ _ _ hh=>by cases hh) rfl (by cases dst<;>rfl) (by simp only[lR];first|rfl|(cases T tt<;>rfl)) (by simp only[sU];first|rfl|(cases T tt<;>rfl))
theorem Ff {tt:Nat} {x y:Operand} : nX T Γ N F ⟨dst,.store tt x y,ty,pos,af,gd⟩ ops l ws Q t h e fs=Dj T Γ N F (v5 (T tt) fun τ=>cG τ (EH h) (ev t x) (ev t y)) (v5 (T tt) fun τ=>ll τ e h (ev t x) (ev t y)) dst (bj ⟨dst,.store tt x y,ty,pos,af,gd⟩ (ev t)) ops l ws Q t h e fs:=wO (fun _ _ _ hh=>by cases hh) rfl (by cases dst<;>rfl) (by simp only[lR];first|rfl|(cases T tt<;>rfl)) (by simp only[sU];first|rfl|(cases T tt<;>rfl))
theorem wN {x:Operand} : nW T Γ N F ⟨dst,.nilCheck x,ty,pos,af,gd⟩ ops l ws Q t h e=wx T Γ N F (iX (EH h) (ev t x)) dst ops l ws Q t h e:=dS (fun _ _ _ hh=>by cases hh) rfl
theorem wQ {x:Operand} : nX T Γ N F ⟨dst,.nilCheck x,ty,pos,af,gd⟩ ops l ws Q t h e fs=wy T Γ N F (iX (EH h) (ev t x)) dst (bj ⟨dst,.nilCheck x,ty,pos,af,gd⟩ (ev t)) ops l ws Q t h e fs:=dU (fun _ _ _ hh=>by cases hh) rfl
theorem u5 {tt i:Nat} {x:Operand} : nW T Γ N F ⟨dst,.fieldAddr tt x i,ty,pos,af,gd⟩ ops l ws Q t h e=wx T Γ N F (v5 (T tt) fun τ=>dk T τ (EH h) i (ev t x)) dst ops l ws Q t h e:=dS (fun _ _ _ hh=>by cases hh) (by simp only[lR];first|rfl|(cases T tt<;>rfl))
theorem va {tt i:Nat} {x:Operand} : nX T Γ N F ⟨dst,.fieldAddr tt x i,ty,pos,af,gd⟩ ops l ws Q t h e fs=wy T Γ N F (v5 (T tt) fun τ=>dk T τ (EH h) i (ev t x)) dst (bj ⟨dst,.fieldAddr tt x i,ty,pos,af,gd⟩ (ev t)) ops l ws Q t h e fs:=dU (fun _ _ _ hh=>by cases hh) (by simp only[lR];first|rfl|(cases T tt<;>rfl))
theorem E2 {tt i:Nat} {x:Operand} : nW T Γ N F ⟨dst,.field tt x i,ty,pos,af,gd⟩ ops l ws Q t h e=wx T Γ N F (v5 (T tt) fun τ=>lk T τ i (ev t x)) dst ops l ws Q t h e:=dS (fun _ _ _ hh=>by cases hh) (by simp only[lR];first|rfl|(cases T tt<;>rfl))
theorem Fa {tt i:Nat} {x:Operand} : nX T Γ N F ⟨dst,.field tt x i,ty,pos,af,gd⟩ ops l ws Q t h e fs=wy T Γ N F (v5 (T tt) fun τ=>lk T τ i (ev t x)) dst (bj ⟨dst,.field tt x i,ty,pos,af,gd⟩ (ev t)) ops l ws Q t h e fs:=dU (fun _ _ _ hh=>by cases hh) (by simp only[lR];first|rfl|(cases T tt<;>rfl))
theorem u6 {tt:Nat} {x i:Operand} : nW T Γ N F ⟨dst,.indexAddr tt x i,ty,pos,af,gd⟩ ops l ws Q t h e=wx T Γ N F (v5 (T tt) fun τ=>bx T τ (EH h) (ev t x) (ev t i)) dst ops l ws Q t h e:=dS (fun _ _ _ hh=>by cases hh) (by simp only[lR];first|rfl|(cases T tt<;>rfl))
theorem vd {tt:Nat} {x i:Operand} : nX T Γ N F ⟨dst,.indexAddr tt x i,ty,pos,af,gd⟩ ops l ws Q t h e fs=wy T Γ N F (v5 (T tt) fun τ=>bx T τ (EH h) (ev t x) (ev t i)) dst (bj ⟨dst,.indexAddr tt x i,ty,pos,af,gd⟩ (ev t)) ops l ws Q t h e fs:=dU (fun _ _ _ hh=>by cases hh) (by simp only[lR];first|rfl|(cases T tt<;>rfl))
theorem E3 {tt:Nat} {x i:Operand} : nW T Γ N F ⟨dst,.index tt x i,ty,pos,af,gd⟩ ops l ws Q t h e=wx T Γ N F (v5 (T tt) fun τ=>fv T τ (ev t x) (ev t i)) dst ops l ws Q t h e:=dS (fun _ _ _ hh=>by cases hh) (by simp only[lR];first|rfl|(cases T tt<;>rfl))
theorem Fb {tt:Nat} {x i:Operand} : nX T Γ N F ⟨dst,.index tt x i,ty,pos,af,gd⟩ ops l ws Q t h e fs=wy T Γ N F (v5 (T tt) fun τ=>fv T τ (ev t x) (ev t i)) dst (bj ⟨dst,.index tt x i,ty,pos,af,gd⟩ (ev t)) ops l ws Q t h e fs:=dU (fun _ _ _ hh=>by cases hh) (by simp only[lR];first|rfl|(cases T tt<;>rfl))
theorem E4 {tt:Nat} {x:Operand} {lo hi mx:Option Operand} : nW T Γ N F ⟨dst,.slice tt x lo hi mx,ty,pos,af,gd⟩ ops l ws Q t h e=wx T Γ N F (v5 (T tt) fun τ=>cm T τ (EH h) (ev t x) (lo.map (ev t)) (hi.map (ev t)) (mx.map (ev t))) dst ops l ws Q t h e:=dS (fun _ _ _ hh=>by cases hh) (by simp only[lR];first|rfl|(cases T tt<;>rfl))
theorem Fc {tt:Nat} {x:Operand} {lo hi mx:Option Operand} : nX T Γ N F ⟨dst,.slice tt x lo hi mx,ty,pos,af,gd⟩ ops l ws Q t h e fs=wy T Γ N F (v5 (T tt) fun τ=>cm T τ (EH h) (ev t x) (lo.map (ev t)) (hi.map (ev t)) (mx.map (ev t))) dst (bj ⟨dst,.slice tt x lo hi mx,ty,pos,af,gd⟩ (ev t)) ops l ws Q t h e fs:=dU (fun _ _ _ hh=>by cases hh) (by simp only[lR];first|rfl|(cases T tt<;>rfl))
theorem E1 {tt:Nat} {ps:List (Nat×Operand)} : nW T Γ N F ⟨dst,.build tt ps.toArray,ty,pos,af,gd⟩ ops l ws Q t h e=wx T Γ N F (v5 (T tt) fun τ=>nY Γ.own T τ (EH h) dst (ps.map fun p=>(p.1,ev t p.2))) dst ops l ws Q t h e:=dS (fun _ _ _ hh=>by cases hh) (by simp only[lR];first|rfl|(cases T tt<;>rfl))
theorem E9 {tt:Nat} {ps:List (Nat×Operand)} : nX T Γ N F ⟨dst,.build tt ps.toArray,ty,pos,af,gd⟩ ops l ws Q t h e fs=wy T Γ N F (v5 (T tt) fun τ=>nY Γ.own T τ (EH h) dst (ps.map fun p=>(p.1,ev t p.2))) dst (bj ⟨dst,.build tt ps.toArray,ty,pos,af,gd⟩ (ev t)) ops l ws Q t h e fs:=dU (fun _ _ _ hh=>by cases hh) (by simp only[lR];first|rfl|(cases T tt<;>rfl))
theorem sM {tt len d:Nat} {ps:List (Nat×Operand)} : nW T Γ N F ⟨some d,.buildSlice tt len ps.toArray,ty,pos,af,gd⟩ ops l ws Q t h e=wx T Γ N F (v5 (T tt) fun τ=>dj T τ (EH h) e d len (ps.map fun p=>(p.1,ev t p.2))) (some d) ops l ws Q t h e:=dS (fun _ _ _ hh=>by cases hh) (by simp only[lR];first|rfl|(cases T tt<;>rfl))
theorem sN {tt len d:Nat} {ps:List (Nat×Operand)} : nX T Γ N F ⟨some d,.buildSlice tt len ps.toArray,ty,pos,af,gd⟩ ops l ws Q t h e fs=wy T Γ N F (v5 (T tt) fun τ=>dj T τ (EH h) e d len (ps.map fun p=>(p.1,ev t p.2))) (some d) (bj ⟨some d,.buildSlice tt len ps.toArray,ty,pos,af,gd⟩ (ev t)) ops l ws Q t h e fs:=dU (fun _ _ _ hh=>by cases hh) (by simp only[lR];first|rfl|(cases T tt<;>rfl))
def Cs (T:Nat->Option Ty) (e d tt:Nat) (x y:D):Option (Nat×Nat×Nat)->Option bK
 | some p=>(match T tt with|some τ=>mT T τ e d p.1 p.2.1 p.2.2 x y|none=>none)
 | none=>none
theorem F0 {d tt:Nat} {x y:D} : Cs T e d tt x y none=none:=ae2
theorem F1 {d tt:Nat} {x y:D} {p:Nat×Nat×Nat} {τ:Ty} (hτ:T tt=some τ):Cs T e d tt x y (some p)=mT T τ e d p.1 p.2.1 p.2.2 x y:=by simp only[Cs,hτ]
def stM (y x:Option bK) (dst:Option Nat) (ops l:List Oper) (ws:List W) (Q:Kt) (t:Nat->D) (h:Nat->Option Row) (e:Nat):Prop :=
 match y with
 | some E=>D9 T Γ N F (some E) dst ops l ws Q t h e
 | none=>wx T Γ N F x dst ops l ws Q t h e
def XZ (y x:Option bK) (dst:Option Nat) (ft:List Nat) (ops l:List Oper) (ws:List W) (Q:Kt) (t:Nat->D) (h:Nat->Option Row) (e:Nat) (fs:List jL):Prop :=
 match y with
 | some E=>Ea T Γ N F (some E) dst ft ops l ws Q t h e fs
 | none=>wy T Γ N F x dst ft ops l ws Q t h e fs
theorem u7 {tt d:Nat} {x y:Operand} : nW T Γ N F ⟨some d,.makeSlice tt x y,ty,pos,af,gd⟩ ops l ws Q t h e=stM (T:=T) (Γ:=Γ) (N:=N) (F:=F) (Cs T e d tt (ev t x) (ev t y) (Γ.nst d)) (v5 (T tt) fun τ=>oO T τ e d (ev t x) (ev t y)) (some d) ops l ws Q t h e:=by
 have hm:iG T Γ e ⟨some d,.makeSlice tt x y,ty,pos,af,gd⟩ (ev t)=Cs T e d tt (ev t x) (ev t y) (Γ.nst d):=by
  unfold iG Cs
  simp only
  cases Γ.nst d<;>rfl
 cases hc:Cs T e d tt (ev t x) (ev t y) (Γ.nst d) with
 | none=>exact dS (fun _ _ _ hh=>by cases hh) (by simp only[lR];first|rfl|(cases T tt<;>rfl)) (hm.trans hc)
 | some E=>unfold nW PV oE;rw[hm,hc];rfl
theorem ve {tt d:Nat} {x y:Operand} : nX T Γ N F ⟨some d,.makeSlice tt x y,ty,pos,af,gd⟩ ops l ws Q t h e fs=XZ (T:=T) (Γ:=Γ) (N:=N) (F:=F) (Cs T e d tt (ev t x) (ev t y) (Γ.nst d)) (v5 (T tt) fun τ=>oO T τ e d (ev t x) (ev t y)) (some d) (bj ⟨some d,.makeSlice tt x y,ty,pos,af,gd⟩ (ev t)) ops l ws Q t h e fs:=by
 have hm:iG T Γ e ⟨some d,.makeSlice tt x y,ty,pos,af,gd⟩ (ev t)=Cs T e d tt (ev t x) (ev t y) (Γ.nst d):=by
  unfold iG Cs
  simp only
  cases Γ.nst d<;>rfl
 cases hc:Cs T e d tt (ev t x) (ev t y) (Γ.nst d) with
 | none=>exact dU (fun _ _ _ hh=>by cases hh) (by simp only[lR];first|rfl|(cases T tt<;>rfl)) (hm.trans hc)
 | some E=>unfold nX PV oE;rw[hm,hc];rfl
theorem Nh {x:Option bK} : stM (T:=T) (Γ:=Γ) (N:=N) (F:=F) none x dst ops l ws Q t h e=wx T Γ N F x dst ops l ws Q t h e:=ae2
theorem G2 {x:Option bK} {ft:List Nat} : XZ (T:=T) (Γ:=Γ) (N:=N) (F:=F) none x dst ft ops l ws Q t h e fs=wy T Γ N F x dst ft ops l ws Q t h e fs:=ae2
theorem Ni {x:Option bK} {E:bK} : stM (T:=T) (Γ:=Γ) (N:=N) (F:=F) (some E) x dst ops l ws Q t h e=D9 T Γ N F (some E) dst ops l ws Q t h e:=ae2
theorem G3 {x:Option bK} {ft:List Nat} {E:bK} : XZ (T:=T) (Γ:=Γ) (N:=N) (F:=F) (some E) x dst ft ops l ws Q t h e fs=Ea T Γ N F (some E) dst ft ops l ws Q t h e fs:=ae2
theorem RU {x:Option bK} {c:Prop} [Decidable c] {E:bK} (hc:c):stM (T:=T) (Γ:=Γ) (N:=N) (F:=F) (if c then some E else none) x dst ops l ws Q t h e=D9 T Γ N F (some E) dst ops l ws Q t h e:=by rw[if_pos hc];rfl
theorem Ng {x:Option bK} {ft:List Nat} {c:Prop} [Decidable c] {E:bK} (hc:c):XZ (T:=T) (Γ:=Γ) (N:=N) (F:=F) (if c then some E else none) x dst ft ops l ws Q t h e fs=Ea T Γ N F (some E) dst ft ops l ws Q t h e fs:=by rw[if_pos hc];rfl
theorem EY {tt d:Nat} : nW T Γ N F ⟨some d,.alloc tt,ty,pos,af,gd⟩ ops l ws Q t h e=wx T Γ N F (AS (T tt) tt d e (Γ.hint d)) (some d) ops l ws Q t h e:=dS (fun _ _ _ hh=>by cases hh) (by simp only[lR];cases T tt with|none=>rfl|some τ=>(dsimp only[AS];cases Γ.hint d<;>rfl))
theorem E7 {tt d:Nat} : nX T Γ N F ⟨some d,.alloc tt,ty,pos,af,gd⟩ ops l ws Q t h e fs=wy T Γ N F (AS (T tt) tt d e (Γ.hint d)) (some d) (bj ⟨some d,.alloc tt,ty,pos,af,gd⟩ (ev t)) ops l ws Q t h e fs:=dU (fun _ _ _ hh=>by cases hh) (by simp only[lR];cases T tt with|none=>rfl|some τ=>(dsimp only[AS];cases Γ.hint d<;>rfl))
theorem zb {tt d:Nat} : nW T Γ N F ⟨some d,.makeMap tt none,ty,pos,af,gd⟩ ops l ws Q t h e=wx T Γ N F (aak T (T tt) tt e d) (some d) ops l ws Q t h e:=dS (fun _ _ _ hh=>by cases hh) (by simp only[lR];first|rfl|(cases T tt<;>rfl))
theorem zf {tt d:Nat} : nX T Γ N F ⟨some d,.makeMap tt none,ty,pos,af,gd⟩ ops l ws Q t h e fs=wy T Γ N F (aak T (T tt) tt e d) (some d) (bj ⟨some d,.makeMap tt none,ty,pos,af,gd⟩ (ev t)) ops l ws Q t h e fs:=dU (fun _ _ _ hh=>by cases hh) (by simp only[lR];first|rfl|(cases T tt<;>rfl))
theorem Bq {tt:Nat} {m i:Operand} {ok:Bool} : nW T Γ N F ⟨dst,.lookup tt m i ok,ty,pos,af,gd⟩ ops l ws Q t h e=wx T Γ N F (v5 (T tt) fun τ=>iu T τ (EH h) (ev t m) (ev t i) ok) dst ops l ws Q t h e:=dS (fun _ _ _ hh=>by cases hh) (by simp only[lR];first|rfl|(cases T tt<;>rfl))
theorem Bt {tt:Nat} {m i:Operand} {ok:Bool} : nX T Γ N F ⟨dst,.lookup tt m i ok,ty,pos,af,gd⟩ ops l ws Q t h e fs=wy T Γ N F (v5 (T tt) fun τ=>iu T τ (EH h) (ev t m) (ev t i) ok) dst (bj ⟨dst,.lookup tt m i ok,ty,pos,af,gd⟩ (ev t)) ops l ws Q t h e fs:=dU (fun _ _ _ hh=>by cases hh) (by simp only[lR];first|rfl|(cases T tt<;>rfl))
theorem u9 {tt:Nat} {m i x:Operand} : nW T Γ N F ⟨dst,.mapUpdate tt m i x,ty,pos,af,gd⟩ ops l ws Q t h e=wx T Γ N F (v5 (T tt) fun τ=>cZ T τ (EH h) (ev t m) (ev t i) (ev t x)) dst ops l ws Q t h e:=dS (fun _ _ _ hh=>by cases hh) (by simp only[lR];first|rfl|(cases T tt<;>rfl))
theorem vf {tt:Nat} {m i x:Operand} : nX T Γ N F ⟨dst,.mapUpdate tt m i x,ty,pos,af,gd⟩ ops l ws Q t h e fs=wy T Γ N F (v5 (T tt) fun τ=>cZ T τ (EH h) (ev t m) (ev t i) (ev t x)) dst (bj ⟨dst,.mapUpdate tt m i x,ty,pos,af,gd⟩ (ev t)) ops l ws Q t h e fs:=dU (fun _ _ _ hh=>by cases hh) (by simp only[lR];first|rfl|(cases T tt<;>rfl))
theorem Bp {tt:Nat} {m i x:Operand} : nW T Γ N F ⟨dst,.insert tt m i x,ty,pos,af,gd⟩ ops l ws Q t h e=wx T Γ N F (v5 (T tt) fun τ=>cZ T τ (EH h) (ev t m) (ev t i) (ev t x)) dst ops l ws Q t h e:=dS (fun _ _ _ hh=>by cases hh) (by simp only[lR];first|rfl|(cases T tt<;>rfl))
theorem Bs {tt:Nat} {m i x:Operand} : nX T Γ N F ⟨dst,.insert tt m i x,ty,pos,af,gd⟩ ops l ws Q t h e fs=wy T Γ N F (v5 (T tt) fun τ=>cZ T τ (EH h) (ev t m) (ev t i) (ev t x)) dst (bj ⟨dst,.insert tt m i x,ty,pos,af,gd⟩ (ev t)) ops l ws Q t h e fs:=dU (fun _ _ _ hh=>by cases hh) (by simp only[lR];first|rfl|(cases T tt<;>rfl))
theorem QK {tt d:Nat} {x:Operand} : nW T Γ N F ⟨some d,.box tt x,ty,pos,af,gd⟩ ops l ws Q t h e=wx T Γ N F (Y5 (dQ (EH h) (ev t x)) (EH h) tt d e) (some d) ops l ws Q t h e:=dS (fun _ _ _ hh=>by cases hh) (by simp only[lR];first|rfl|(cases dQ (EH h) (ev t x)<;>rfl))
theorem QL {tt d:Nat} {x:Operand} : nX T Γ N F ⟨some d,.box tt x,ty,pos,af,gd⟩ ops l ws Q t h e fs=wy T Γ N F (Y5 (dQ (EH h) (ev t x)) (EH h) tt d e) (some d) (bj ⟨some d,.box tt x,ty,pos,af,gd⟩ (ev t)) ops l ws Q t h e fs:=dU (fun _ _ _ hh=>by cases hh) (by simp only[lR];first|rfl|(cases dQ (EH h) (ev t x)<;>rfl))
theorem y9 {a b:Nat} {x:Operand} : nW T Γ N F ⟨dst,.convert a b x,ty,pos,af,gd⟩ ops l ws Q t h e=wx T Γ N F (UA (T b) (T a) (ev t x)) dst ops l ws Q t h e:=dS (fun _ _ _ hh=>by cases hh) rfl
theorem zd {a b:Nat} {x:Operand} : nX T Γ N F ⟨dst,.convert a b x,ty,pos,af,gd⟩ ops l ws Q t h e fs=wy T Γ N F (UA (T b) (T a) (ev t x)) dst (bj ⟨dst,.convert a b x,ty,pos,af,gd⟩ (ev t)) ops l ws Q t h e fs:=dU (fun _ _ _ hh=>by cases hh) rfl
theorem za {x:Nat} {i:Nat} : nW T Γ N F ⟨dst,.extract (.tmp x) i,ty,pos,af,gd⟩ ops l ws Q t h e=wx T Γ N F (Xt (t x) i) dst ops l ws Q t h e:=dS (fun _ _ _ hh=>by cases hh) rfl
theorem ze {x:Nat} {i:Nat} : nX T Γ N F ⟨dst,.extract (.tmp x) i,ty,pos,af,gd⟩ ops l ws Q t h e fs=wy T Γ N F (Xt (t x) i) dst (bj ⟨dst,.extract (.tmp x) i,ty,pos,af,gd⟩ (ev t)) ops l ws Q t h e fs:=dU (fun _ _ _ hh=>by cases hh) rfl
def cnL (Γ:Env) (e:Nat) (h:Nat->Option Row) (g:Nat) (args:List D):Option (Nat×(Nat->Nat->Nat->Nat->List D->List D->Option (D×List D)))->Option bK
 | some _=>pG Γ e h g args
 | none=>none
theorem JM {g:Nat} {args:List D} : cnL Γ e h g args none=none:=ae2
theorem JN {g:Nat} {args:List D} {p:Nat×(Nat->Nat->Nat->Nat->List D->List D->Option (D×List D))} : cnL Γ e h g args (some p)=pG Γ e h g args:=ae2
theorem UY {g:Nat} {args:List D} : zl Γ e h (some (.fn g,args))=cnL Γ e h g args (Γ.nx.lnd g):=by
 cases hl:Γ.nx.lnd g with
 | some p=>rfl
 | none =>
  show pG Γ e h g args=none
  cases hc:pG Γ e h g args with
  | none=>rfl
  | some E =>
   obtain⟨_,_,_,_,_,_,_,_,_,_,_,_,_,_,_,_,h1,_⟩:=qz hc
   rw[hl]at h1
   cases h1
theorem QQ {f k:Nat} {xs args:List D} : zl Γ e h (some (.clo f k xs,args))=none:=ae2
theorem UX {d g:Nat} {args:List D} : lS Γ e h (some d) (some (.fn g,args))=BL e d h args (Γ.nx.res g):=ae2
theorem QP {dst:Option Nat} {f k:Nat} {xs args:List D} : lS Γ e h dst (some (.clo f k xs,args))=none:=by cases dst<;>rfl
theorem J7 {q:Option (D×List D)} : lS Γ e h none q=none:=ae2
theorem J8 {d:Nat} {args:List D} : BL e d h args none=none:=ae2
theorem J9 {d:Nat} {args:List D} {p:List D->Option (Nat×Nat×Nat×Nat×Nat×List D)} : BL e d h args (some p)=EE p e d (bk (EH h) args):=ae2
theorem Jj {d:Nat} {acg:List D} {p:List D->Option (Nat×Nat×Nat×Nat×Nat×List D)} : EE p e d (some (acg,[]))=Ht e d (p acg):=ae2
theorem EG {d ty tt s S n:Nat} {cs:List D} (hd:d<1000000):Ht e d (some (ty,tt,s,S,n,cs))=some ⟨.buf d e S 0 n,[(d,some ⟨e,ty,[.nr tt s (4*e+2) cs],false,true,true⟩)]⟩:=if_pos (by rw[cJ];exact hd)
def stC (y0 x y:Option bK) (dst:Option Nat) (ops l:List Oper) (ws:List W) (Q:Kt) (t:Nat->D) (h:Nat->Option Row) (e:Nat):Prop :=
 match y0 with
 | some E=>D9 T Γ N F (some E) dst ops l ws Q t h e
 | none=>Di T Γ N F x y dst ops l ws Q t h e
def ZM (y0 x y:Option bK) (dst:Option Nat) (ft:List Nat) (ops l:List Oper) (ws:List W) (Q:Kt) (t:Nat->D) (h:Nat->Option Row) (e:Nat) (fs:List jL):Prop :=
 match y0 with
 | some E=>Ea T Γ N F (some E) dst ft ops l ws Q t h e fs
 | none=>Dj T Γ N F x y dst ft ops l ws Q t h e fs
theorem Nb {x y:Option bK} : stC (T:=T) (Γ:=Γ) (N:=N) (F:=F) none x y dst ops l ws Q t h e=Di T Γ N F x y dst ops l ws Q t h e:=ae2
theorem GX {x y:Option bK} {ft:List Nat} : ZM (T:=T) (Γ:=Γ) (N:=N) (F:=F) none x y dst ft ops l ws Q t h e fs=Dj T Γ N F x y dst ft ops l ws Q t h e fs:=ae2
theorem Nc {x y:Option bK} {E:bK} : stC (T:=T) (Γ:=Γ) (N:=N) (F:=F) (some E) x y dst ops l ws Q t h e=D9 T Γ N F (some E) dst ops l ws Q t h e:=ae2
theorem GY {x y:Option bK} {ft:List Nat} {E:bK} : ZM (T:=T) (Γ:=Γ) (N:=N) (F:=F) (some E) x y dst ft ops l ws Q t h e fs=Ea T Γ N F (some E) dst ft ops l ws Q t h e fs:=ae2
theorem JS {x:Operand} {acg:List Operand} {tys:Array Nat} : nW T Γ N F ⟨dst,.call ⟨.value x,acg.toArray,tys⟩,ty,pos,af,gd⟩ ops l ws Q t h e=stC (T:=T) (Γ:=Γ) (N:=N) (F:=F) (lS Γ e h dst (some (ev t x,acg.map (ev t)))) (gA Γ (EH h) e dst (ev t x) (acg.map (ev t))) (zl Γ e h (some (ev t x,acg.map (ev t)))) dst ops l ws Q t h e:=by
 have hco:gn (ev t) (.call ⟨.value x,acg.toArray,tys⟩)=some (ev t x,acg.map (ev t)):=rfl
 cases hc:lS Γ e h dst (some (ev t x,acg.map (ev t))) with
 | none=>exact wL (fun _ _ _ hh=>by cases hh) rfl (by rw[hco];exact hc) rfl rfl
 | some E=>unfold nW PV oE;simp only[iG,hco,hc];rfl
theorem JY {x:Operand} {acg:List Operand} {tys:Array Nat} : nX T Γ N F ⟨dst,.call ⟨.value x,acg.toArray,tys⟩,ty,pos,af,gd⟩ ops l ws Q t h e fs=ZM (T:=T) (Γ:=Γ) (N:=N) (F:=F) (lS Γ e h dst (some (ev t x,acg.map (ev t)))) (gA Γ (EH h) e dst (ev t x) (acg.map (ev t))) (zl Γ e h (some (ev t x,acg.map (ev t)))) dst (bj ⟨dst,.call ⟨.value x,acg.toArray,tys⟩,ty,pos,af,gd⟩ (ev t)) ops l ws Q t h e fs:=by
 have hco:gn (ev t) (.call ⟨.value x,acg.toArray,tys⟩)=some (ev t x,acg.map (ev t)):=rfl
 cases hc:lS Γ e h dst (some (ev t x,acg.map (ev t))) with
 | none=>exact wO (fun _ _ _ hh=>by cases hh) rfl (by rw[hco];exact hc) rfl rfl
 | some E=>unfold nX PV oE;simp only[iG,hco,hc];rfl
theorem y8 {x:Builtin} {acg:List Operand} {tys:List Nat} : nW T Γ N F ⟨dst,.call ⟨.builtin x,acg.toArray,tys.toArray⟩,ty,pos,af,gd⟩ ops l ws Q t h e=wx T Γ N F (b7 T (EH h) e dst x tys (acg.map (ev t))) dst ops l ws Q t h e:=dS (fun _ _ _ hh=>by cases hh) rfl
theorem zc {x:Builtin} {acg:List Operand} {tys:List Nat} : nX T Γ N F ⟨dst,.call ⟨.builtin x,acg.toArray,tys.toArray⟩,ty,pos,af,gd⟩ ops l ws Q t h e fs=wy T Γ N F (b7 T (EH h) e dst x tys (acg.map (ev t))) dst (bj ⟨dst,.call ⟨.builtin x,acg.toArray,tys.toArray⟩,ty,pos,af,gd⟩ (ev t)) ops l ws Q t h e fs:=dU (fun _ _ _ hh=>by cases hh) rfl
theorem bf {o:Array Oper} {A:Prop} (h1:BC o fs=true) (h2:A):BC o fs=true∧A:=⟨h1,h2⟩
theorem aq {b:Bool} {g:Nat} {x y:Code} (h1:b=true->cv T Γ N F (.code x::ws) Q .normal (bT t g (.bool true)) h e) (h2:b=false->cv T Γ N F (.code y::ws) Q .normal (bT t g (.bool false)) h e):IK T Γ N F (.bool b) g x y ws Q t h e:=by rw[TB];exact⟨h1,h2⟩
theorem dW {b:Bool} {g:Nat} {o:Oper} (h1:b=true->nW T Γ N F o ops l ws Q (bT t g (.bool true)) h e) (h2:b=false->kx T Γ N F ops l ws Q (dN (bT t g (.bool false)) o.dst .skp) h e):uZ T Γ N F (.bool b) g true o ops l ws Q t h e:=by rw[TC];exact⟨h1,h2⟩
theorem bd {b:Bool} {g:Nat} {o:Oper} (h1:b=true->kx T Γ N F ops l ws Q (dN (bT t g (.bool true)) o.dst .skp) h e) (h2:b=false->nW T Γ N F o ops l ws Q (bT t g (.bool false)) h e):uZ T Γ N F (.bool b) g false o ops l ws Q t h e:=by rw[PL];exact⟨h1,h2⟩
theorem pn {b:Bool} {g:Nat} {o:Oper} (h1:b=true->nX T Γ N F o ops l ws Q (bT t g (.bool true)) h e fs) (h2:b=false->ky T Γ N F ops l ws Q (dN (bT t g (.bool false)) o.dst .skp) h e (fs++[⟨[],true⟩])):u3 T Γ N F (.bool b) g true o ops l ws Q t h e fs:=by rw[TD];exact⟨h1,h2⟩
theorem xI {b:Bool} {g:Nat} {o:Oper} (h1:b=true->ky T Γ N F ops l ws Q (dN (bT t g (.bool true)) o.dst .skp) h e (fs++[⟨[],true⟩])) (h2:b=false->nX T Γ N F o ops l ws Q (bT t g (.bool false)) h e fs):u3 T Γ N F (.bool b) g false o ops l ws Q t h e fs:=by rw[PM];exact⟨h1,h2⟩
def Xr (mode:Mode) (T:Nat->Option Ty) (lent:Option (D×Row)) (rs:List ResultVar) (r:RK×Option Row):Kt:=fun x t h e=>Zj mode T lent rs x t h e r
theorem zn {mode:Mode} {lent:Option (D×Row)} {rs:List ResultVar} {r:RK×Option Row} : Xr mode T lent rs r .normal t h e=(jv mode T lent rs ⟨t,EH h,e⟩=some r):=ae2
theorem eF {mode:Mode} {lent:Option (D×Row)} {rs:List ResultVar} {r:RK×Option Row} : Xr mode T lent rs r .ret t h e=(jv mode T lent rs ⟨t,EH h,e⟩=some r):=ae2
def QV (T:Nat->Option Ty) (ty tt s:Nat) (rs:List ResultVar) (r:D×List D):Kt:=fun x t h e =>
 match x with
 | .exit _=>False
 | _=>SH T ty tt s rs ⟨t,h,e⟩=some r
theorem wY {ty tt s:Nat} {rs:List ResultVar} {r:D×List D} : QV T ty tt s rs r .normal t h e=(SH T ty tt s rs ⟨t,h,e⟩=some r):=ae2
theorem dF {ty tt s:Nat} {rs:List ResultVar} {r:D×List D} : QV T ty tt s rs r .ret t h e=(SH T ty tt s rs ⟨t,h,e⟩=some r):=ae2
def QU (rs:List ResultVar) (r:Nat×Nat×Nat×Nat×Nat×List D):Kt:=fun x t h e =>
 match x with
 | .exit _=>False
 | _=>SG rs ⟨t,h,e⟩=some r
theorem wX {rs:List ResultVar} {r:Nat×Nat×Nat×Nat×Nat×List D} : QU rs r .normal t h e=(SG rs ⟨t,h,e⟩=some r):=ae2
theorem dE {rs:List ResultVar} {r:Nat×Nat×Nat×Nat×Nat×List D} : QU rs r .ret t h e=(SG rs ⟨t,h,e⟩=some r):=ae2
theorem QW {ty tt s:Nat} {rs:List ResultVar} : SH T ty tt s rs ⟨t,h,e⟩=Kj ty tt s (tv T ⟨t,EH h,e⟩ rs) (h 0):=ae2
theorem Kk {ty tt s nv:Nat} {lst:Bool} {ds cs:List D} : Kj ty tt s (some (ds,[])) (some ⟨0,ty,[.nr tt s nv cs],false,lst,true⟩)=some (me ds,cs):=by
 simp[Kj,U3]
theorem QT {i:Nat} : SG [.tmp i] ⟨t,h,e⟩=QS h (t i):=ae2
theorem Fm {x v S n:Nat} : QS h (.buf x v S 0 n)=Kh x v S n (h x):=ae2
theorem Ki {x v S n ty tt s nv:Nat} {lst:Bool} {cs:List D} (hx:x<1000000):Kh x v S n (some ⟨v,ty,[.nr tt s nv cs],false,lst,true⟩)=some (ty,tt,s,S,n,cs):=by
 have:x<PK:=by rw[cJ];exact hx
 simp[Kh,U2,this]
theorem uQ {fn:Func} {c:Code} {n ty tt s o:Nat} {cs args:List D} {rs:List ResultVar} {r:D×List D} (hb:fn.body=some c) (hn:fn.ntmps=n) (hr:fn.results=rs.toArray) (hw:cv T Γ n F [.code c] (QV T ty tt s rs r) .normal (yf (.ptr 0 0 o::args)) (lJ (gg ty tt s 0 cs)) 1) (hpk:n<=1000000:=by exact ad4 rfl):rH T Γ F fn ty tt s o cs args=some r:=by
 obtain⟨x,st,h1,h2⟩:=IQ _ _ _ _ _ (show IW T Γ n F c (yf (.ptr 0 0 o::args)) (lJ (gg ty tt s 0 cs)) 1 (QV T ty tt s rs r) from hw)
 unfold rH
 simp only[hb,hn]
 rw[if_pos (by rw[cJ];exact hpk)]
 have e0:oA ty tt s o cs args=⟨yf (.ptr 0 0 o::args),lJ (gg ty tt s 0 cs),1⟩:=rfl
 rw[e0,h1,hr]
 cases x with
 | normal=>exact h2
 | ret=>exact h2
 | exit m=>exact h2.elim
theorem TG {fn:Func} {c:Code} {n:Nat} {args:List D} {rs:List ResultVar} {r:Nat×Nat×Nat×Nat×Nat×List D} (hb:fn.body=some c) (hn:fn.ntmps=n) (hr:fn.results=rs.toArray) (hw:cv T Γ n F [.code c] (QU rs r) .normal (yf args) Mf 0) (hpk:n<=1000000:=by exact ad4 rfl):rG T Γ F fn args=some r:=by
 obtain⟨x,st,h1,h2⟩:=IQ _ _ _ _ _ (show IW T Γ n F c (yf args) Mf 0 (QU rs r) from hw)
 unfold rG
 simp only[hb,hn]
 rw[if_pos (by rw[cJ];exact hpk)]
 have e0:bS none args=⟨yf args,Mf,0⟩:=rfl
 rw[e0,h1,hr]
 cases x with
 | normal=>exact h2
 | ret=>exact h2
 | exit m=>exact h2.elim
theorem aC {mode:Mode} {fn:Func} {c:Code} {n:Nat} {rs:List ResultVar} {args:List D} {r:RK×Option Row} (hb:fn.body=some c) (hn:fn.ntmps=n) (hr:fn.results=rs.toArray) (hw:cv T Γ n F [.code c] (Xr mode T none rs r) .normal (yf args) Mf 0) (hpk:n<=1000000:=by exact ad4 rfl):a8 mode T Γ F fn none args=some r:=by
 refine W0 ?_ (by rw[hn];exact hpk)
 unfold wpf
 rw[hb,hn,hr]
 exact hw
theorem MR (r:Row) (i:Nat):lJ r i=if i=0 then some r else none:=ae2
theorem Dy {mode:Mode} {fn:Func} {c:Code} {n:Nat} {rs:List ResultVar} {d0:D} {ty:Nat} {cells:List D} {fz lst:Bool} {args:List D} {r:RK×Option Row} (hb:fn.body=some c) (hn:fn.ntmps=n) (hr:fn.results=rs.toArray)
  (hw:cv T Γ n F [.code c] (Xr mode T (some (d0,⟨0,ty,cells,fz,lst,false⟩)) rs r) .normal (yf (d0::args)) (lJ ⟨0,ty,cells,fz,lst,false⟩) 1) (hpk:n<=1000000:=by exact ad4 rfl):a8 mode T Γ F fn (some (d0,⟨0,ty,cells,fz,lst,false⟩)) args=some r:=by
 refine W0 ?_ (by rw[hn];exact hpk)
 unfold wpf
 rw[hb,hn,hr]
 exact hw
end
section
variable {h:Nat->Option Row} {k x o v ty fz' nv s n e:Nat} {cs xs:List D} {fz lst:Bool}
theorem TN (hk:k<2000000):EH h k=(h k).map (Az k):=sn (by rw[cJ];exact hk)
theorem X7 (hx:x<1000000):EH h (NK x o)=(h x).bind fun r=>pO r o:=u4 (by rw[cJ];exact hx)
theorem GU:Az k ⟨v,ty,cs,fz,lst,false⟩=⟨v,ty,cs,fz,lst,false⟩:=ae2
theorem RO {ks:List Int} : Az k ⟨v,ty,[.mpc ks xs],fz,lst,true⟩=⟨v,ty,[.mpc ks xs],fz,lst,true⟩:=ae2
theorem V6 {y:Nat} : Az k ⟨v,ty,[.ph y s n],fz,lst,true⟩=⟨v,ty,[.ph y s n],fz,lst,true⟩:=ae2
theorem V5 {t:Nat} : Az k ⟨v,ty,[.nr t s nv cs],fz,lst,true⟩=⟨v,ty,cs.mapIdx (pk k s),fz,lst,true⟩:=ae2
theorem Mc {t:Nat} : pO ⟨v,ty,[.nr t s nv cs],fz,lst,true⟩ o=Ct t nv fz (cs.drop o).head?:=ae2
theorem Mb:Ct ty nv fz (some (.nx n xs))=some ⟨nv,ty,xs,fz,true,false⟩:=ae2
theorem YP (hx:x<1000000):rt (NK x o)=x:=tx (by rw[cJ];exact hx)
theorem FH:jJ h []=[]:=ae2
theorem FG {r:Option Row} {l:List (Nat×Option Row)} (hk:k<2000000):jJ h ((k,r)::l)=(k,Cu r)::jJ (bT h k (Cu r)) l:=by
 have h1:rt k=k:=jK (by rw[cJ];exact hk)
 have h2:xn h k r=Cu r:=if_pos (by rw[cJ];exact hk)
 simp only[jJ,h1,h2]
theorem Ks {r:Option Row} {l:List (Nat×Option Row)} (hx:x<1000000):jJ h ((NK x o,r)::l)=(x,(h x).map (CT o r))::jJ (bT h x ((h x).map (CT o r))) l:=by
 have hx':x<PK:=by rw[cJ];exact hx
 have h1:rt (NK x o)=x:=tx hx'
 have h2:xn h (NK x o) r=(h x).map (CT o r):=by
  unfold xn
  rw[if_neg (by have:=fI x o;omega),qk o hx',AJ o hx']
 simp only[jJ,h1,h2]
theorem Gc:Cu none=none:=ae2
theorem Cv:Cu (some ⟨v,ty,cs,fz,lst,false⟩)=some ⟨v,ty,cs,fz,lst,false⟩:=ae2
theorem Me {ks:List Int} : Cu (some ⟨v,ty,[.mpc ks xs],fz,lst,true⟩)=some ⟨v,ty,[.mpc ks xs],fz,lst,true⟩:=ae2
theorem Rv {y:Nat} : Cu (some ⟨v,ty,[.ph y s n],fz,lst,true⟩)=some ⟨v,ty,[.ph y s n],fz,lst,true⟩:=ae2
theorem RE {t:Nat} {r:Option Row} : CT o r ⟨v,ty,[.nr t s nv cs],fz,lst,true⟩=⟨v,ty,yG t s nv fz cs o r (cs.drop o).head?,fz,lst,true⟩:=ae2
theorem RN {t v':Nat} {xs':List D} : yG t s nv fz cs o (some ⟨v',t,xs',fz,true,false⟩) (some (.nx n xs))=if v'=nv then [.nr t s nv (putCells cs o [.nx n xs'])] else [.nr t s nv (putCells cs o [.und])]:=by
 by_cases hv:v'=nv<;>simp[yG,Gl,hv]
def lvN (x v:Nat):Option Row->Option (Row×Nat×Nat×Nat×List D)
 | some r=>if r.v=v∧r.fz=false∧r.mp=true∧x<1000000 then nrO r r.cells else none
 | none=>none
theorem Lu:iN h x v=lvN x v (h x):=by
 unfold iN lvN
 rw[cJ]
 cases h x<;>rfl
theorem Vw {t:Nat} (hx:x<1000000):lvN x v (some ⟨v,ty,[.nr t s nv cs],false,lst,true⟩)=some (⟨v,ty,[.nr t s nv cs],false,lst,true⟩,t,s,nv,cs):=by
 simp only[lvN,true_and,hx,and_self,if_true,nrO]
def Zu (τ:Ty) (x o:Nat):Option (Row×Nat×Nat×Nat×List D)->Option bK
 | some (r,ty,s,nv,cs)=>Ci τ x s nv o cs (cs.drop o).head?
 | none=>none
theorem Rj {τ:Ty} : mW τ h (.ptr x v o)=Zu τ x o (iN h x v):=by
 simp only[mW,Zu]
 cases iN h x v<;>rfl
theorem FO {τ:Ty} {r:Row} {t:Nat} : Zu τ x o (some (r,t,s,nv,cs))=Ci τ x s nv o cs (cs.drop o).head?:=ae2
theorem Rh {ds:Ds} {b:Nat} {z:List Value} {q:Bool} : Ci ⟨ds,1,b,z,q⟩ x s nv o cs (some (.nx n xs))=if ds.oe=false then some ⟨.buf (NK x o) nv s 0 n,[]⟩ else none:=by
 simp only[Ci,true_and]
def SR (τ:Ty) (o:Nat) (cs:List D):Option bK :=
 if o+τ.size<=cs.length∧((cs.drop o).take τ.size).all eY=true then YL (lx τ ((cs.drop o).take τ.size)) else none
theorem Lj {τ:Ty} {kk:IntKind} {i:Int} : Ci τ x s nv o cs (some (.int kk i))=SR τ o cs:=ae2
theorem FP {τ:Ty} {b:Bool} : Ci τ x s nv o cs (some (.bool b))=SR τ o cs:=ae2
theorem Lk {τ:Ty} {b:ByteArray} : Ci τ x s nv o cs (some (.str b))=SR τ o cs:=ae2
theorem Ri {τ:Ty} {a b:Bool} : Ci τ x s nv o cs (some (.sl a b n xs))=SR τ o cs:=ae2
def X0 (τ:Ty) (e:Nat) (h:Nat->Option Row) (x o:Nat) (d:D):Option (Row×Nat×Nat×Nat×List D)->Option bK
 | some (r,ty,s,nv,cs)=>if o+τ.size<=cs.length∧0<τ.size then uY τ e h x r ty s nv cs o d else none
 | none=>none
theorem RW {τ:Ty} {d:D} : ll τ e h (.ptr x v o) d=X0 τ e h x o d (iN h x v):=by
 simp only[ll,X0]
 cases iN h x v<;>rfl
theorem G5 {ds:Ds} {m b:Nat} {z:List Value} {q:Bool} {d:D} {r:Row} {t:Nat} (hm:0<m) (hc:o+m<=cs.length):X0 ⟨ds,m,b,z,q⟩ e h x o d (some (r,t,s,nv,cs))=uY ⟨ds,m,b,z,q⟩ e h x r t s nv cs o d:=by
 simp only[X0,hm,hc,and_self,if_true]
theorem G6 {ds:Ds} {b:Nat} {z:List Value} {q:Bool} {r:Row} {t:Nat} : uY ⟨ds,1,b,z,q⟩ e h x r t s nv cs o (.buf (NK x o) nv s 0 n)=yJ x r t s nv cs o n (cs.drop o).head?:=by
 simp only[uY,and_self,if_true]
theorem GW {ds:Ds} {r:Row} {t n0:Nat} : yJ x r t s nv cs o n (some (.nx n0 xs))=if n*s<=xs.length then some ⟨.und,[(x,some ⟨r.v,r.ty,[.nr t s nv (putCells cs o [.nx n (xs.take (n*s))])],false,r.lst,true⟩)]⟩ else none:=ae2
def ZN (x:Nat) (r:Row) (ty s:Nat) (cs:List D) (o y n:Nat) (b:Option Nat):Option Row->Option bK
 | some q=>if q.fz=false∧q.lst=true∧q.ty=ty∧q.cells.length=n*s then yK x r ty s cs o y n q b else none
 | none=>none
theorem G8 {ds:Ds} {b y vy:Nat} {z:List Value} {q:Bool} {r:Row} {t:Nat} (hy:y<1000000):uY ⟨ds,1,b,z,q⟩ e h x r t s nv cs o (.buf y vy s 0 n)=ZN x r t s cs o y n (oD nv e) (live h y vy):=by
 have h1:¬y=NK x o:=by have:=fI x o;rw[cJ]at this;omega
 have h2:y<PK:=by rw[cJ];exact hy
 simp only[uY,and_self,if_true,h1,if_false,h2]
 cases live h y vy<;>rfl
theorem G4 {r q:Row} {t nv' y:Nat} (hc:q.fz=false∧q.lst=true∧q.ty=t∧q.cells.length=n*s):ZN x r t s cs o y n (some nv') (some q)=some ⟨.und,[(y,none),(x,some ⟨r.v,r.ty,[.nr t s nv' (putCells cs o [.nx n q.cells])],false,r.lst,true⟩)]⟩:=by
 simp only[ZN,hc,and_self,if_true,yK]
theorem Nk {τ:Ty} {r:Row} {t:Nat} {kk:IntKind} {i:Int} : uY τ e h x r t s nv cs o (.int kk i)=yL τ x r t s nv cs o (some [.int kk i]):=ae2
theorem G7 {τ:Ty} {r:Row} {t:Nat} {b:Bool} : uY τ e h x r t s nv cs o (.bool b)=yL τ x r t s nv cs o (some [.bool b]):=ae2
theorem Nl {τ:Ty} {r:Row} {t:Nat} {b:ByteArray} : uY τ e h x r t s nv cs o (.str b)=yL τ x r t s nv cs o (some [.str b]):=ae2
theorem RV {τ:Ty} {r:Row} {t:Nat} {a b:Bool} : uY τ e h x r t s nv cs o (.sl a b n xs)=yL τ x r t s nv cs o (some [.sl a b n xs]):=ae2
theorem Nj {τ:Ty} {r:Row} {t:Nat} : uY τ e h x r t s nv cs o (.agg xs)=yL τ x r t s nv cs o (some xs):=ae2
theorem Hc {τ:Ty} {r:Row} {t:Nat} {c':List D} : yL τ x r t s nv cs o (some c')=if c'.length=τ.size∧c'.all eY=true then some ⟨.und,[(x,some ⟨r.v,r.ty,[.nr t s nv (putCells cs o (c'.map canon))],false,r.lst,true⟩)]⟩ else none:=ae2
theorem jr (hn:nv<=4*e):oD nv e=some (4*e+1):=if_pos hn
end
section
variable {Γ:Env} {g d:Nat} {p:Nat×Nat×Nat}
theorem Q1 {f:Nat} {l:Bool} {G:Option (D×Row)->List D->Option (RK×Option Row)} : (Am.ext Γ f l G).nst g=Γ.nst g:=ae2
theorem Le:(Am.keep d Γ).nst g=Γ.nst g:=ae2
theorem KY {y:Nat} : (Am.vo d y Γ).nst g=Γ.nst g:=ae2
theorem K8 {f:Nat} : (Am.yp f p Γ).nst g=Γ.nst g:=ae2
theorem KS {f:Nat} {q:Grow} : (Am.B9 f q Γ).nst g=Γ.nst g:=ae2
theorem F8:a6.nst g=none:=ae2
theorem Mq:(Am.xi d p Γ).nst g=if g=d then some p else Γ.nst g:=ae2
theorem Cz:(Am.xi d p Γ).lends g=Γ.lends g:=ae2
theorem Ms {l:Option (D×Row)} {acg:List D} : (Am.xi d p Γ).sem g l acg=Γ.sem g l acg:=ae2
theorem Mr:(Am.xi d p Γ).own g=Γ.own g:=ae2
theorem Gg:(Am.xi d p Γ).hint g=Γ.hint g:=ae2
theorem Mp:(Am.xi d p Γ).ins g=Γ.ins g:=ae2
theorem Mo:(Am.xi d p Γ).grw g=Γ.grw g:=ae2
theorem U6 {f:Nat} {l:Bool} {G:Option (D×Row)->List D->Option (RK×Option Row)} : (Am.ext Γ f l G).nx=Γ.nx:=ae2
theorem Rf:(Am.keep d Γ).nx=Γ.nx:=ae2
theorem Rb {y:Nat} : (Am.vo d y Γ).nx=Γ.nx:=ae2
theorem Rd {f:Nat} : (Am.yp f p Γ).nx=Γ.nx:=ae2
theorem Q8 {f:Nat} {q:Grow} : (Am.B9 f q Γ).nx=Γ.nx:=ae2
theorem Rw:(Am.xi d p Γ).nx=Γ.nx:=ae2
theorem F7:a6.nx.lnd g=none:=ae2
theorem Ga:a6.nx.res g=none:=ae2
end
section
variable {Γ:Env} {g d f:Nat} {p:Nat×(Nat->Nat->Nat->Nat->List D->List D->Option (D×List D))}
theorem Ly:(Am.ny f p Γ).nx.lnd g=if g=f then some p else Γ.nx.lnd g:=ae2
theorem LD:(Am.ny f p Γ).nx.res g=Γ.nx.res g:=ae2
theorem Cn:(Am.ny f p Γ).lends g=Γ.lends g:=ae2
theorem LG {l:Option (D×Row)} {acg:List D} : (Am.ny f p Γ).sem g l acg=Γ.sem g l acg:=ae2
theorem LC:(Am.ny f p Γ).own g=Γ.own g:=ae2
theorem FW:(Am.ny f p Γ).hint g=Γ.hint g:=ae2
theorem Lx:(Am.ny f p Γ).ins g=Γ.ins g:=ae2
theorem Lw:(Am.ny f p Γ).grw g=Γ.grw g:=ae2
theorem LA:(Am.ny f p Γ).nst g=Γ.nst g:=ae2
end
section
variable {Γ:Env} {g d f:Nat} {p:List D->Option (Nat×Nat×Nat×Nat×Nat×List D)}
theorem Mm:(Am.xh f p Γ).nx.res g=if g=f then some p else Γ.nx.res g:=ae2
theorem Mj:(Am.xh f p Γ).nx.lnd g=Γ.nx.lnd g:=ae2
theorem Cy:(Am.xh f p Γ).lends g=Γ.lends g:=ae2
theorem Mn {l:Option (D×Row)} {acg:List D} : (Am.xh f p Γ).sem g l acg=Γ.sem g l acg:=ae2
theorem Ml:(Am.xh f p Γ).own g=Γ.own g:=ae2
theorem Gf:(Am.xh f p Γ).hint g=Γ.hint g:=ae2
theorem Mi:(Am.xh f p Γ).ins g=Γ.ins g:=ae2
theorem Mh:(Am.xh f p Γ).grw g=Γ.grw g:=ae2
theorem Mk:(Am.xh f p Γ).nst g=Γ.nst g:=ae2
end
section
variable {Γ:Env} {h:Nat->Option Row} {e x v o g:Nat} {rest:List D}
def N1 (Γ:Env) (e:Nat) (h:Nat->Option Row) (g x o:Nat) (rest:List D):Option (Row×Nat×Nat×Nat×List D)->Option bK
 | some (r,ty,s,nv,cs)=>Ba e x r ty s nv cs o (Γ.nx.lnd g) (bk (EH h) rest)
 | none=>none
theorem EI:pG Γ e h g (.ptr x v o::rest)=N1 Γ e h g x o rest (iN h x v):=by
 simp only[pG,N1]
 cases iN h x v<;>rfl
theorem y4 {r:Row} {ty s nv:Nat} {cs:List D} : N1 Γ e h g x o rest (some (r,ty,s,nv,cs))=Ba e x r ty s nv cs o (Γ.nx.lnd g) (bk (EH h) rest):=ae2
theorem yZ {r:Row} {ty s nv:Nat} {cs acg:List D} {p:Nat×(Nat->Nat->Nat->Nat->List D->List D->Option (D×List D))} : Ba e x r ty s nv cs o (some p) (some (acg,[]))=Hu x r ty s o p.1 (oD nv e) (p.2 r.ty ty s o cs acg):=ae2
theorem y3 {r:Row} {ty s nv' k:Nat} {d:D} {cs':List D} : Hu x r ty s o k (some nv') (some (d,cs'))=if ((cs'.drop o).take k).all (uX s)=true then some ⟨d,[(x,some ⟨r.v,r.ty,[.nr ty s nv' (pW k o cs')],false,r.lst,true⟩)]⟩ else none:=ae2
end
end Go.Proofs.Ytchndpjlijbplaa.Am
namespace Go.Proofs.Ytchndpjlijbplaa.P
open Go.RowKit
set_option linter.unusedSimpArgs false
set_option linter.unusedVariables false
def FU:Nat:=1000000000000000000000000
def m6 {σ ρ:Type} (body:σ->Option (σ⊕ρ)):Nat->σ->Option ρ
 | 0,_=>none
 | n+1,s =>
  match body s with
  | some (.inl s')=>m6 body n s'
  | some (.inr r)=>some r
  | none=>none
def ba {σ ρ:Type} (body:σ->Option (σ⊕ρ)) (s:σ):Option ρ:=m6 body FU s
theorem Vo {σ ρ:Type} {body:σ->Option (σ⊕ρ)} (I:σ->Prop) (μ:σ->Nat) (Q:ρ->Prop)
  (hstep:∀s,I s->(∃s',body s=some (.inl s')∧I s'∧μ s'<μ s)∨(∃r,body s=some (.inr r)∧Q r)):∀(n:Nat) (s:σ),I s->μ s<n->∃r,m6 body n s=some r∧Q r:=by
 intro n
 induction n with
 | zero=>intro s _ h;omega
 | succ n ih =>
  intro s hI hμ
  rcases hstep s hI with⟨s',h1,h2,h3⟩|⟨r,h1,h2⟩
  ·obtain⟨r,h4,h5⟩:=ih s' h2 (by omega)
   exact⟨r,by simp only[m6,h1];exact h4,h5⟩
  ·exact⟨r,by simp only[m6,h1],h2⟩
theorem xa {σ ρ:Type} {body:σ->Option (σ⊕ρ)} (I:σ->Prop) (μ:σ->Nat) (Q:ρ->Prop) {s:σ} (hI:I s) (hμ:μ s<FU)
  (hstep:∀s,I s->(∃s',body s=some (.inl s')∧I s'∧μ s'<μ s)∨(∃r,body s=some (.inr r)∧Q r)):∃r,ba body s=some r∧Q r:=Vo I μ Q hstep FU s hI hμ
def idx {α:Type} (l:List α) (i:Int):Option α:=if 0<=i∧i<l.length then l[i.toNat]? else none
def Al {α:Type} (l:List α) (a b:Int):Option (List α):=if 0<=a∧a<=b∧b<=l.length then some ((l.drop a.toNat).take (b.toNat-a.toNat)) else none
def D0 {α:Type} (bytes:Nat) (n c:Int) (z:α):Option (List α):=if 0<=n∧n<=c∧c<=maxLen∧c.toNat*bytes<=140737488355328 then some (List.replicate n.toNat z) else none
def km {α:Type} (bytes:Nat) (l m:List α):Option (List α):=if l.length+m.length<=maxLen∧(l.length+m.length)*bytes<=140737488355328 then some (l++m) else none
def Vm {α:Type} (bytes:Nat) (l:List α) (i:Int) (xs:List α):Option (List α):=if 0<=i∧i<=l.length∧0<xs.length∧(l.length+xs.length)*bytes<=140737488355328 then some (l.take i.toNat++(xs++l.drop i.toNat)) else none
def UF {α:Type} (l:List α) (i j:Int):Option (List α):=if 0<=i∧i<=j∧j<=l.length∧l.length<=maxLen then some (l.take i.toNat++l.drop j.toNat) else none
def ME {α:Type} (x:Bool×α):Option α:=if x.1=true then none else some x.2
def M8 {α:Type} (x:Bool×α):Option α:=if x.1=true then some x.2 else none
def FA {α:Type} (l:List α):List (Bool×α):=l.map fun x=>(false,x)
def Bm (k:IntKind) (x y:Int):Option Int:=if y=0 then none else some (k.wrap (x.tdiv y))
def Ig (_:IntKind) (x y:Int):Option Int:=if y=0 then none else some (x.tmod y)
def D8 (k:IntKind) (x y:Int):Option Int:=if y<0 then none else some (k.wrap (x*2 ^ (min y.toNat k.bits)))
def wc (k:IntKind) (x y:Int):Option Int:=if y<0 then none else some (x.fdiv (2 ^ (min y.toNat k.bits)))
def jR (op:BinOp) (k:IntKind) (x y:Int):Int :=
 let a:=BitVec.ofInt k.bits x
 let b:=BitVec.ofInt k.bits y
 match op with
 | .and=>k.wrap (a &&& b).toNat
 | .or=>k.wrap (a ||| b).toNat
 | .xor=>k.wrap (a ^^^ b).toNat
 | _=>k.wrap (a &&& ~~~b).toNat
def Xu {α:Type} : List (Int×α)->Int->Bool
 | [],_=>false
 | (k,_)::m,n=>k==n||Xu m n
theorem ah {α β:Type} {o:Option α} {f:α->Option β} {r:β} (h:o.bind f=some r):∃a,o=some a∧f a=some r:=by
 cases o with
 | none=>cases h
 | some a=>exact⟨a,rfl,h⟩
theorem aae {α:Type} {b:Bool} {x y r:α} (hb:b=true) (h:(if b=true then x else y)=r):x=r:=by rw[if_pos hb]at h;exact h
theorem aad {α:Type} {b:Bool} {x y r:α} (hb:b=false) (h:(if b=true then x else y)=r):y=r:=by rw[hb]at h;simpa using h
theorem ai {a b:Prop} (x:a) (y:b):a∧b:=⟨x,y⟩
theorem sp {α:Type} {b:Bool} {P1 P2 Q:Prop} {x y r:α} (k:(b=true->P1)->(b=false->P2)->Q) (h:(if b=true then x else y)=r) (h1:b=true->x=r->P1) (h2:b=false->y=r->P2):Q:=k (fun hb=>h1 hb (aae hb h)) fun hb=>h2 hb (aad hb h)
end Go.Proofs.Ytchndpjlijbplaa.P
namespace Go.Proofs.Ytchndpjlijbplaa.Am
open Go.RowKit Go.Proofs.Ytchndpjlijbplaa.P
set_option linter.unusedSimpArgs false
set_option linter.unusedVariables false
structure gY (α:Type) where
 cells:α->List D
 size:Nat
 len:∀x,(cells x).length=size
 pos:0<size
 inj:∀x y,cells x=cells y->x=y
def ae {α:Type} (e:gY α):List α->List D
 | []=>[]
 | x::l=>e.cells x++ae e l
section
variable {α β:Type} (e:gY α)
theorem wW:ae e []=[]:=rfl
theorem aJ (x:α) (l:List α):ae e (x::l)=e.cells x++ae e l:=rfl
theorem fh:∀l m:List α,ae e (l++m)=ae e l++ae e m
 | [],m=>rfl
 | x::l,m=>by rw[aed,aJ,aJ,fh l m,adC]
theorem bH:∀l:List α,(ae e l).length=l.length*e.size
 | []=>by simp[ae]
 | x::l=>by rw[aJ,adq,bH l,e.len,acN,adk];omega
theorem nE:∀(l:List α) (i:Nat),(ae e l).drop (i*e.size)=ae e (l.drop i)
 | l,0=>by simp
 | [],i+1=>by simp[ae]
 | x::l,i+1=>by
  rw[aJ,aee,<- nE l i,ad5,e.len,ad6 (by rw[e.len,adk];omega),ad3]
  congr 1
  rw[adk];omega
theorem dY:∀(l:List α) (i:Nat),(ae e l).take (i*e.size)=ae e (l.take i)
 | l,0=>by simp[ae]
 | [],i+1=>by simp[ae]
 | x::l,i+1=>by
  rw[aJ,aef,aJ,adF,e.len,adH (by rw[e.len,adk];omega),<- dY l i]
  congr 2
  rw[adk];omega
theorem sV:∀l m:List α,ae e l=ae e m->l=m
 | [],[],_=>rfl
 | [],y::m,h=>by
  have:=congrArg List.length h
  have hp:=e.pos
  rw[aJ,adq,e.len]at this
  simp[ae]at this
  omega
 | x::l,[],h=>by
  have:=congrArg List.length h
  have hp:=e.pos
  rw[aJ,adq,e.len]at this
  simp[ae]at this
  omega
 | x::l,y::m,h=>by
  rw[aJ,aJ]at h
  obtain⟨h1,h2⟩:=aeg h (by rw[e.len,e.len])
  rw[e.inj _ _ h1,sV l m h2]
theorem Kg:∀(n:Nat) (x:α),mc n (e.cells x)=ae e (List.replicate n x)
 | 0,x=>by simp[mc,ae]
 | n+1,x=>by rw[adi,aJ,<- Kg n x];simp[mc,List.replicate_succ]
end
def eI (k:IntKind):gY Int:=⟨fun n=>[.int k n],1,fun _=>rfl,by decide,fun x y h=>by simpa using h⟩
def zh:gY Bool:=⟨fun n=>[.bool n],1,fun _=>rfl,by decide,fun x y h=>by simpa using h⟩
def Z8:gY ByteArray:=⟨fun n=>[.str n],1,fun _=>rfl,by decide,fun x y h=>by simpa using h⟩
def NA {α:Type} (e:gY α):gY (List α):=⟨fun l=>[.sl false false l.length (ae e l)],1,fun _=>rfl,by decide,fun x y h=>by
 simp only[acL,D.sl.injEq,true_and,and_true]at h
 exact sV e _ _ h.2⟩
def wR {α β:Type} (e:gY α) (f:gY β):gY (α×β):=⟨fun x=>e.cells x.1++f.cells x.2,e.size+f.size,fun x=>by rw[adq,e.len,f.len],acp e.pos (Nat.le_add_right _ _),fun x y h=>by
 obtain⟨h1,h2⟩:=aeg h (by rw[e.len,e.len])
 exact Prod.ext (e.inj _ _ h1) (f.inj _ _ h2)⟩
def Kb {α β:Type} (e:gY β) (f:α->β) (hf:∀x y,f x=f y->x=y):gY α:=⟨fun x=>e.cells (f x),e.size,fun x=>e.len _,e.pos,fun x y h=>hf _ _ (e.inj _ _ h)⟩
structure Arg (α:Type) where
 d:α->D
 inj:∀x y,d x=d y->x=y
def aI (k:IntKind):Arg Int:=⟨fun n =>.int k n,fun x y h=>by simpa using h⟩
def ZZ:Arg Bool:=⟨fun n =>.bool n,fun x y h=>by simpa using h⟩
def mB {α:Type} (e:gY α):Arg (List α):=⟨fun l =>.sl false false l.length (ae e l),fun x y h=>by
 simp only[D.sl.injEq,true_and]at h
 exact sV e _ _ h.2⟩
def cW {α:Type} (e:gY α):Arg α:=⟨fun x =>.agg (e.cells x),fun x y h=>e.inj _ _ (by simpa using h)⟩
theorem BD (k:IntKind) (n:Int):(eI k).cells n=[.int k n]:=ae2
theorem zi (n:Bool):zh.cells n=[.bool n]:=ae2
theorem BG (n:ByteArray):Z8.cells n=[.str n]:=ae2
theorem yk {α:Type} (e:gY α) (l:List α):(NA e).cells l=[.sl false false l.length (ae e l)]:=ae2
structure kT (α:Type) where
 ds:α->List D
 inj:∀x y,ds x=ds y->x=y
def as0:kT Unit:=⟨fun _=>[],fun _ _ _=>rfl⟩
def fP {α:Type} (a:Arg α):kT α:=⟨fun x=>[a.d x],fun x y h=>a.inj _ _ (by simpa using h)⟩
def iQ {α β:Type} (a:Arg α) (b:kT β):kT (α×β):=⟨fun x=>a.d x.1::b.ds x.2,fun x y h=>by
 simp only[acL]at h
 exact Prod.ext (a.inj _ _ h.1) (b.inj _ _ h.2)⟩
noncomputable def gf {α β:Type} (A:kT α) (F:α->Option β) (R:β->RK):Option (D×Row)->List D->Option (RK×Option Row):=fun lent ds =>
 match lent with
 | none=>open Classical in if h:∃a,A.ds a=ds then (F (Classical.choose h)).map fun r=>(R r,none) else none
 | some _=>none
theorem aW {α β:Type} (A:kT α) (F:α->Option β) (R:β->RK) (a:α):gf A F R none (A.ds a)=(F a).map fun r=>(R r,none):=by
 have h:∃b,A.ds b=A.ds a:=⟨a,rfl⟩
 simp only[gf]
 rw[dif_pos h,A.inj _ _ (Classical.choose_spec h)]
theorem xd {α β:Type} {A:kT α} {F:α->Option β} {R:β->RK} {lent:Option (D×Row)} {ds:List D} {rk:RK} {out:Option Row} (h:gf A F R lent ds=some (rk,out)):lent=none∧out=none∧∃a r,ds=A.ds a∧F a=some r∧rk=R r:=by
 unfold gf at h
 split at h
 ·split at h
  ·rename_i he
   rw[acj]at h
   obtain⟨r,h1,h2⟩:=h
   simp only[Prod.mk.injEq]at h2
   obtain⟨rfl,rfl⟩:=h2
   exact⟨rfl,rfl,_,r,(Classical.choose_spec he).symm,h1,rfl⟩
  ·cases h
 ·cases h
structure bY (P:Program) (f:FuncId) (G:Option (D×Row)->List D->Option (RK×Option Row)):Prop where
 calls:∀lent acg rk out,G lent acg=some (rk,out)->nM P f lent acg rk out
 callable:dh P f
theorem bY.of {P:Program} {T:Nat->Option Ty} {Γ:Env} (hT:jn P T) (hΓ:bD P Γ) (hm:P.follows .mixedOrders=true) {α β:Type} {A:kT α} {F:α->Option β} {R:β->RK} {mode:Mode} {f:FuncId} {fn:Func} (hf:P.funcs[f]? = some fn) (hok:(match fn.body with|some c=>codeOk c|none=>true)=true)
  (hc:(fn.name == "runtime.NumGoroutine")=false∧fn.body.isNone=false) (hn:∀a,(A.ds a).length<=fn.ntmps) (h:∀a r,F a=some r->a8 mode T Γ FU fn none (A.ds a)=some (R r,none)):bY P f (gf A F R) where
 calls lent acg rk out hg:=by
  obtain⟨rfl,rfl,a,r,rfl,hr,rfl⟩:=xd hg
  exact kR hT hΓ hm hf hok (hn a) rfl (h a r hr)
 callable:=⟨fn,hf,hc⟩
theorem bD.add {P:Program} {Γ:Env} (hΓ:bD P Γ) {f:Nat} {G:Option (D×Row)->List D->Option (RK×Option Row)} (h:bY P f G) (l:Bool):bD P (Am.ext Γ f l G):=hΓ.ext h.calls h.callable
section
variable {T:Nat->Option Ty} {Γ:Env} {N e:Nat} {ws:List W} {Q:Kt} {t:Nat->D} {h:Nat->Option Row}
def LK {σ ρ:Type} (Rel:σ->(Nat->D)->(Nat->Option Row)->Nat->Prop) (RelX:ρ->Ex->(Nat->D)->(Nat->Option Row)->Nat->Prop) (c:σ⊕ρ):Kt:=fun x t h e =>
 match x with
 | .normal=>∃s',c=.inl s'∧Rel s' t h e
 | x=>∃o,c=.inr o∧RelX o x t h e
theorem jN {σ ρ:Type} {Rel:σ->(Nat->D)->(Nat->Option Row)->Nat->Prop} {RelX:ρ->Ex->(Nat->D)->(Nat->Option Row)->Nat->Prop} {s':σ} (k:Rel s' t h e):LK Rel RelX (.inl s') .normal t h e:=⟨s',rfl,k⟩
theorem kW {σ ρ:Type} {Rel:σ->(Nat->D)->(Nat->Option Row)->Nat->Prop} {RelX:ρ->Ex->(Nat->D)->(Nat->Option Row)->Nat->Prop} {o:ρ} {n:Nat} (k:RelX o (.exit n) t h e):LK Rel RelX (.inr o) (.exit n) t h e:=⟨o,rfl,k⟩
theorem DR {σ ρ:Type} {Rel:σ->(Nat->D)->(Nat->Option Row)->Nat->Prop} {RelX:ρ->Ex->(Nat->D)->(Nat->Option Row)->Nat->Prop} {o:ρ} (k:RelX o .ret t h e):LK Rel RelX (.inr o) .ret t h e:=⟨o,rfl,k⟩
theorem aB {σ ρ:Type} {body:σ->Option (σ⊕ρ)} {b:Code} (Rel:σ->(Nat->D)->(Nat->Option Row)->Nat->Prop) (RelX:ρ->Ex->(Nat->D)->(Nat->Option Row)->Nat->Prop) {s0:σ} {out:ρ} (hL:ba body s0=some out) (h0:Rel s0 t h e)
  (hstep:∀s t h e,Rel s t h e->∀c,body s=some c->cv T Γ N FU [.code b] (LK Rel RelX c) .normal t h e)
  (hexit:∀x t h e,RelX out x t h e->cv T Γ N FU ws Q x t h e):RI T Γ N FU b ws Q t h e:=by
 have key:∀(n:Nat) (s:σ) (t:Nat->D) (h:Nat->Option Row) (e:Nat),Rel s t h e->m6 body n s=some out->∃x s',iter (fL T Γ N FU b) n ⟨t,h,e⟩=some (x,s')∧cv T Γ N FU ws Q x s'.t s'.h s'.e:=by
  intro n
  induction n with
  | zero=>intro s t h e _ hi;cases hi
  | succ n ih =>
   intro s t h e hR hi
   simp only[m6]at hi
   cases hb:body s with
   | none=>rw[hb]at hi;cases hi
   | some c =>
    rw[hb]at hi
    obtain⟨x,s1,h1,h2⟩:=IQ _ _ _ _ _ (show IW T Γ N FU b t h e (LK Rel RelX c) from hstep s t h e hR c hb)
    simp only[iter,h1]
    cases x with
    | normal =>
     obtain⟨s',rfl,h4⟩:=h2
     exact ih s' s1.t s1.h s1.e h4 hi
    | exit m =>
     obtain⟨o,rfl,h4⟩:=h2
     simp only[acw]at hi
     subst hi
     exact⟨_,_,rfl,hexit _ _ _ _ h4⟩
    | ret =>
     obtain⟨o,rfl,h4⟩:=h2
     simp only[acw]at hi
     subst hi
     exact⟨_,_,rfl,hexit _ _ _ _ h4⟩
 exact key FU s0 t h e h0 hL
theorem xJ {d:D} {g:Nat} {A B A' B':(Nat->D)->Prop} (hk:PT d t g A B) (h1:∀t,A t->A' t) (h2:∀t,B t->B' t):PT d t g A' B':=by
 cases d with
 | bool b=>exact⟨fun hb=>h1 _ (hk.1 hb),fun hb=>h2 _ (hk.2 hb)⟩
 | _=>exact hk
theorem DA {d:D} {g:Nat} {A B S A' B' S':(Nat->D)->Prop} (hk:wpS d t g A B S) (h1:∀t,A t->A' t) (h2:∀t,B t->B' t) (h3:∀t,S t->S' t):wpS d t g A' B' S':=by
 unfold wpS at hk ⊢
 split at hk
 ·exact h3 _ hk
 ·exact xJ hk h1 h2
theorem CB {α:Type} {x:Option α} {K K':α->Prop} (hk:oh x K) (h1:∀a,K a->K' a):oh x K':=by
 cases x with
 | none=>exact hk
 | some a=>exact h1 a hk
theorem Ny {ops:List Oper} {gd:Option (Nat×Bool)} {A B A' B':(Nat->D)->Prop} (hk:WX ops t gd A B) (h1:∀t,A t->A' t) (h2:∀t,B t->B' t):WX ops t gd A' B':=by
 unfold WX at hk ⊢
 split
 ·exact h1 _ hk
 ·rename_i j want
  refine CB hk fun g hg=>DA hg ?_ ?_ h2
  ·intro t ht;cases want<;>simp_all
  ·intro t ht;cases want<;>simp_all
theorem xL {o:Oper} {K K':(Nat->D)->bK->Prop} (hk:PV T Γ e o t h K) (h1:∀t E,K t E->K' t E):PV T Γ e o t h K':=by
 unfold PV at hk ⊢
 split
 ·rename_i ho
  rw[ho]at hk
  exact xJ hk (fun _ h=>h1 _ _ h) (fun _ h=>h1 _ _ h)
 ·rename_i hne
  split at hk
  ·rename_i c a b ho;exact absurd ho (hne _ _ _)
  ·exact CB hk (fun _ h=>h1 _ _ h)
theorem uM {ops:List Oper} {K K':(Nat->D)->(Nat->Option Row)->Prop} (h1:∀t h,K t h->K' t h):∀(l:List Oper) (t:Nat->D) (h:Nat->Option Row),C8 T Γ N e ops l t h K->C8 T Γ N e ops l t h K'
 | [],t,h,hk=>h1 _ _ hk
 | o::l,t,h,hk=>by
  unfold C8 at hk ⊢
  exact⟨hk.1,Ny hk.2 (fun t ht=>xL ht fun t E hE=>uM h1 l _ _ hE) (fun t ht=>uM h1 l _ _ ht)⟩
theorem uJ {ops:List Oper} {K K':(Nat->D)->(Nat->Option Row)->List jL->Prop} (h1:∀t h fs,K t h fs->K' t h fs):∀(l:List Oper) (t:Nat->D) (h:Nat->Option Row) (fs:List jL),runK T Γ N e ops l t h fs K->runK T Γ N e ops l t h fs K'
 | [],t,h,fs,hk=>h1 _ _ _ hk
 | o::l,t,h,fs,hk=>by
  unfold runK at hk ⊢
  exact⟨hk.1,Ny hk.2 (fun t ht=>xL ht fun t E hE=>uJ h1 l _ _ _ hE) (fun t ht=>uJ h1 l _ _ _ ht)⟩
theorem WZ {ops:Array Oper} {draw:Bool} {K K':(Nat->D)->(Nat->Option Row)->Prop} (hk:wpR T Γ N ops draw t h e K) (h1:∀t h,K t h->K' t h):wpR T Γ N ops draw t h e K':=by
 unfold wpR at hk ⊢
 cases draw with
 | true=>exact uJ (fun t h fs hh=>⟨hh.1,h1 _ _ hh.2⟩) _ _ _ _ hk
 | false=>exact uM h1 _ _ _ hk
theorem TI {F:Nat} : ∀(c:Code) (t:Nat->D) (h:Nat->Option Row) (e:Nat) (K K':Kt),IW T Γ N F c t h e K->(∀x t h e,K x t h e->K' x t h e)->IW T Γ N F c t h e K':=by
 intro c
 induction c with
 | skip=>intro t h e K K' hk hm;exact hm _ _ _ _ hk
 | region i ops draw=>intro t h e K K' hk hm;exact WZ hk fun t h hh=>hm _ _ _ _ hh
 | seq a b iha ihb =>
  intro t h e K K' hk hm
  refine iha _ _ _ _ _ hk fun x t h e hx =>?_
  cases x with
  | normal=>exact ihb _ _ _ _ _ hx hm
  | exit n=>exact hm _ _ _ _ hx
  | ret=>exact hm _ _ _ _ hx
 | cond c x y ihx ihy =>
  intro t h e K K' hk hm
  unfold IW at hk ⊢
  cases c with
  | tmp g=>exact xJ hk (fun t ht=>ihx _ _ _ _ _ ht hm) (fun t ht=>ihy _ _ _ _ _ ht hm)
  | const v =>
   cases v with
   | bool b =>
    cases b with
    | true=>exact ihx _ _ _ _ _ hk hm
    | false=>exact ihy _ _ _ _ _ hk hm
   | _=>exact hk
  | _=>exact hk
 | block id b ih =>
  intro t h e K K' hk hm
  refine ih _ _ _ _ _ hk fun x t h e hx =>?_
  cases x with
  | normal=>exact hm _ _ _ _ hx
  | ret=>exact hm _ _ _ _ hx
  | exit n =>
   unfold Ui at hx ⊢
   simp only at hx ⊢
   split at hx
   ·rename_i hn;rw[if_pos hn];exact hm _ _ _ _ hx
   ·rename_i hn;rw[if_neg hn];exact hm _ _ _ _ hx
 | loop b ih =>
  intro t h e K K' hk hm
  obtain⟨x,s,h1,h2⟩:=hk
  exact⟨x,s,h1,hm _ _ _ _ h2⟩
 | exit id=>intro t h e K K' hk hm;exact hm _ _ _ _ hk
 | ret=>intro t h e K K' hk hm;exact hm _ _ _ _ hk
 | _=>intro t h e K K' hk;exact hk.elim
def CK {σ:Type} (J:σ->(Nat->D)->(Nat->Option Row)->Nat->Prop) (P:σ->Prop) (R:Kt):Kt:=fun x t h e =>
 match x with
 | .normal=>∃s,P s∧J s t h e
 | x=>R x t h e
theorem au {σ:Type} {J:σ->(Nat->D)->(Nat->Option Row)->Nat->Prop} {P:σ->Prop} {R:Kt} : CK J P R .normal t h e = ∃s,P s∧J s t h e:=ae2
end
section
variable {h:Nat->Option Row}
theorem EL {k:IntKind} {n:Int} : canon (.int k n)=.int k n:=ae2
theorem Bf {b:Bool} : canon (.bool b)=.bool b:=ae2
theorem EO {b:ByteArray} : canon (.str b)=.str b:=ae2
theorem Jq {a b:Bool} {n:Nat} {xs:List D} : canon (.sl a b n xs)=.sl false false n xs:=ae2
theorem Bc {k:IntKind} {n:Int} : fa (.int k n)=.int k n:=ae2
theorem y5 {b:Bool} : fa (.bool b)=.bool b:=ae2
theorem Be {b:ByteArray} : fa (.str b)=.str b:=ae2
theorem EK {a b:Bool} {n:Nat} {xs:List D} : fa (.sl a b n xs)=.sl false false n xs:=ae2
theorem Bb {xs:List D} : fa (.agg xs)=.agg (xs.map canon):=ae2
def Xg (x s o n:Nat):Option Row->Option (D×List Nat)
 | some r=>if o+n*s<=r.cells.length then some (.sl false false n ((r.cells.drop o).take (n*s)),[x]) else none
 | none=>none
theorem JB {x s o n:Nat} {r:Row} : Xg x s o n (some r)=if o+n*s<=r.cells.length then some (.sl false false n ((r.cells.drop o).take (n*s)),[x]) else none:=ae2
def ZV (x o:Nat):Option Row->Option (D×List Nat)
 | some r=>if o<=r.cells.length then some (.ip (r.cells.drop o),[x]) else none
 | none=>none
theorem JH {x o:Nat} {r:Row} : ZV x o (some r)=if o<=r.cells.length then some (.ip (r.cells.drop o),[x]) else none:=ae2
theorem Jx {k:IntKind} {n:Int} : bo h (.int k n)=some (.int k n,[]):=ae2
theorem ER {b:Bool} : bo h (.bool b)=some (.bool b,[]):=ae2
theorem JA {b:ByteArray} : bo h (.str b)=some (.str b,[]):=ae2
theorem QF {a b:Bool} {n:Nat} {xs:List D} : bo h (.sl a b n xs)=some (.sl false false n xs,[]):=ae2
theorem Jt {xs:List D} : bo h (.agg xs)=some (.agg (xs.map canon),[]):=ae2
theorem QC {xs:List D} : bo h (.ip xs)=some (.ip xs,[]):=ae2
theorem QB {f:Nat} : bo h (.fn f)=some (.fn f,[]):=ae2
theorem Jv {x v s o n:Nat} : bo h (.buf x v s o n)=Xg x s o n (live h x v):=by
 simp only[bo,aM,cM]
 cases live h x v with
 | none=>rfl
 | some r=>by_cases hc:o+n*s<=r.cells.length<;>simp[Xg,hc,canon]
theorem Jz {x v o:Nat} : bo h (.ptr x v o)=ZV x o (live h x v):=by
 simp only[bo,aM]
 cases live h x v with
 | none=>rfl
 | some r=>simp only[ZV]
theorem UD {k:IntKind} {n:Int} : dQ h (.int k n)=some ([.int k n],[]):=ae2
theorem QI {b:Bool} : dQ h (.bool b)=some ([.bool b],[]):=ae2
theorem UE {b:ByteArray} : dQ h (.str b)=some ([.str b],[]):=ae2
theorem Yj {a b:Bool} {n:Nat} {xs:List D} : dQ h (.sl a b n xs)=some ([.sl a b n xs],[]):=ae2
theorem UB {xs:List D} : dQ h (.agg xs)=some (xs,[]):=ae2
def cvB:Option (D×List Nat)->Option (List D×List Nat)
 | some (d,fr)=>some ([d],fr)
 | none=>none
theorem JP {d:D} {fr:List Nat} : cvB (some (d,fr))=some ([d],fr):=ae2
theorem UC {x v s o n:Nat} : dQ h (.buf x v s o n)=cvB (Xg x s o n (live h x v)):=by
 simp only[dQ,cM]
 cases live h x v with
 | none=>rfl
 | some r=>by_cases hc:o+n*s<=r.cells.length<;>simp[Xg,cvB,hc]
def clF (h:Nat->Option Row):Option (D×List Nat)->Option bK
 | some (d,fr)=>some ⟨d,ie h fr⟩
 | none=>none
theorem JD {d:D} {fr:List Nat} : clF h (some (d,fr))=some ⟨d,ie h fr⟩:=ae2
theorem Qd {x v s o n:Nat} : gG h (.buf x v s o n)=clF h (Xg x s o n (live h x v)):=by
 simp only[gG,nV,cM]
 cases live h x v with
 | none=>rfl
 | some r=>by_cases hc:o+n*s<=r.cells.length<;>simp[Xg,clF,hc,canon,fa]
variable {Γ:Env} {f g e:Nat} {l:Bool} {G:Option (D×Row)->List D->Option (RK×Option Row)} {lent:Option (D×Row)} {acg:List D} {dst:Option Nat} {fr:List Nat}
theorem Fw:(Am.ext Γ f l G).lends g=if g=f then l else Γ.lends g:=ae2
theorem Q4:(Am.ext Γ f l G).sem g lent acg=if g=f then G lent acg else Γ.sem g lent acg:=ae2
theorem Q3 {d:Nat} : (Am.ext Γ f l G).own d=Γ.own d:=ae2
theorem F9 {d:Nat} : a6.own d=true:=ae2
theorem Lf {d i:Nat} : (Am.keep d Γ).own i=(i != d&&Γ.own i):=ae2
theorem Cg {d i:Nat} : (Am.keep d Γ).lends i=Γ.lends i:=ae2
theorem Lg {d i:Nat} : (Am.keep d Γ).sem i lent acg=Γ.sem i lent acg:=ae2
def A2 (lends:Bool) (Γ:Env) (h:Nat->Option Row) (e:Nat) (dst:Option Nat) (g:Nat) (args:List D):Option bK :=
 if lends then
  match args with
  | .buf x v s o n::rest=>rN Γ h e dst g x v (.buf 0 0 s o n) rest
  | .ptr x v o::rest=>rN Γ h e dst g x v (.ptr 0 0 o) rest
  | _=>none
 else sF Γ h e dst g args
def Xf (p:Option (Nat×Nat×Nat)) (Γ:Env) (h:Nat->Option Row) (e:Nat) (dst:Option Nat) (g:Nat) (args:List D):Option bK :=
 match p with
 | some p=>rM h e dst p args
 | none =>
  match Γ.grw g with
  | some p=>rL h p args
  | none=>A2 (Γ.lends g) Γ h e dst g args
def Y7 (p:Option Grow) (Γ:Env) (h:Nat->Option Row) (e:Nat) (dst:Option Nat) (g:Nat) (args:List D):Option bK :=
 match p with
 | some p=>rL h p args
 | none=>A2 (Γ.lends g) Γ h e dst g args
theorem EC {args:List D} : Xf none Γ h e dst g args=Y7 (Γ.grw g) Γ h e dst g args:=ae2
theorem EA {args:List D} : Y7 none Γ h e dst g args=A2 (Γ.lends g) Γ h e dst g args:=ae2
theorem EB {p:Grow} {args:List D} : Y7 (some p) Γ h e dst g args=rL h p args:=ae2
theorem QZ {f:Nat} {l:Bool} {G:Option (D×Row)->List D->Option (RK×Option Row)} : (Am.ext Γ f l G).grw g=Γ.grw g:=ae2
theorem Lc {d:Nat} : (Am.keep d Γ).grw g=Γ.grw g:=ae2
theorem KW {d y:Nat} : (Am.vo d y Γ).grw g=Γ.grw g:=ae2
theorem K6 {f:Nat} {p:Nat×Nat×Nat} : (Am.yp f p Γ).grw g=Γ.grw g:=ae2
theorem F5:a6.grw g=none:=ae2
theorem KQ {f:Nat} {p:Grow} : (Am.B9 f p Γ).grw g=if g=f then some p else Γ.grw g:=ae2
theorem KR {f:Nat} {p:Grow} : (Am.B9 f p Γ).ins g=Γ.ins g:=ae2
theorem Ca {f:Nat} {p:Grow} : (Am.B9 f p Γ).lends g=Γ.lends g:=ae2
theorem KU {f:Nat} {p:Grow} {l:Option (D×Row)} {acg:List D} : (Am.B9 f p Γ).sem g l acg=Γ.sem g l acg:=ae2
theorem KT {f:Nat} {p:Grow} {d:Nat} : (Am.B9 f p Γ).own d=Γ.own d:=ae2
theorem FJ {f:Nat} {p:Grow} {d:Nat} : (Am.B9 f p Γ).hint d=Γ.hint d:=ae2
def lvP (v:Nat):Option Row->Option (Row×Nat×Nat×Nat)
 | some r=>if r.v=v∧r.mp=true then (match r.cells with | [.ph y s n]=>some (r,y,s,n)|_=>none) else none
 | none=>none
theorem Lv {x v:Nat} : kI h x v=lvP v (h x):=by
 unfold kI lvP
 cases h x<;>rfl
theorem LJ {v ty y s n:Nat} {fz lst:Bool} : lvP v (some ⟨v,ty,[.ph y s n],fz,lst,true⟩)=some (⟨v,ty,[.ph y s n],fz,lst,true⟩,y,s,n):=by simp[lvP]
def Ul (p:Grow) (y k:Nat) (rest:List D):Option (Row×Nat×Nat×Nat)->Option Row->Option bK
 | some (ry,k',s,n),some r =>
   if k'=k∧k=PK+y∧y<PK∧ry.fz=false∧r.mp=false∧r.fz=false∧r.lst=true∧s=p.k∧r.ty=p.ty∧r.cells.length=n*p.k∧(n+1)*p.bytes<=140737488355328 then
    match p.sem r.cells rest with
    | some cs=>some ⟨.int .i64 (n:Int),[(k,some ⟨r.v,p.ty,r.cells++cs,false,true,false⟩),(y,some ⟨ry.v,ry.ty,[.ph k p.k (n+1)],false,false,true⟩)]⟩
    | none=>none
   else none
 | _,_=>none
theorem Qt {p:Grow} {y v k:Nat} {rest:List D} : rL h p (.pm y v k::rest)=Ul p y k rest (kI h y v) (h k):=ae2
def Yi (k y v ty e' ty' k' n:Nat) (cells:List D):Option (List D)->Option bK
 | some cs=>some ⟨.int .i64 (n:Int),[(k,some ⟨e',ty',cells++cs,false,true,false⟩),(y,some ⟨v,ty,[.ph k k' (n+1)],false,false,true⟩)]⟩
 | none=>none
theorem A0 {ty' k' by_:Nat} {sem:List D->List D->Option (List D)} {y k:Nat} {rest:List D} {v ty s n e' tyr:Nat} {cells:List D} : Ul ⟨ty',k',by_,sem⟩ y k rest (some (⟨v,ty,[.ph k s n],false,false,true⟩,k,s,n)) (some ⟨e',tyr,cells,false,true,false⟩) =
  if k=1000000+y∧y<1000000∧s=k'∧tyr=ty'∧cells.length=n*k'∧(n+1)*by_<=140737488355328 then Yi k y v ty e' ty' k' n cells (sem cells rest) else none:=by
 simp only[Ul,PK,true_and]
 cases sem cells rest<;>rfl
theorem A1 {k y v ty e' ty' k' n:Nat} {cells cs:List D} : Yi k y v ty e' ty' k' n cells (some cs)=some ⟨.int .i64 (n:Int),[(k,some ⟨e',ty',cells++cs,false,true,false⟩),(y,some ⟨v,ty,[.ph k k' (n+1)],false,false,true⟩)]⟩:=ae2
theorem ED {p:Nat×Nat×Nat} {args:List D} : Xf (some p) Γ h e dst g args=rM h e dst p args:=ae2
theorem Q0 {f:Nat} {l:Bool} {G:Option (D×Row)->List D->Option (RK×Option Row)} : (Am.ext Γ f l G).ins g=Γ.ins g:=ae2
theorem Ld {d:Nat} : (Am.keep d Γ).ins g=Γ.ins g:=ae2
theorem KX {d y:Nat} : (Am.vo d y Γ).ins g=Γ.ins g:=ae2
theorem F6:a6.ins g=none:=ae2
theorem K7 {f:Nat} {p:Nat×Nat×Nat} : (Am.yp f p Γ).ins g=if g=f then some p else Γ.ins g:=ae2
theorem Cf {f:Nat} {p:Nat×Nat×Nat} : (Am.yp f p Γ).lends g=Γ.lends g:=ae2
theorem La {f:Nat} {p:Nat×Nat×Nat} {l:Option (D×Row)} {acg:List D} : (Am.yp f p Γ).sem g l acg=Γ.sem g l acg:=ae2
theorem K9 {f:Nat} {p:Nat×Nat×Nat} {d:Nat} : (Am.yp f p Γ).own d=Γ.own d:=ae2
theorem FN {f:Nat} {p:Nat×Nat×Nat} {d:Nat} : (Am.yp f p Γ).hint d=Γ.hint d:=ae2
def Um (ty k by_ x y s s' o o' n m:Nat) (i:Int) (e:Nat) (d:Nat):Option Row->Option Row->Option bK
 | some r,some r' =>
   if r.fz=false∧r'.fz=false∧r.lst=true∧r'.lst=true∧x≠y∧s=k∧s'=k∧r.ty=ty∧r'.ty=ty∧o=0∧o'=0∧r.cells.length=n*k∧r'.cells.length=m*k∧0<=i∧i<=n∧0<m∧(n+m)*by_<=140737488355328 then
    some ⟨.buf d e k 0 (n+m),[(y,none),(x,none),(d,some ⟨e,ty,r.cells.take (i.toNat*k)++(r'.cells++r.cells.drop (i.toNat*k)),false,true,false⟩)]⟩
   else none
 | _,_=>none
theorem Qu {ty k by_ x v s o n y v' s' o' m d:Nat} {i:Int} : rM h e (some d) (ty,k,by_) [.buf x v s o n,.int .i64 i,.buf y v' s' o' m]=Um ty k by_ x y s s' o o' n m i e d (live h x v) (live h y v'):=by
 simp only[rM,Um]
 cases live h x v with
 | none=>rfl
 | some r=>cases live h y v'<;>rfl
theorem A4 {ty k by_ x y s s' o o' n m : Nat} {i : Int} {d : Nat} {r r' : Row} : Um ty k by_ x y s s' o o' n m i e d (some r) (some r') = if r.fz = false ∧ r'.fz = false ∧ r.lst = true ∧ r'.lst = true ∧ x ≠ y ∧ s = k ∧ s' = k ∧ r.ty = ty ∧ r'.ty = ty ∧ o = 0 ∧ o' = 0 ∧ r.cells.length = n * k ∧ r'.cells.length = m * k ∧ 0 <= i ∧ i <= n ∧ 0 < m ∧ (n + m) * by_ <= 140737488355328 then
        some ⟨.buf d e k 0 (n + m), [(y, none), (x, none), (d, some ⟨e, ty, r.cells.take (i.toNat * k) ++ (r'.cells ++ r.cells.drop (i.toNat * k)), false, true, false⟩)]⟩
      else none := Eq.trans rfl rfl
theorem Qv {args:List D} : gA Γ h e dst (.fn g) args=Xf (Γ.ins g) Γ h e dst g args:=by
 simp only[gA,Xf,A2]
 cases Γ.ins g with
 | none=>cases Γ.grw g<;>rfl
 | some p=>rfl
def Su (h:Nat->Option Row) (e:Nat) (dst:Option Nat) (fr:List Nat):Option (RK×Option Row)->Option bK
 | some (.clean r,_)=>some ⟨r,if fJ r then [] else ie h fr⟩
 | some (.fresh ty s n cells,_) =>
  match dst with
  | some d=>if fr.contains d=false then some ⟨.buf d e s 0 n,(if n9 cells then [] else ie h fr)++[(d,some ⟨e,ty,cells,false,true,false⟩)]⟩ else none
  | none=>none
 | _=>none
def Uk (Γ:Env) (h:Nat->Option Row) (e:Nat) (dst:Option Nat) (g:Nat):Option (List D×List Nat)->Option bK
 | some (acg,fr)=>Su h e dst fr (Γ.sem g none acg)
 | none=>none
theorem yh {args:List D} : A2 false Γ h e dst g args=Uk Γ h e dst g (bk h args):=by
 simp only[A2,acX,if_false,sF,Uk]
 cases bk h args with
 | none=>rfl
 | some p =>
  obtain⟨acg,fr⟩:=p
  simp only
  cases hs:Γ.sem g none acg with
  | none=>rfl
  | some q =>
   obtain⟨rk,o⟩:=q
   cases rk<;>rfl
theorem Ez:Uk Γ h e dst g (some (acg,fr))=Su h e dst fr (Γ.sem g none acg):=ae2
def Va (h:Nat->Option Row) (fr:List Nat):Bool->List (Nat×Option Row)
 | true=>[]
 | false=>ie h fr
theorem FI:Va h fr true=[]:=ae2
theorem BZ:Va h fr false=ie h fr:=ae2
theorem Kx {b:Bool} : Va h [] b=[]:=by cases b<;>rfl
theorem A8 {r:D} {o:Option Row} : Su h e dst fr (some (.clean r,o))=some ⟨r,Va h fr (fJ r)⟩:=by
 simp only[Su]
 cases fJ r<;>rfl
theorem Q6:ie h []=[]:=ae2
theorem Ky {x:Nat} : ie h (x::fr)=(x,(h x).map pL)::ie h fr:=ae2
theorem Vd {v ty:Nat} {cells:List D} {lst mp:Bool} : pL ⟨v,ty,cells,true,lst,mp⟩=⟨v,ty,cells,true,lst,mp⟩:=ae2
theorem Vb {v ty:Nat} {cells:List D} {lst mp:Bool} : pL ⟨v,ty,cells,false,lst,mp⟩=⟨v,ty,cells,true,true,mp⟩:=ae2
theorem ES:bk h []=some ([],[]):=ae2
def caC (p:Option (D×List Nat)) (q:Option (List D×List Nat)):Option (List D×List Nat) :=
 match p,q with
 | some (d',fr),some (ds',fr')=>some (d'::ds',fr++fr')
 | _,_=>none
theorem Jc {d:D} {fr fr':List Nat} {ds:List D} : caC (some (d,fr)) (some (ds,fr'))=some (d::ds,fr++fr'):=ae2
theorem Bg {d:D} {ds:List D} : bk h (d::ds)=caC (bo h d) (bk h ds):=by
 simp only[bk]
 cases bo h d with
 | none=>rfl
 | some p=>cases bk h ds<;>rfl
variable {T:Nat->Option Ty} {s:St} {rs:List ResultVar} {r:ResultVar}
theorem MQ:tv T s []=some ([],[]):=ae2
theorem GH:tv T s (r::rs)=caC (MO T s r) (tv T s rs):=by
 simp only[tv]
 cases MO T s r with
 | none=>rfl
 | some p=>cases tv T s rs<;>rfl
theorem MP {t:Nat->D} {i:Nat} : MO T ⟨t,h,e⟩ (.tmp i)=bo h (t i):=ae2
def ZG (T:Nat->Option Ty) (h:Nat->Option Row) (d:D) (τ:Option Ty):Option (D×List Nat) :=
 match τ,d with
 | some τ,.ptr x v o=>match cY τ h (.ptr x v o) with|some E=>some (fa E.val,[])|none=>none
 | _,_=>none
theorem GF {t:Nat->D} {i ty:Nat} : MO T ⟨t,h,e⟩ (.cell i ty)=ZG T h (t i) (T ty):=ae2
def ZH:Option bK->Option (D×List Nat)
 | some E=>some (fa E.val,[])
 | none=>none
theorem GG {d:D} {w:List (Nat×Option Row)} : ZH (some ⟨d,w⟩)=some (fa d,[]):=ae2
theorem MN {τ:Ty} {x v o:Nat} : ZG T h (.ptr x v o) (some τ)=ZH (cY τ h (.ptr x v o)):=by
 simp only[ZG,ZH]
def Zi (p:Option (List D×List Nat)):Option (RK×Option Row) :=
 match p with
 | some (ds,_)=>some (.clean (me ds),none)
 | none=>none
theorem Fl {ds:List D} {fr:List Nat} : Zi (some (ds,fr))=some (.clean (me ds),none):=ae2
theorem BR:jv .clean T none rs s=Zi (tv T s rs):=by
 simp only[jv,sW,lu,XM,Zi]
 cases tv T s rs<;>rfl
theorem A9 {ty sz n d:Nat} {cells:List D} {o:Option Row} : Su h e (some d) fr (some (.fresh ty sz n cells,o))=if fr.contains d=false then some ⟨.buf d e sz 0 n,Va h fr (n9 cells)++[(d,some ⟨e,ty,cells,false,true,false⟩)]⟩ else none:=by
 simp only[Su]
 cases n9 cells<;>rfl
theorem ym {k:IntKind} : ∀l:List Int,n9 (ae (eI k) l)=true
 | []=>rfl
 | x::l=>by
  have:=ym (k:=k) l
  simp only[aJ,BD,List.cons_append,List.nil_append,n9,fJ,this,Bool.and_self]
theorem BS {ty sz i:Nat} {t:Nat->D} : jv (.fresh ty sz) T none [.tmp i] ⟨t,h,e⟩=l4 ty sz h (t i):=ae2
theorem BT {i:Nat} {t:Nat->D} : jv .tight T none [.tmp i] ⟨t,h,e⟩=ub (t i):=ae2
theorem U5 {nl tg:Bool} {n:Nat} {xs:List D} : ub (.sl nl tg n xs)=some (.clean (.sl nl tg n xs),none):=ae2
theorem QR {ty sz x v o n:Nat} : l4 ty sz h (.buf x v sz o n)=ua ty sz o n (live h x v):=by simp[l4]
theorem UZ {ty sz:Nat} {nl tg:Bool} {xs:List D} : l4 ty sz h (.sl nl tg 0 xs)=if tg=true then some (.fresh ty sz 0 [],none) else none:=ae2
theorem Kc {ty sz o n:Nat} {r:Row} : ua ty sz o n (some r)=if r.fz=false∧r.ty=ty∧o+n*sz<=r.cells.length then some (.fresh ty sz n ((r.cells.drop o).take (n*sz)),none) else none:=ae2
theorem C2 {d:D} : me [d]=d:=ae2
theorem C3 {d d':D} {ds:List D} : me (d::d'::ds)=.tup (d::d'::ds):=ae2
end
theorem Ar (k:IntKind):(eI k).size=1:=ae2
theorem qC:zh.size=1:=ae2
theorem tZ:Z8.size=1:=ae2
theorem wS {α:Type} (e:gY α):(NA e).size=1:=ae2
section
variable {α:Type} (E:gY α) {l m:List α} {x x' z:α} {i a b n c:Int} {B:Nat}
theorem od (h:P.idx l i=some x):0<=i∧i<l.length:=by
 unfold P.idx at h
 split at h
 ·assumption
 ·cases h
theorem HV (h:P.idx l i=some x):l[i.toNat]? = some x:=by
 unfold P.idx at h
 split at h
 ·exact h
 ·cases h
theorem w7 (h:P.idx l i=some x):(ae E l).drop (i.toNat*E.size)=E.cells x++ae E (l.drop (i.toNat+1)):=by
 have h':=HV h
 obtain⟨hi,rfl⟩:=acQ.1 h'
 rw[nE,aeh hi]
 rfl
theorem jb (fo:Nat) (h:P.idx l i=some x):(ae E l).drop (i.toNat*E.size+fo)=(E.cells x++ae E (l.drop (i.toNat+1))).drop fo:=by
 rw[<- ad8,w7 E h]
theorem jx (h:P.idx l i=some x):i.toNat*E.size+E.size<=l.length*E.size:=by
 have h':=od h
 have:i.toNat+1<=l.length:=by omega
 have:=ac9 E.size this
 rwa [adk]at this
theorem bG (h:P.idx l i=some x):(0<=i∧i<l.length)∧(ae E l).drop (i.toNat*E.size)=E.cells x++ae E (l.drop (i.toNat+1))∧i.toNat*E.size+E.size<=l.length*E.size:=⟨od h,w7 E h,jx E h⟩
theorem ig (fo s:Nat) (hs:fo+s<=E.size) (h:P.idx l i=some x):i.toNat*E.size+fo+s<=l.length*E.size:=by
 have:=jx E h
 omega
theorem Po:∀(l:List α) (i:Nat) (x:α),l[i]? = some x->∀x',ae E (l.set i x')=(ae E l).take (i*E.size)++E.cells x'++(ae E l).drop (i*E.size+E.size)
 | [],i,x,h,x'=>by simp at h
 | y::l,0,x,h,x'=>by
  rw[List.set_cons_zero,aJ,aJ,aea,aei,ad3,ada,ad5,E.len,ads,adI,ad6 (by rw[E.len];exact acm _),ad3]
 | y::l,i+1,x,h,x'=>by
  have ih:=Po l i x (by simpa using h) x'
  rw[List.set_cons_succ,aJ,aJ,ih,adk]
  have hy:=E.len y
  have e1:(E.cells y++ae E l).take (i*E.size+E.size)=E.cells y++(ae E l).take (i*E.size):=by rw[adF,hy,adH (by omega),ad7]
  have e2:(E.cells y++ae E l).drop (i*E.size+E.size+E.size)=(ae E l).drop (i*E.size+E.size):=by
   rw[ad5,hy,ad6 (by omega),ad3,ad7]
  rw[e1,e2]
  simp only[adC]
theorem eO (fo:Nat) (cs:List D) (h:P.idx l i=some x) (hc:E.cells x'=putCells (E.cells x) fo cs) (hfo:fo+cs.length<=E.size):putCells (ae E l) (i.toNat*E.size+fo) cs=ae E (l.set i.toNat x'):=by
 have h':=HV h
 rw[Po E l i.toNat x h' x',hc]
 have he:=w7 E h
 have hf:=jx E h
 have hl:=bH E l
 have hx:=E.len x
 have hsplit:ae E l=(ae E l).take (i.toNat*E.size)++(E.cells x++(ae E l).drop (i.toNat*E.size+E.size)):=by
  have h1:=ad9 (i.toNat*E.size) (ae E l)
  have h2:(ae E l).drop (i.toNat*E.size+E.size)=ae E (l.drop (i.toNat+1)):=by
   rw[<- ad8,he,ad5,hx,ads,adI,ad6 (by omega),ad3]
  rw[h2,<- he,h1]
 generalize (ae E l).drop (i.toNat*E.size+E.size)=r at *
 generalize ht:(ae E l).take (i.toNat*E.size)=p at *
 have hp:p.length=i.toNat*E.size:=by rw[<- ht];simp;omega
 unfold putCells
 rw[hsplit]
 have e1:(p++(E.cells x++r)).take (i.toNat*E.size+fo)=p++(E.cells x).take fo:=by
  rw[adF,hp,adH (by omega),adE,adG (by omega)]
 have e2:(p++(E.cells x++r)).drop (i.toNat*E.size+fo+cs.length)=(E.cells x).drop (fo+cs.length)++r:=by
  rw[acI,ad5,hp,ad6 (by omega),adE,ad3,adD (by omega)]
 rw[e1,e2]
 simp only[adC]
theorem VW (h:P.idx l i=some x):putCells (ae E l) (i.toNat*E.size) (E.cells x')=ae E (l.set i.toNat x'):=by
 have:=eO E (x':=x') 0 (E.cells x') h (by unfold putCells;simp[E.len]) (by rw[E.len];omega)
 simpa using this
theorem VF (h:D0 B n c z=some m):m=List.replicate n.toNat z∧0<=n∧n<=c∧c<=maxLen∧c.toNat*B<=140737488355328:=by
 unfold D0 at h
 split at h
 ·cases h;exact⟨rfl,by assumption⟩
 ·cases h
theorem mk_one (h:D0 B n n z=some m):0<=n∧n.toNat=m.length∧m.length<=maxLen∧mc m.length (E.cells z)=ae E m∧m.length*B<=140737488355328:=by
 obtain⟨rfl,h1,_,h3,h4⟩:=VF h
 refine⟨h1,by simp,by simp;omega,by rw[Kg];simp,by simpa using h4⟩
theorem yH (h:Al l a b=some m):0<=a∧0<=b∧a.toNat<=b.toNat∧b.toNat<=l.length∧b.toNat-a.toNat=m.length∧(List.take (m.length*E.size) (List.drop (a.toNat*E.size) (ae E l))=ae E m):=by
 unfold Al at h
 split at h
 ·rename_i hc
  cases h
  have hl:((l.drop a.toNat).take (b.toNat-a.toNat)).length=b.toNat-a.toNat:=by simp;omega
  refine⟨hc.1,by omega,by omega,by omega,hl.symm,?_⟩
  rw[hl,nE,dY]
 ·cases h
theorem ZL (h:Al l a b=some m):0<=a∧0<=b∧(a.toNat<=b.toNat∧b.toNat<=l.length)∧b.toNat-a.toNat=m.length∧(List.take (m.length*E.size) (List.drop (a.toNat*E.size) (ae E l))=ae E m):=by
 obtain⟨h1,h2,h3,h4,h5,h6⟩:=yH E h
 exact⟨h1,h2,⟨h3,h4⟩,h5,h6⟩
theorem V7 (h:Al l a (l.length:Int)=some m):0<=a∧0<=a∧a.toNat<=l.length∧l.length-a.toNat=m.length∧(List.take (m.length*E.size) (List.drop (a.toNat*E.size) (ae E l))=ae E m):=by
 obtain⟨h1,h2,h3,h4,h5,h6⟩:=yH E h
 simp only[Int.toNat_natCast]at h3 h5
 exact⟨h1,h1,h3,h5,h6⟩
theorem IE (h:Al l 0 b=some m):0<=b∧0<=b∧m.length<=l.length∧b.toNat=m.length∧(List.take (m.length*E.size) (ae E l)=ae E m):=by
 obtain⟨h1,h2,h3,h4,h5,h6⟩:=yH E h
 have h5':b.toNat=m.length:=by simpa using h5
 refine⟨h2,h2,by omega,h5',by simpa using h6⟩
theorem yd {n:List α} (h:km B l m=some n):n=l++m∧n.length<=maxLen∧n.length*B<=140737488355328:=by
 unfold km at h
 split at h
 ·rename_i hc
  cases h
  exact⟨rfl,by rw[adq];exact hc.1,by rw[adq];exact hc.2⟩
 ·cases h
theorem gz {n:List α} (h:km B l [x]=some n):l.length+1=n.length∧ae E l++E.cells x=ae E n∧n.length<=maxLen∧n.length*B<=140737488355328:=by
 obtain⟨rfl,h1,h2⟩:=yd h
 exact⟨by simp,by rw[fh];simp[ae],h1,h2⟩
theorem An {n:List α} (h:km B [] l=some n):n=l∧l.length<=maxLen∧l.length*B<=140737488355328:=by
 obtain⟨rfl,h1,h2⟩:=yd h
 exact⟨rfl,h1,h2⟩
theorem Xa {n:List α} (h:km B l m=some n):l.length+m.length=n.length∧ae E l++ae E m=ae E n∧n.length<=maxLen∧n.length*B<=140737488355328:=by
 obtain⟨rfl,h1,h2⟩:=yd h
 exact⟨by simp,by rw[fh],h1,h2⟩
end
theorem qB {k:IntKind} {x y z:Int} (h:Bm k x y=some z):¬y=0∧k.wrap (x.tdiv y)=z:=by
 unfold Bm at h
 split at h
 ·cases h
 ·cases h;exact⟨by assumption,rfl⟩
theorem xe {k:IntKind} {x y z:Int} (h:Ig k x y=some z):¬y=0∧x.tmod y=z:=by
 unfold Ig at h
 split at h
 ·cases h
 ·cases h;exact⟨by assumption,rfl⟩
theorem Ay {k:IntKind} {x y z:Int} (h:D8 k x y=some z):¬y<0∧k.wrap (x*2 ^ (min y.toNat k.bits))=z:=by
 unfold D8 at h
 split at h
 ·cases h
 ·cases h;exact⟨by assumption,rfl⟩
theorem rE {k:IntKind} {x y z:Int} (h:wc k x y=some z):¬y<0∧x.fdiv (2 ^ (min y.toNat k.bits))=z:=by
 unfold wc at h
 split at h
 ·cases h
 ·cases h;exact⟨by assumption,rfl⟩
theorem Qr (op:BinOp) (k:IntKind) (x y:Int):AX op k x y=jR op k x y:=ae2
theorem nM.emp {P:Program} {f:FuncId} {rk:RK} {out:Option Row} (h1:nM P f none [.sl true true 0 []] rk out) (h2:nM P f none [.sl true false 0 []] rk out):nM P f none [.sl false false 0 []] rk out:=by
 intro w M vs hM ha
 have hd:=ha.2 0 _ rfl
 generalize hu:vs.getD 0 undef=u at hd
 cases hd with
 | sl A c nl tight n xs us k1 k2 k3 k4 k5 k6 k7 k8 =>
  cases A with
  | none =>
   refine h1 w M vs hM ⟨ha.1,fun j d hj =>?_,ha.tab⟩
   cases j with
   | zero=>cases hj;rw[hu];exact .sl none c true true 0 [] us k1 k2 (fun _=>⟨fun _=>⟨rfl,(k4 rfl).2⟩,fun h=>by cases h⟩) k4 (fun _=>(k4 rfl).2) k6 k7 k8
   | succ j=>simp at hj
  | some A =>
   refine h2 w M vs hM ⟨ha.1,fun j d hj =>?_,ha.tab⟩
   cases j with
   | zero=>cases hj;rw[hu];exact .sl (some A) c true false 0 [] us k1 k2 (fun _=>⟨(fun h=>by cases h),fun _ h=>by cases h⟩) k4 (fun h=>by cases h) k6 k7 k8
   | succ j=>simp at hj
theorem bY.aaj {P:Program} {T:Nat->Option Ty} {Γ:Env} (hT:jn P T) (hΓ:bD P Γ) (hm:P.follows .mixedOrders=true) {α β:Type} {E:gY α} {F:List α->Option β} {R:β->RK} {mode:Mode} {f:FuncId} {fn:Func} (hf:P.funcs[f]? = some fn) (hok:(match fn.body with|some c=>codeOk c|none=>true)=true)
  (hc:(fn.name == "runtime.NumGoroutine")=false∧fn.body.isNone=false) (hn:1<=fn.ntmps)
  (h0:∀r,F []=some r->a8 mode T Γ FU fn none [.sl true true 0 []]=some (R r,none))
  (h1:∀r,F []=some r->a8 mode T Γ FU fn none [.sl true false 0 []]=some (R r,none))
  (h2:∀l r,0<l.length->F l=some r->a8 mode T Γ FU fn none [.sl false false l.length (ae E l)]=some (R r,none)):bY P f (gf (fP (mB E)) F R) where
 calls lent acg rk out hg:=by
  obtain⟨rfl,rfl,l,r,rfl,hr,rfl⟩:=xd hg
  cases l with
  | nil=>exact nM.emp (kR hT hΓ hm hf hok hn rfl (h0 r hr)) (kR hT hΓ hm hf hok hn rfl (h1 r hr))
  | cons x l=>exact kR hT hΓ hm hf hok hn rfl (h2 (x::l) r (by simp) hr)
 callable:=⟨fn,hf,hc⟩
theorem Xz {α:Type} (E:gY α) {B:Nat} {l n:List α} {i:Int} {x:α} (h:Vm B l i [x]=some n):0<=i∧i<=(l.length:Int)∧l.length+1=n.length∧n.length*B<=140737488355328 ∧
  (ae E l).take (i.toNat*E.size)++(E.cells x++(ae E l).drop (i.toNat*E.size))=ae E n:=by
 unfold Vm at h
 split at h
 ·rename_i hc
  cases h
  obtain⟨h1,h2,-,h4⟩:=hc
  have hl:l.length+1=(l.take i.toNat++([x]++l.drop i.toNat)).length:=by simp;omega
  refine⟨h1,h2,hl,by rw[<- hl];exact h4,?_⟩
  rw[fh,fh,dY,nE]
  simp[ae]
 ·cases h
theorem TZ {w:World} {M:Nat->Prop} {k:IntKind} {n:Int} {u:Value} (h:RP w M (.int k n) u):u=.int k n:=by cases h;rfl
theorem fk (b:Nat) {ty:Nat} {fr:Nat×Nat} : ∀(vs:List Value) (o:Nat) (w:World) (arr:Array Value),w.heap[b]? = some (.cells arr ty fr)->o+vs.length<=arr.size ->
  (w.setCells b o vs).os=w.os∧(w.setCells b o vs).tape=w.tape∧(w.setCells b o vs).output=w.output∧(w.setCells b o vs).heap.size=w.heap.size∧(∀k,k≠b->(w.setCells b o vs).heap[k]? = w.heap[k]?) ∧
  ∃arr',(w.setCells b o vs).heap[b]? = some (.cells arr' ty fr)∧arr'.size=arr.size∧∀j,arr'[j]? = if o<=j∧j<o+vs.length then vs[j-o]? else arr[j]?
 | [],o,w,arr,h,_=>⟨rfl,rfl,rfl,rfl,fun k _=>rfl,arr,h,rfl,fun j=>by rw[if_neg (by simp)]⟩
 | v::r,o,w,arr,h,hl=>by
  simp only[List.length_cons]at hl
  have h1:(w.setCell ⟨b,o,none⟩ v).heap[b]? = some (.cells (arr.setIfInBounds o v) ty fr):=by
   simp[World.setCell,acx,h]
  obtain⟨e1,e2,e3,e4,e5,arr',e6,e7,e8⟩:=fk b r (o+1) (w.setCell ⟨b,o,none⟩ v) _ h1 (by simp;omega)
  refine⟨e1,e2,e3,e4.trans (by simp[World.setCell]),fun k hk=>(e5 k hk).trans (by simp[World.setCell,acx,Ne.symm hk]),arr',e6,by simpa using e7,fun j =>?_⟩
  rw[e8 j,Array.getElem?_setIfInBounds]
  simp only[List.length_cons]
  by_cases h1:o+1<=j∧j<o+1+r.length
  ·rw[if_pos h1,if_pos (by omega)]
   have:j-o=(j-(o+1))+1:=by omega
   rw[this,adp]
  ·rw[if_neg h1]
   by_cases h2:o=j
   ·subst h2
    rw[if_pos rfl,if_pos (by omega),if_pos (by omega),ads]
    rfl
   ·rw[if_neg h2,if_neg (by omega)]
theorem vm1:type_of% (ai @Hr<|ai @AZ<|ai @GO<|ai @MV<|ai @MU<|ai @GM<|ai @C9<|ai @GN<|ai @bO<|ai @bI<|ai @rS<|ai @b6<|ai @vv<|ai @zR<|ai @Dc<|ai @GL<|ai @Hh<|ai @Dr<|ai @MS<|ai @GJ<|ai @C6<|ai @Hi<|ai @Dt<|ai @Du<|ai @zZ<|ai @MT<|ai @GK<|ai @C7<|ai @Hj<|ai @Dv<|ai @Dw<|ai @z6<|ai @Nf<|ai @Nn<|ai @RS<|ai @RY<|ai @CQ<|ai @zD<|ai @CR<|ai @zE<|ai @JW<|ai @J2<|ai @JV<|ai @J1<|ai @Bo<|ai @Br<|ai @EZ<|ai @E8<|ai @JX<|ai @J3<|ai @JT<|@JZ):=⟨@Hr,@AZ,@GO,@MV,@MU,@GM,@C9,@GN,@bO,@bI,@rS,@b6,@vv,@zR,@Dc,@GL,@Hh,@Dr,@MS,@GJ,@C6,@Hi,@Dt,@Du,@zZ,@MT,@GK,@C7,@Hj,@Dv,@Dw,@z6,@Nf,@Nn,@RS,@RY,@CQ,@zD,@CR,@zE,@JW,@J2,@JV,@J1,@Bo,@Br,@EZ,@E8,@JX,@J3,@JT,@JZ⟩
theorem vm2:type_of% (ai @E6<|ai @Ff<|ai @wN<|ai @wQ<|ai @u5<|ai @va<|ai @E2<|ai @Fa<|ai @u6<|ai @vd<|ai @E3<|ai @Fb<|ai @E4<|ai @Fc<|ai @E1<|ai @E9<|ai @sM<|ai @sN<|ai @u7<|ai @ve<|ai @EY<|ai @E7<|ai @QK<|ai @QL<|ai @y9<|ai @zd<|ai @za<|ai @ze<|ai @JS<|ai @JY<|ai @y8<|ai @zc<|ai @Mt<|ai @MD<|ai @Ev<|ai @yS<|ai @EV<|ai @Ko<|ai @BA<|ai @Bz<|ai @Cc<|ai @Cb<|ai @eJ<|ai @zn<|ai @eF<|ai @rh<|ai @Sf<|ai @I7<|ai @El<|ai @Ek<|ai @Gd<|@Fy):=⟨@E6,@Ff,@wN,@wQ,@u5,@va,@E2,@Fa,@u6,@vd,@E3,@Fb,@E4,@Fc,@E1,@E9,@sM,@sN,@u7,@ve,@EY,@E7,@QK,@QL,@y9,@zd,@za,@ze,@JS,@JY,@y8,@zc,@Mt,@MD,@Ev,@yS,@EV,@Ko,@BA,@Bz,@Cc,@Cb,@eJ,@zn,@eF,@rh,@Sf,@I7,@El,@Ek,@Gd,@Fy⟩
theorem vm3:type_of% (ai @Fz<|ai @zT<|ai @Dq<|ai @Dp<|ai @zY<|ai @tG<|ai @rU<|ai @zV<|ai @rV<|ai @zW<|ai @rW<|ai @zS<|ai @Hg<|ai @vx<|ai @vA<|ai @zU<|ai @pV<|ai @zX<|ai @Dn<|ai @vw<|ai @xE<|ai @Ru<|ai @Md<|ai @GD<|ai @GC<|ai @FQ<|ai @Qj<|ai @I8<|ai @Qn<|ai @Uf<|ai @Qm<|ai @Uc<|ai @Qh<|ai @Qo<|ai @Ub<|ai @Ao<|ai @Qp<|ai @Qi<|ai @Eo<|ai @AU<|ai @Ql<|ai @Ep<|ai @EL<|ai @Bf<|ai @EO<|ai @Jq<|ai @Bc<|ai @y5<|ai @Be<|ai @EK<|ai @Bb<|@JB):=⟨@Fz,@zT,@Dq,@Dp,@zY,@tG,@rU,@zV,@rV,@zW,@rW,@zS,@Hg,@vx,@vA,@zU,@pV,@zX,@Dn,@vw,@xE,@Ru,@Md,@GD,@GC,@FQ,@Qj,@I8,@Qn,@Uf,@Qm,@Uc,@Qh,@Qo,@Ub,@Ao,@Qp,@Qi,@Eo,@AU,@Ql,@Ep,@EL,@Bf,@EO,@Jq,@Bc,@y5,@Be,@EK,@Bb,@JB⟩
theorem vm4:type_of% (ai @JH<|ai @Jx<|ai @ER<|ai @JA<|ai @QF<|ai @Jt<|ai @QC<|ai @QB<|ai @Jv<|ai @Jz<|ai @UD<|ai @QI<|ai @UE<|ai @Yj<|ai @UB<|ai @UC<|ai @JP<|ai @Fw<|ai @Q4<|ai @Qv<|ai @yh<|ai @Ez<|ai @A8<|ai @FI<|ai @BZ<|ai @Kx<|ai @Q6<|ai @Ky<|ai @ES<|ai @Bg<|ai @Jc<|ai @MQ<|ai @GH<|ai @MP<|ai @GF<|ai @MN<|ai @GG<|ai @BR<|ai @Fl<|ai @A9<|ai @ym<|ai @BS<|ai @BT<|ai @U5<|ai @QR<|ai @UZ<|ai @Kc<|ai @C2<|ai @C3<|ai @Qr<|ai @wW<|@aJ):=⟨@JH,@Jx,@ER,@JA,@QF,@Jt,@QC,@QB,@Jv,@Jz,@UD,@QI,@UE,@Yj,@UB,@UC,@JP,@Fw,@Q4,@Qv,@yh,@Ez,@A8,@FI,@BZ,@Kx,@Q6,@Ky,@ES,@Bg,@Jc,@MQ,@GH,@MP,@GF,@MN,@GG,@BR,@Fl,@A9,@ym,@BS,@BT,@U5,@QR,@UZ,@Kc,@C2,@C3,@Qr,@wW,@aJ⟩
theorem vmk:type_of% (And.intro (@Ns)<|@Nt):=⟨@Ns,@Nt⟩
theorem vmc:type_of% (ai @true_and<|ai @and_true<|ai @acX<|ai @acs<|ai @adb<|ai @aee<|ai @adI<|ai @aef<|ai @aei<|ai @acN<|ai @acO<|ai @List.contains_nil.{0}<|ai @ad3<|ai @aed<|ai @aec<|ai @acM<|ai @adp<|ai @decide_true<|ai @decide_false<|ai @beq_self_eq_true.{0}<|ai @List.isEmpty_nil.{0}<|ai @List.isEmpty_cons.{0}<|ai @Option.map_none.{0,0}<|ai @acv<|ai @List.all_cons.{0}<|ai @List.all_nil.{0}<|ai @aej<|ai @Bool.and_true<|ai @adK<|ai @aek<|ai @Bool.and_self<|ai @adJ<|ai @ael<|ai @and_self<|ai @ada<|ai @acW<|ai @aea<|ai @Nat.sub_zero<|ai @acn<|ai @acm<|ai @acw<|ai @Nat.le_zero_eq<|ai @Nat.one_ne_zero<|ai @Bool.or_self<|ai @Bool.or_true<|ai @Bool.true_or<|ai @Bool.or_false<|ai @Bool.false_or<|@aem):=⟨@true_and,@and_true,@acX,@acs,@adb,@aee,@adI,@aef,@aei,@acN,@acO,@List.contains_nil.{0},@ad3,@aed,@aec,@acM,@adp,@decide_true,@decide_false,@beq_self_eq_true.{0},@List.isEmpty_nil.{0},@List.isEmpty_cons.{0},@Option.map_none.{0,0},@acv,@List.all_cons.{0},@List.all_nil.{0},@aej,@Bool.and_true,@adK,@aek,@Bool.and_self,@adJ,@ael,@and_self,@ada,@acW,@aea,@Nat.sub_zero,@acn,@acm,@acw,@Nat.le_zero_eq,@Nat.one_ne_zero,@Bool.or_self,@Bool.or_true,@Bool.true_or,@Bool.or_false,@Bool.false_or,@aem⟩
theorem vm5:type_of% (ai @Db<|ai @Da<|ai @Yh<|ai @Er<|ai @AV<|ai @Qe<|ai @I2<|ai @Qf<|ai @T3<|ai @Qc<|ai @Qd<|ai @JD<|ai @Q3<|ai @F9<|ai @Lf<|ai @Cg<|@Lg):=⟨@Db,@Da,@Yh,@Er,@AV,@Qe,@I2,@Qf,@T3,@Qc,@Qd,@JD,@Q3,@F9,@Lf,@Cg,@Lg⟩
theorem vmu:type_of% (ai @vV.eq_1<|ai @vV.eq_2<|ai @ev.eq_1<|ai @ev.eq_2<|ai @ev.eq_3<|ai @ev.eq_4<|ai @mY.eq_1<|ai @mY.eq_2<|ai @mY.eq_3<|ai @mY.eq_4<|ai @mY.eq_5<|ai @mY.eq_6<|ai @dN.eq_1<|ai @dN.eq_2<|ai @yg.eq_1<|ai @yg.eq_2<|ai @yg.eq_3<|ai @kc.eq_1<|ai @kc.eq_2<|ai @kc.eq_3<|ai @fc.eq_1<|ai @fc.eq_2<|ai @fc.eq_3<|ai @fc.eq_4<|ai @fc.eq_5<|ai @fc.eq_6<|ai @fc.eq_7<|ai @fc.eq_8<|ai @fc.eq_9<|ai @fc.eq_10<|ai @fc.eq_11<|ai @fc.eq_12<|ai @fc.eq_13<|ai @fc.eq_14<|ai @fc.eq_15<|ai @fc.eq_16<|ai @Eb.eq_1<|ai @Eb.eq_2<|ai @Eb.eq_3<|ai @Eb.eq_4<|ai @Eb.eq_5<|ai @Eb.eq_6<|ai @XJ.eq_1<|ai @aG.eq_1<|ai @aG.eq_2<|ai @dk.eq_1<|ai @dk.eq_2<|ai @dk.eq_3<|ai @cY.eq_1<|ai @cY.eq_2<|ai @cY.eq_3<|ai @live.eq_1<|ai @lx.eq_1<|ai @lx.eq_2<|ai @Ds.oe.eq_1<|ai @Ds.oe.eq_2<|ai @Ds.oe.eq_3<|ai @b7.eq_1<|ai @b7.eq_2<|ai @b7.eq_3<|ai @b7.eq_4<|ai @b7.eq_5<|ai @b7.eq_6<|ai @fJ.eq_1<|ai @fJ.eq_2<|ai @fJ.eq_3<|ai @fJ.eq_4<|ai @fJ.eq_5<|ai @fJ.eq_6<|ai @n9.eq_1<|ai @n9.eq_2<|ai @w9.eq_1<|ai @w9.eq_2<|ai @w9.eq_3<|ai @w9.eq_4<|ai @alive.eq_1<|ai @alive.eq_2<|ai @alive.eq_3<|ai @nm.eq_1<|ai @nm.eq_2<|ai @gB.eq_1<|ai @gB.eq_2<|ai @gB.eq_3<|ai @gB.eq_4<|ai @gB.eq_5<|ai @gB.eq_6<|ai @cu.eq_1<|ai @cu.eq_2<|ai @o0.eq_1<|ai @iX.eq_1<|ai @iX.eq_2<|ai @iX.eq_3<|ai @lk.eq_1<|ai @lk.eq_2<|ai @Gm.eq_1<|ai @bx.eq_1<|ai @bx.eq_2<|ai @bx.eq_3<|ai @bx.eq_4<|ai @fv.eq_1<|ai @fv.eq_2<|ai @fv.eq_3<|ai @cm.eq_1<|ai @cm.eq_2<|ai @cm.eq_3<|ai @cm.eq_4<|ai @cm.eq_5<|ai @cm.eq_6<|ai @eg.eq_1<|ai @gQ.eq_1<|ai @gQ.eq_2<|ai @fieldAt.eq_1<|ai @dj.eq_1<|ai @oO.eq_1<|ai @ir.eq_1<|ai @content.eq_1<|ai @content.eq_2<|ai @content.eq_3<|ai @putCells.eq_1<|ai @TL.eq_1<|ai @TL.eq_2<|ai @TL.eq_3<|ai @TL.eq_4<|ai @Og.eq_1<|ai @Og.eq_2<|ai @Og.eq_3<|ai @Og.eq_4<|ai @SJ.eq_1<|ai @SJ.eq_2<|ai @SJ.eq_3<|ai @eS.eq_1<|ai @eS.eq_2<|ai @eS.eq_3<|ai @kindOk.eq_1<|ai @kindOk.eq_2<|ai @kindOk.eq_3<|ai @kindOk.eq_4<|ai @j2.eq_1<|ai @j2.eq_2<|ai @j2.eq_3<|ai @j2.eq_4<|ai @mS.eq_1<|ai @mS.eq_2<|ai @mS.eq_3<|ai @mS.eq_4<|ai @mS.eq_5<|ai @mS.eq_6<|ai @mS.eq_7<|ai @mS.eq_8<|ai @rD.eq_1<|ai @rD.eq_2<|ai @rD.eq_3<|ai @aT.eq_1<|ai @aT.eq_2<|ai @aT.eq_3<|ai @aT.eq_4<|ai @aT.eq_5<|ai @aT.eq_6<|ai @aT.eq_7<|ai @mN.eq_1<|ai @mN.eq_2<|ai @sD.eq_1<|ai @sD.eq_2<|ai @sD.eq_3<|@sD.eq_4):=⟨@vV.eq_1,@vV.eq_2,@ev.eq_1,@ev.eq_2,@ev.eq_3,@ev.eq_4,@mY.eq_1,@mY.eq_2,@mY.eq_3,@mY.eq_4,@mY.eq_5,@mY.eq_6,@dN.eq_1,@dN.eq_2,@yg.eq_1,@yg.eq_2,@yg.eq_3,@kc.eq_1,@kc.eq_2,@kc.eq_3,@fc.eq_1,@fc.eq_2,@fc.eq_3,@fc.eq_4,@fc.eq_5,@fc.eq_6,@fc.eq_7,@fc.eq_8,@fc.eq_9,@fc.eq_10,@fc.eq_11,@fc.eq_12,@fc.eq_13,@fc.eq_14,@fc.eq_15,@fc.eq_16,@Eb.eq_1,@Eb.eq_2,@Eb.eq_3,@Eb.eq_4,@Eb.eq_5,@Eb.eq_6,@XJ.eq_1,@aG.eq_1,@aG.eq_2,@dk.eq_1,@dk.eq_2,@dk.eq_3,@cY.eq_1,@cY.eq_2,@cY.eq_3,@live.eq_1,@lx.eq_1,@lx.eq_2,@Ds.oe.eq_1,@Ds.oe.eq_2,@Ds.oe.eq_3,@b7.eq_1,@b7.eq_2,@b7.eq_3,@b7.eq_4,@b7.eq_5,@b7.eq_6,@fJ.eq_1,@fJ.eq_2,@fJ.eq_3,@fJ.eq_4,@fJ.eq_5,@fJ.eq_6,@n9.eq_1,@n9.eq_2,@w9.eq_1,@w9.eq_2,@w9.eq_3,@w9.eq_4,@alive.eq_1,@alive.eq_2,@alive.eq_3,@nm.eq_1,@nm.eq_2,@gB.eq_1,@gB.eq_2,@gB.eq_3,@gB.eq_4,@gB.eq_5,@gB.eq_6,@cu.eq_1,@cu.eq_2,@o0.eq_1,@iX.eq_1,@iX.eq_2,@iX.eq_3,@lk.eq_1,@lk.eq_2,@Gm.eq_1,@bx.eq_1,@bx.eq_2,@bx.eq_3,@bx.eq_4,@fv.eq_1,@fv.eq_2,@fv.eq_3,@cm.eq_1,@cm.eq_2,@cm.eq_3,@cm.eq_4,@cm.eq_5,@cm.eq_6,@eg.eq_1,@gQ.eq_1,@gQ.eq_2,@fieldAt.eq_1,@dj.eq_1,@oO.eq_1,@ir.eq_1,@content.eq_1,@content.eq_2,@content.eq_3,@putCells.eq_1,@TL.eq_1,@TL.eq_2,@TL.eq_3,@TL.eq_4,@Og.eq_1,@Og.eq_2,@Og.eq_3,@Og.eq_4,@SJ.eq_1,@SJ.eq_2,@SJ.eq_3,@eS.eq_1,@eS.eq_2,@eS.eq_3,@kindOk.eq_1,@kindOk.eq_2,@kindOk.eq_3,@kindOk.eq_4,@j2.eq_1,@j2.eq_2,@j2.eq_3,@j2.eq_4,@mS.eq_1,@mS.eq_2,@mS.eq_3,@mS.eq_4,@mS.eq_5,@mS.eq_6,@mS.eq_7,@mS.eq_8,@rD.eq_1,@rD.eq_2,@rD.eq_3,@aT.eq_1,@aT.eq_2,@aT.eq_3,@aT.eq_4,@aT.eq_5,@aT.eq_6,@aT.eq_7,@mN.eq_1,@mN.eq_2,@sD.eq_1,@sD.eq_2,@sD.eq_3,@sD.eq_4⟩
theorem aa1:type_of% (ai @EC<|ai @EA<|ai @EB<|ai @QZ<|ai @Lc<|ai @KW<|ai @K6<|ai @F5<|ai @KQ<|ai @KR<|ai @Ca<|ai @KU<|ai @KT<|ai @FJ<|ai @Lv<|ai @LJ<|ai @Qt<|ai @A0<|ai @A1<|ai @ED<|ai @Q0<|ai @Ld<|ai @KX<|ai @F6<|ai @K7<|ai @Cf<|ai @La<|ai @K9<|ai @FN<|ai @Qu<|@A4):=⟨@EC,@EA,@EB,@QZ,@Lc,@KW,@K6,@F5,@KQ,@KR,@Ca,@KU,@KT,@FJ,@Lv,@LJ,@Qt,@A0,@A1,@ED,@Q0,@Ld,@KX,@F6,@K7,@Cf,@La,@K9,@FN,@Qu,@A4⟩
end Go.Proofs.Ytchndpjlijbplaa.Am
