/- Part of a proof, made small by a program (wip/mini.py). -/
import Derived.Test.YtchndpjlijbplaaJb
namespace Go.Proofs.Ytchndpjlijbplaa.Am
open Go.RowKit
set_option linter.unusedSimpArgs false
set_option linter.unusedVariables false
def gK (vs:Operand->D):Op->Option (D×List D)
 | .call c=>match c.callee with | .value f=>some (vs f,c.args.toList.map vs)|_=>none
 | _=>none
theorem m7 {vs:Operand->D} {op:Op} {q:D} {args:List D} (hc:gK vs op=some (q,args)):∃c f,op=.call c∧c.callee=.value f∧q=vs f∧args=c.args.toList.map vs:=by
 unfold gK at hc
 split at hc<;>try (cases hc;done)
 rename_i c
 split at hc<;>try (cases hc;done)
 rename_i f hf
 simp only[adJ,Prod.mk.injEq]at hc
 exact⟨c,f,rfl,hf,hc.1.symm,hc.2.symm⟩
def Ad (Γ:Env) (e:Nat) (h:Nat->Option Row):Option (D×List D)->Option bP
 | some (.fn g,args)=>qC Γ e h g args
 | _=>none
def Cy (e d:Nat) (h:Nat->Option Row) (args:List D):Option (List D->Option (Nat×Nat×Nat×Nat×Nat×List D))->Option bP
 | some p=>FL p e d (bl (EH h) args)
 | none=>none
def mi (Γ:Env) (e:Nat) (h:Nat->Option Row):Option Nat->Option (D×List D)->Option bP
 | some d,some (.fn g,args)=>Cy e d h args (Γ.nx.res g)
 | _,_=>none
def tV (T:Nat->Option Ty) (Γ:Env) (e:Nat) (o:Oper) (vs:Operand->D) (h:Nat->Option Row):Option bP :=
 match o.op with
 | .load ty p=>match T ty with|some τ=>nH τ h (vs p)|none=>none
 | .store ty p x=>match T ty with|some τ=>lK τ e h (vs p) (vs x)|none=>none
 | .call c=>Ad Γ e h (gK vs (.call c))
 | _=>none
def X9 (h:Nat->Option Row):Option bP->Option bP->Option bP
 | some ⟨v,hw⟩,_=>some ⟨v,j5 h hw⟩
 | none,y=>y
def pC (T:Nat->Option Ty) (Γ:Env) (e:Nat) (o:Oper) (vs:Operand->D) (h:Nat->Option Row):Option bP :=
 match jc T Γ e o vs with
 | some E=>some E
 | none =>
  match mi Γ e h o.dst (gK vs o.op) with
  | some E=>some E
  | none=>X9 h (mh T Γ e o vs (EH h)) (tV T Γ e o vs h)
def bj (o:Oper) (vs:Operand->D):List Nat:=(gS o vs).map rt
def VE (N e:Nat) (done:List Nat) (h:Nat->Option Row) (x v:Nat):Prop:=(x<N∧(v<e∨(v=e∧x∈done))) ∨
 (2*PK<=x∧v<=4*e+3∧(x % PK∉done->v<=4*e+1)∧∀r ty s nv cs,h (x % PK)=some r->r.mp=true->r.cells=[.nr ty s nv cs]->v<=nv)
def EE (e:Nat) (done:List Nat) (h:Nat->Option Row):Prop:=∀x r ty s nv cs,h x=some r->r.mp=true->r.cells=[.nr ty s nv cs]->x<PK->nv<=4*e+3∧(x∉done->nv<=4*e+1)
def mf (e:Nat) (h h':Nat->Option Row):Prop:=∀x r' ty' s' nv' cs',h' x=some r'->r'.mp=true->r'.cells=[.nr ty' s' nv' cs']->x<PK->∃r ty s nv cs,h x=some r∧r.mp=true∧r.cells=[.nr ty s nv cs]∧(nv'=nv∨pB nv e=some nv')
theorem mf.refl (e:Nat) (h:Nat->Option Row):mf e h h:=fun x r ty s nv cs hx hm hc _=>⟨r,ty,s,nv,cs,hx,hm,hc,.inl rfl⟩
theorem ID {nv e nv':Nat} (h:pB nv e=some nv'):nv<nv'∧(nv'=4*e+1∨(nv=4*e+2∧nv'=4*e+3)):=by
 unfold pB at h
 split at h
 ·cases h;omega
 ·split at h
  ·cases h;omega
  ·cases h
theorem EE.step {e:Nat} {done done':List Nat} {h h':Nat->Option Row} (hN:EE e done h) (hr:mf e h h') (hd:∀x,x∈done->x∈done'):EE e done' h':=by
 intro x r' ty' s' nv' cs' hx hm hc hp
 obtain⟨r,ty,s,nv,cs,k1,k2,k3,k4⟩:=hr x r' ty' s' nv' cs' hx hm hc hp
 obtain⟨q1,q2⟩:=hN x r ty s nv cs k1 k2 k3 hp
 rcases k4 with rfl|k4
 ·exact⟨q1,fun hn=>q2 fun h=>hn (hd x h)⟩
 ·obtain⟨b1,b2⟩:=ID k4
  refine⟨by omega,fun hn =>?_⟩
  rcases b2 with b2|⟨b2,b3⟩
  ·omega
  ·have:=q2 fun h=>hn (hd x h)
   omega
theorem VE.step {N e:Nat} {done done':List Nat} {h h':Nat->Option Row} (hr:mf e h h') (hd:∀x,x∈done->x∈done') {x v:Nat} (hv:VE N e done h x v):VE N e done' h' x v:=by
 rcases hv with⟨h1,h2⟩|⟨h1,h2,h3,h4⟩
 ·exact .inl ⟨h1,h2.imp id fun⟨q1,q2⟩=>⟨q1,hd x q2⟩⟩
 ·refine .inr ⟨h1,h2,fun hn=>h3 fun h=>hn (hd _ h),fun r' ty' s' nv' cs' k1 k2 k3 =>?_⟩
  obtain⟨r,ty,s,nv,cs,q1,q2,q3,q4⟩:=hr _ r' ty' s' nv' cs' k1 k2 k3 (Ha _)
  have:=h4 r ty s nv cs q1 q2 q3
  rcases q4 with rfl|q4
  ·exact this
  ·have:=(ID q4).1
   omega
theorem EE.abn {N e:Nat} {done:List Nat} {h:Nat->Option Row} (hN:EE e done h):VNr (VE N e done h) h:=by
 intro x r ty s nv cs hx hm hc hp o
 obtain⟨q1,q2⟩:=hN x r ty s nv cs hx hm hc hp
 refine .inr ⟨fY x o,q1,by rw[rq o hp];exact q2,fun r' ty' s' nv' cs' k1 k2 k3 =>?_⟩
 rw[rq o hp,hx]at k1
 cases k1
 rw[hc]at k3
 cases k3
 exact adA _
theorem EE.new {N e:Nat} {done:List Nat} {h:Nat->Option Row} (hN:EE e done h) (hb:N<=PK):aab (VE N e done h) h e:=by
 intro x r ty s nv cs nv' hx hm hc hp hbm o hv
 have hge:=fY x o
 have:=cU
 rcases hv with⟨h1,_⟩|⟨_,_,_,h4⟩
 ·omega
 ·have h5:=h4 r ty s nv cs (by rw[rq o hp];exact hx) hm hc
  have h6:=(ID hbm).1
  omega
theorem LI (e:Nat):∀(l:List (Nat×Option Row)) (h:Nat->Option Row),mf e h (aJ h (j5 h l))
 | [],h =>.refl e h
 | (k,r)::l,h=>by
  intro x r' ty' s' nv' cs' hx hm hc hp
  obtain⟨r1,ty1,s1,nv1,cs1,k1,k2,k3,k4⟩:=LI e l (cc h (rt k) (yp h k r)) x r' ty' s' nv' cs' hx hm hc hp
  by_cases hxk:x=rt k
  rotate_left
  ·rw[aA _ _ hxk]at k1
   exact⟨r1,ty1,s1,nv1,cs1,k1,k2,k3,k4⟩
  ·rw[hxk,ax]at k1
   unfold yp at k1
   split at k1
   ·exfalso
    obtain⟨_,h2,_⟩:=zj (o:=0) k1
    unfold Dn at k1
    split at k1
    ·split at k1
     ·split at k1
      ·cases k1
      ·rename_i hne
       simp only[adJ]at k1
       subst k1
       exact hne _ _ _ _ k3
     ·rename_i hmp
      simp only[adJ]at k1
      subst k1
      exact hmp k2
    ·cases k1
   ·rename_i hk2
    have hrt:rt k=k % PK:=by unfold rt;rw[if_neg hk2]
    rw[ady]at k1
    obtain⟨q,q1,q2⟩:=k1
    unfold DQ at q2
    split at q2
    ·rename_i hqm
     split at q2
     ·rename_i ty s nv cs hqc
      subst q2
      simp only at k3
      refine⟨q,ty,s,nv,cs,by rw[hxk,hrt];exact q1,hqm,hqc,?_⟩
      unfold zq at k3
      split at k3<;>(simp only[adY,D.nr.injEq,and_true]at k3;obtain⟨rfl,rfl,rfl,_⟩:=k3;exact k4)
     ·subst q2
      exact⟨q,ty1,s1,nv1,cs1,by rw[hxk,hrt];exact q1,k2,k3,k4⟩
    ·subst q2
     exact⟨q,ty1,s1,nv1,cs1,by rw[hxk,hrt];exact q1,k2,k3,k4⟩
section
variable {P:Program} {T:Nat->Option Ty} {N:Nat} {M:Nat->Prop} {L:j9} {w0:World} {blk:Nat->Option (Nat×Nat)} {t:Nat->D} {h h':Nat->Option Row} {a:Act} {w:World} {e:Nat} {o:Oper} {Γ:Env} {done:List Nat}
theorem mf.set {x:Nat} {r r':Row} {ty s nv nv' ty' s':Nat} {cs cs':List D} (hx:h x=some r) (hm:r.mp=true) (hc:r.cells=[.nr ty s nv cs]) (hc':r'.cells=[.nr ty' s' nv' cs']) (hn:nv'=nv∨pB nv e=some nv'):mf e h (cc h x (some r')):=by
 intro y r1 ty1 s1 nv1 cs1 hy hm1 hc1 hp
 by_cases hyx:y=x
 ·subst hyx
  rw[ax]at hy
  cases hy
  rw[hc']at hc1
  cases hc1
  exact⟨r,ty,s,nv,cs,hx,hm,hc,hn⟩
 ·rw[aA _ _ hyx]at hy
  exact⟨r1,ty1,s1,nv1,cs1,hy,hm1,hc1,.inl rfl⟩
theorem mf.drop {y:Nat} (hr:mf e (cc h y none) h'):mf e h h':=by
 intro x r' ty' s' nv' cs' hx hm hc hp
 obtain⟨r,ty,s,nv,cs,k1,k⟩:=hr x r' ty' s' nv' cs' hx hm hc hp
 by_cases hxy:x=y
 ·subst hxy;rw[ax]at k1;cases k1
 ·rw[aA _ _ hxy]at k1
  exact⟨r,ty,s,nv,cs,k1,k⟩
theorem Gp {τ:Ty} {d:D} {E:bP} (hE:nH τ h d=some E):E.hw=[]:=by
 unfold nH at hE
 split at hE<;>try (cases hE;done)
 split at hE<;>try (cases hE;done)
 unfold C5 at hE
 split at hE
 ·split at hE<;>try (cases hE;done)
  cases hE;rfl
 ·split at hE<;>try (cases hE;done)
  split at hE<;>try (cases hE;done)
  cases hE;rfl
 ·cases hE
theorem Po {τ:Ty} {p d:D} {E:bP} (hE:lK τ e h p d=some E):mf e h (aJ h E.hw):=by
 unfold lK at hE
 split at hE<;>try (cases hE;done)
 rename_i y0 v0 c0
 split at hE<;>try (cases hE;done)
 rename_i r ty s nv cs hl
 obtain⟨hx,hv,hz,hm,hp1,hc⟩:=my hl
 split at hE<;>try (cases hE;done)
 have plain:∀ {c':Option (List D)},zx τ y0 r ty s nv cs c0 c'=some E->mf e h (aJ h E.hw):=by
  intro c' hE
  unfold zx at hE
  split at hE<;>try (cases hE;done)
  split at hE<;>try (cases hE;done)
  cases hE
  exact mf.set hx hm hc rfl (.inl rfl)
 unfold v8 at hE
 split at hE
 ·rename_i yq vq sq oq nq
  split at hE<;>try (cases hE;done)
  split at hE
  ·split at hE<;>try (cases hE;done)
   unfold zu at hE
   split at hE<;>try (cases hE;done)
   split at hE<;>try (cases hE;done)
   cases hE
   exact mf.set hx hm hc rfl (.inl rfl)
  ·split at hE<;>try (cases hE;done)
   split at hE<;>try (cases hE;done)
   rename_i q hlq
   split at hE<;>try (cases hE;done)
   unfold zw at hE
   split at hE<;>try (cases hE;done)
   rename_i nv' hb
   cases hE
   obtain⟨hq1,hq2⟩:=bX hlq
   refine mf.drop (y:=yq) ?_
   exact mf.set (by
    rw[aA]
    ·exact hx
    ·rintro rfl
     rw[hx]at hq1
     cases hq1
     have:=fW hlq
     rw[hm]at this
     cases this) hm hc rfl (.inr hb)
 ·exact plain hE
structure ED (N:Nat) (M:Nat->Prop) (L:j9) (w0:World) (blk:Nat->Option (Nat×Nat)) (e:Nat) (done:List Nat) (t:Nat->D) (h:Nat->Option Row) (a:Act) (w:World):Prop where
 inv:Inv N M L w0 blk (VE N e done h) t (EH h) a w
 nv:EE e done h
def ON (N:Nat) (M:Nat->Prop) (L:j9) (w0:World) (t:Nat->D) (h:Nat->Option Row) (a:Act) (e:Nat) (done:List Nat) (E:bP) (v:Value) (w':World):Prop :=
 ∃blk',ED N M L w0 blk' e done t (aJ h E.hw) a w'∧RT w' (Own M (EH (aJ h E.hw)) blk') (EH (aJ h E.hw)) blk' (VE N e done (aJ h E.hw)) E.val v
theorem Pm (hT:jK P T) (hΓ:bA P Γ) (hI:ED N M L w0 blk e done t h a w) (hd:∀d:Nat,o.dst=some d->d∉done∧d<N) {E:bP} (hE:pC T Γ e o (ev t) h=some E):eG P o a w (ON N M L w0 t h a e (o.dst.toList++done) E):=by
 have hbig:=hI.inv.big
 have hpk:=cU
 have hV:∀d:Nat,o.dst=some d->j4 N (VE N e done h) d e:=by
  intro d hd'
  obtain⟨q1,q2⟩:=hd d hd'
  replace q2:(d:Nat)<N:=q2
  refine⟨fun hv =>?_,q2⟩
  rcases hv with⟨_,hv|⟨_,hv⟩⟩|⟨hv,_⟩
  ·omega
  ·exact q1 hv
  ·omega
 have hP:∀x v,VE N e done h x v->x<N∨2*PK<=x:=fun x v hv=>hv.imp (fun h=>h.1) (fun h=>h.1)
 have hsub:∀x,x∈done->x∈o.dst.toList++done:=fun x hx=>adP _ hx
 have fin:mf e h (aJ h E.hw)->∀ {v:Value} {w':World},qo N M L w0 (VE N e done h) t h a e o.dst E v w'->ON N M L w0 t h a e (o.dst.toList++done) E v w':=by
  intro hrel v w' hA
  obtain⟨blk',h1,h2⟩:=hA
  have hVV:∀x n,VE N e done h x n∨(o.dst=some x∧n=e)->VE N e (o.dst.toList++done) (aJ h E.hw) x n:=by
   rintro x n (hv|⟨hx,rfl⟩)
   ·exact hv.step hrel hsub
   ·exact .inl ⟨(hd x hx).2,.inr ⟨rfl,adO _ (by rw[hx];simp)⟩⟩
  refine⟨blk',⟨h1.weaken hVV,hI.nv.step hrel hsub⟩,h2.mono ⟨fun _ h1 h2=>⟨h1,h2,rfl⟩,hVV,fun _ _ _ r' h1 h2=>⟨⟨r',h1,h2⟩,rfl,fun _ _=>rfl⟩⟩⟩
 have fin2:∀ {E0:bP} {d:Nat} {r0:Row} {ty' s:Nat} {cs0:List D},o.dst=some d->E0.hw=[(d,some r0)]->r0.mp=true->r0.cells=[.nr ty' s (4*e+2) cs0]->∀ {v:Value} {w':World},qo N M L w0 (VE N e done h) t h a e o.dst E0 v w'->ON N M L w0 t h a e (o.dst.toList++done) E0 v w':=by
  intro E0 d r0 ty' s cs0 hdst hr0 hrm hrc v w' hA
  obtain⟨blk',h1,h2⟩:=hA
  obtain⟨hdn,hdN⟩:=hd d hdst
  have hap:aJ h E0.hw=cc h d (some r0):=by rw[hr0];rfl
  have hVV:∀x n,VE N e done h x n∨(o.dst=some x∧n=e)->VE N e (o.dst.toList++done) (aJ h E0.hw) x n:=by
   rintro x n (hv|⟨hx,rfl⟩)
   ·rcases hv with⟨q1,q2⟩|⟨q1,q2,q3,q4⟩
    ·exact .inl ⟨q1,q2.imp id fun⟨p1,p2⟩=>⟨p1,hsub _ p2⟩⟩
    ·refine .inr ⟨q1,q2,fun hn=>q3 fun h=>hn (hsub _ h),fun r' ty1 s1 nv1 cs1 k1 k2 k3 =>?_⟩
     rw[hap]at k1
     by_cases hxd:x % PK=d
     ·rw[hxd,ax]at k1
      cases k1
      rw[hrc]at k3
      cases k3
      have:=q3 (by rw[hxd];exact hdn)
      omega
     ·rw[aA _ _ hxd]at k1
      exact q4 r' ty1 s1 nv1 cs1 k1 k2 k3
   ·exact .inl ⟨(hd x hx).2,.inr ⟨rfl,adO _ (by rw[hx];simp)⟩⟩
  refine⟨blk',⟨h1.weaken hVV,?_⟩,h2.mono ⟨fun _ h1 h2=>⟨h1,h2,rfl⟩,hVV,fun _ _ _ r' h1 h2=>⟨⟨r',h1,h2⟩,rfl,fun _ _=>rfl⟩⟩⟩
  intro x r' ty1 s1 nv1 cs1 k1 k2 k3 hp
  rw[hap]at k1
  by_cases hxd:x=d
  ·subst hxd
   rw[ax]at k1
   cases k1
   rw[hrc]at k3
   cases k3
   exact⟨by omega,fun hn=>absurd (adO _ (by rw[hdst];simp)) hn⟩
  ·rw[aA _ _ hxd]at k1
   obtain⟨p1,p2⟩:=hI.nv x r' ty1 s1 nv1 cs1 k1 k2 k3 hp
   exact⟨p1,fun hn=>p2 fun h=>hn (hsub _ h)⟩
 have hnk:∀d:Nat,o.dst=some d->∀o',¬VE N e done h (NK d o') (4*e+2):=by
  intro d hdst o' hv
  obtain⟨hdn,hdN⟩:=hd d hdst
  have hdp:(d:Nat)<PK:=adD hdN hbig
  rcases hv with⟨hv,_⟩|⟨_,_,hv,_⟩
  ·have:=fY d o';omega
  ·have:=hv (by rw[rq o' hdp];exact hdn)
   omega
 unfold pC at hE
 split at hE
 ·rename_i E0 hmk
  simp only[adJ]at hE
  subst hE
  unfold jc at hmk
  split at hmk<;>try (cases hmk;done)
  rename_i ty l c ho
  split at hmk<;>try (cases hmk;done)
  rename_i d hdst
  split at hmk<;>try (cases hmk;done)
  rename_i ty' s f hn
  split at hmk<;>try (cases hmk;done)
  rename_i τ hτ
  obtain⟨hdn,hdN⟩:=hd d hdst
  have hA:=VX hT hI.inv ho hdst (hV d hdst) (fun o' hv=>by
   have hdp:(d:Nat)<PK:=adD hdN hbig
   rcases hv with⟨hv,_⟩|⟨_,_,hv,_⟩
   ·have:=fY d o';omega
   ·have:=hv (by rw[rq o' hdp];exact hdn)
    omega) hτ hmk
  obtain⟨r0,hr0,hrm,hrc⟩:∃r0:Row,E0.hw=[(d,some r0)]∧r0.mp=true∧∃cs,r0.cells=[.nr ty' s (4*e+2) cs]:=by
   unfold kP at hmk
   split at hmk<;>try (cases hmk;done)
   split at hmk<;>try (cases hmk;done)
   split at hmk<;>try (cases hmk;done)
   cases hmk
   exact⟨_,rfl,rfl,_,rfl⟩
  obtain⟨cs0,hrc⟩:=hrc
  exact hA.mono fun v w' hA=>fin2 hdst hr0 hrm hrc hA
 split at hE
 ·rename_i E0 hcf
  simp only[adJ]at hE
  subst hE
  unfold mi at hcf
  split at hcf<;>try (cases hcf;done)
  rename_i d g args hdst hco
  obtain⟨c,f,hop,hcc,hq,hargs⟩:=m7 hco
  unfold Cy at hcf
  split at hcf<;>try (cases hcf;done)
  rename_i p hp
  obtain⟨_,ty',ti,s',S',n',cs',_,_,_,hE0⟩:=wV hcf
  subst hargs
  have hA:=Ci hI.inv hop hcc hq.symm (fun vs q1 q2=>Vw hΓ hI.inv hdst (hV d hdst) (hnk d hdst) hp hcf q1 q2)
  refine hA.mono fun v w' hA =>?_
  exact fin2 (r0:=⟨e,ty',[.nr ti s' (4*e+2) cs'],false,true,true⟩) hdst (by rw[hE0]) rfl rfl hA
 ·unfold X9 at hE
  split at hE
  ·rename_i v0 hw he
   simp only[adJ]at hE
   subst hE
   have hA:=TP hT hΓ hI.inv hV hP he
   exact hA.mono fun v w' hA=>fin (LI e hw h) (hA.le (LG hw h))
  ·unfold tV at hE
   split at hE
   ·rename_i ty p ho
    split at hE<;>try (cases hE;done)
    rename_i τ hτ
    exact (VV hT hI.inv hI.nv.abn ho hτ hE).mono fun v w' hA=>fin (by rw[Gp hE];exact .refl e h) hA
   ·rename_i ty p x ho
    split at hE<;>try (cases hE;done)
    rename_i τ hτ
    exact (VZ hT hI.inv (hI.nv.new hbig) ho hτ hE).mono fun v w' hA=>fin (Po hE) hA
   ·rename_i c ho
    unfold Ad at hE
    split at hE<;>try (cases hE;done)
    rename_i g args hco
    obtain⟨c',f,hop,hcc,hq,hargs⟩:=m7 hco
    cases hop
    subst hargs
    refine (Ci hI.inv ho hcc hq.symm (fun vs q1 q2=>Vy hΓ hI.inv (hI.nv.new hbig) (dst:=o.dst) hE q1 q2)).mono fun v w' hA=>fin ?_ hA
    obtain⟨x,v,o',rest,r,ty,s,nv,cs,p,adv,nv',d,cs',_,hl,_,_,hb,_,_,rfl⟩:=rI hE
    obtain⟨hx,_,_,hm,_,hc⟩:=my hl
    exact mf.set hx hm hc rfl (.inr hb)
   ·cases hE
end
section
variable {T:Nat->Option Ty} {h h':Nat->Option Row} {e:Nat} {o:Oper} {Γ:Env}
theorem uc {x v:Nat} (hx:h x=h' x):jm h x v=jm h' x v:=by simp[jm,hx]
theorem ud {x v:Nat} {q:Row×Nat×Nat×Nat×List D} (hl:jm h x v=some q):x<PK:=by
 obtain⟨r,ty,s,nv,cs⟩:=q
 exact (my hl).2.2.2.2.1
theorem Ah:∀(l:List (Nat×Option Row)) {h h':Nat->Option Row},(∀p∈l,h (rt p.1)=h' (rt p.1))->j5 h l=j5 h' l
 | [],_,_,_=>rfl
 | (k,r)::l,h,h',hl=>by
  have hk:h (rt k)=h' (rt k):=hl (k,r) (by simp)
  have hp:yp h k r=yp h' k r:=by
   unfold yp
   split
   ·rfl
   ·rename_i hk2
    have:rt k=k % PK:=by unfold rt;rw[if_neg hk2]
    rw[<- this,hk]
  unfold j5
  rw[hp]
  congr 1
  refine Ah l fun p hp' =>?_
  by_cases he:rt p.1=rt k
  ·rw[he,ax,ax]
  ·rw[aA _ _ he,aA _ _ he]
   exact hl p (ae1 _ hp')
theorem Ai:∀(l:List (Nat×Option Row)) {h:Nat->Option Row},∀p∈j5 h l,∃q∈l,p.1=rt q.1
 | [],_,p,hp=>by simp[j5]at hp
 | (k,r)::l,h,p,hp=>by
  unfold j5 at hp
  rcases adH.1 hp with rfl|hp
  ·exact⟨(k,r),by simp,rfl⟩
  ·obtain⟨q,h1,h2⟩:=Ai l p hp
   exact⟨q,ae1 _ h1,h2⟩
theorem UF {τ:Ty} {p d:D} {E:bP} (hE:lK τ e h p d=some E):∀q∈E.hw,q.1<PK∧(q.1∈nm p∨q.1∈nm d):=by
 unfold lK at hE
 split at hE<;>try (cases hE;done)
 rename_i y0 v0 c0
 split at hE<;>try (cases hE;done)
 rename_i r ty s nv cs hl
 have hlt:=ud hl
 split at hE<;>try (cases hE;done)
 have one:∀ {r':Option Row} (q:Nat×Option Row),q∈[(y0,r')]->q.1<PK∧(q.1∈nm (.ptr y0 v0 c0)∨q.1∈nm d):=by
  intro r' q hq
  simp only[adX]at hq
  subst hq
  exact⟨hlt,.inl (by simp[nm,gU])⟩
 have plain:∀ {c':Option (List D)},zx τ y0 r ty s nv cs c0 c'=some E->∀q∈E.hw,q.1<PK∧(q.1∈nm (.ptr y0 v0 c0)∨q.1∈nm d):=by
  intro c' hE
  unfold zx at hE
  split at hE<;>try (cases hE;done)
  split at hE<;>try (cases hE;done)
  cases hE
  exact one
 unfold v8 at hE
 split at hE
 ·rename_i yq vq sq oq nq
  split at hE<;>try (cases hE;done)
  split at hE
  ·split at hE<;>try (cases hE;done)
   unfold zu at hE
   split at hE<;>try (cases hE;done)
   split at hE<;>try (cases hE;done)
   cases hE
   exact one
  ·split at hE<;>try (cases hE;done)
   rename_i hyp
   split at hE<;>try (cases hE;done)
   split at hE<;>try (cases hE;done)
   unfold zw at hE
   split at hE<;>try (cases hE;done)
   cases hE
   intro q hq
   rcases adH.1 hq with rfl|hq
   ·exact⟨hyp,.inr (by simp[nm,gU])⟩
   ·exact one q hq
 ·exact plain hE
theorem T5 {τ:Ty} {d:D} (hx:∀x∈nm d,x<2*PK->h x=h' x):nH τ h d=nH τ h' d:=by
 unfold nH
 split
 ·rename_i x v o
  by_cases hp:x<2*PK
  ·rw[uc (hx x (by simp[nm,gU]) hp)]
  ·have hn:∀h:Nat->Option Row,jm h x v=none:=by
    intro h
    cases hl:jm h x v with
    | none=>rfl
    | some q=>have:=ud hl;omega
   rw[hn,hn]
 ·rfl
theorem UE {τ:Ty} {p d:D} (hp:∀x∈nm p,x<2*PK->h x=h' x) (hd:∀x∈nm d,x<2*PK->h x=h' x):lK τ e h p d=lK τ e h' p d:=by
 unfold lK
 split
 ·rename_i x v o
  by_cases hxp:x<2*PK
  rotate_left
  ·have hn:∀h:Nat->Option Row,jm h x v=none:=by
    intro h
    cases hl:jm h x v with
    | none=>rfl
    | some q=>have:=ud hl;omega
   rw[hn,hn]
  rw[uc (hp x (by simp[nm,gU]) hxp)]
  split
  ·split
   ·unfold v8
    split
    ·rename_i y vy s' oy n
     by_cases hyp:y<2*PK
     ·rw[cz (hd y (by simp[nm,gU]) hyp)]
     ·split
      ·split
       ·rfl
       ·rw[if_neg (by have:=cU;omega),if_neg (by have:=cU;omega)]
      ·rfl
    ·rfl
   ·rfl
  ·rfl
 ·rfl
theorem fS {vs:Operand->D} {x:Nat} (hx:x∈gS o vs):rt x∈bj o vs:=adz.2 ⟨x,hx,rfl⟩
theorem pA {vs:Operand->D} {y:Operand} (hy:y∈o.op.operands.toList) (h1:∀a b c,o.op ≠ .pick a b c) (h2:∀a,o.op ≠ .move a) (h3:∀a b c,o.op ≠ .makeFunc a b c) {x:Nat} (hx:x∈nm (vs y)):x∈gS o vs:=by
 unfold gS
 split
 ·rename_i ho;exact absurd ho (h2 _)
 ·rename_i ho;exact absurd ho (h1 _ _ _)
 ·rename_i ho;exact absurd ho (h3 _ _ _)
 ·exact adO _ (aeY.2 ⟨y,hy,hx⟩)
theorem FO {vs:Operand->D} {q:D} {args:List D} (hc:gK vs o.op=some (q,args)) (hx:∀x∈bj o vs,h x=h' x):∀d∈args,∀x∈nm d,h (rt x)=h' (rt x):=by
 obtain⟨c,f,ho,hcc,_,hargs⟩:=m7 hc
 subst hargs
 intro d hd x hxd
 obtain⟨y,hy,rfl⟩:=adz.1 hd
 exact hx _ (fS (pA (y:=y) (by simp[ho,Op.operands,Call.operands,hcc];exact .inr (by simpa using hy)) (by simp[ho]) (by simp[ho]) (by simp[ho]) hxd))
theorem Ku {g:Nat} {args:List D} (hx:∀d∈args,∀x∈nm d,h (rt x)=h' (rt x)):qC Γ e h g args=qC Γ e h' g args:=by
 unfold qC
 split
 ·rename_i x v c rest
  have hca:bl (EH h) rest=bl (EH h') rest:=iK fun d hd x hxd=>eR (hx d (ae1 _ hd) x hxd)
  by_cases hp:x<2*PK
  ·have:=hx _ ae0 x (by simp[nm,gU])
   rw[j7 hp]at this
   rw[uc this,hca]
  ·have hn:∀h:Nat->Option Row,jm h x v=none:=by
    intro h
    cases hl:jm h x v with
    | none=>rfl
    | some q=>have:=ud hl;omega
   rw[hn,hn]
 ·rfl
theorem Lo {vs:Operand->D} (hx:∀x∈bj o vs,h x=h' x):mi Γ e h o.dst (gK vs o.op)=mi Γ e h' o.dst (gK vs o.op):=by
 unfold mi
 split
 ·rename_i d g args hd hc
  unfold Cy
  split
  ·rw[iK fun d hd x hxd=>eR (FO hc hx d hd x hxd)]
  ·rfl
 ·rfl
theorem Pn {vs:Operand->D} (hx:∀x∈bj o vs,h x=h' x):tV T Γ e o vs h=tV T Γ e o vs h':=by
 unfold tV
 split
 ·rename_i ty p ho
  split
  ·exact T5 fun x hxm hl=>by
    have:=hx _ (fS (pA (y:=p) (by simp[ho,Op.operands]) (by simp[ho]) (by simp[ho]) (by simp[ho]) hxm))
    rwa [j7 hl]at this
  ·rfl
 ·rename_i ty p x ho
  split
  ·exact UE (fun y hxm hl=>by
    have:=hx _ (fS (pA (y:=p) (by simp[ho,Op.operands]) (by simp[ho]) (by simp[ho]) (by simp[ho]) hxm))
    rwa [j7 hl]at this) (fun y hxm hl=>by
    have:=hx _ (fS (pA (y:=x) (by simp[ho,Op.operands]) (by simp[ho]) (by simp[ho]) (by simp[ho]) hxm))
    rwa [j7 hl]at this)
  ·rfl
 ·rename_i c ho
  unfold Ad
  split
  ·rename_i g args hc
   exact Ku (FO (by rw[ho];exact hc) hx)
  ·rfl
 ·rfl
theorem Pj {vs:Operand->D} (hx:∀x∈bj o vs,h x=h' x):pC T Γ e o vs h=pC T Γ e o vs h':=by
 have h1:mh T Γ e o vs (EH h)=mh T Γ e o vs (EH h'):=TO fun x hxm=>eR (hx _ (fS hxm))
 unfold pC
 rw[h1,Pn hx,Lo hx]
 split
 ·rfl
 split
 ·rfl
 ·cases hE:mh T Γ e o vs (EH h') with
  | none=>rfl
  | some E =>
   simp only[X9]
   rw[Ah E.hw fun p hp=>hx _ (fS (Gq hE p hp))]
theorem Pk {vs:Operand->D} {E:bP} (hE:pC T Γ e o vs h=some E):∀p∈E.hw,p.1∈bj o vs:=by
 unfold pC at hE
 split at hE
 ·rename_i E0 hmk
  simp only[adJ]at hE
  subst hE
  unfold jc at hmk
  split at hmk<;>try (cases hmk;done)
  rename_i ty l c ho
  split at hmk<;>try (cases hmk;done)
  rename_i d hdst
  split at hmk<;>try (cases hmk;done)
  split at hmk<;>try (cases hmk;done)
  unfold kP at hmk
  split at hmk<;>try (cases hmk;done)
  split at hmk<;>try (cases hmk;done)
  split at hmk<;>try (cases hmk;done)
  rename_i hcond
  cases hmk
  intro p hp
  simp only[adX]at hp
  subst hp
  have hd:d∈gS o vs:=by
   unfold gS
   rw[ho]
   exact adP _ (by rw[hdst];simp)
  have:=fS hd
  rwa [j7 (by have:=hcond.2.2.2.2.2.2.1;omega)]at this
 split at hE
 ·rename_i E0 hcf
  simp only[adJ]at hE
  subst hE
  unfold mi at hcf
  split at hcf<;>try (cases hcf;done)
  rename_i d g args hdst hco
  obtain⟨c,f,hop,hcc,hq,hargs⟩:=m7 hco
  unfold Cy at hcf
  split at hcf<;>try (cases hcf;done)
  obtain⟨_,_,_,_,_,_,_,_,_,hdp,rfl⟩:=wV hcf
  intro p hp
  simp only[adX]at hp
  subst hp
  have hd:d∈gS o vs:=by
   unfold gS
   rw[hop]
   exact adP _ (by rw[hdst];simp)
  have:=fS hd
  rwa [j7 (by omega)]at this
 ·unfold X9 at hE
  split at hE
  ·rename_i v0 hw he
   simp only[adJ]at hE
   subst hE
   intro p hp
   obtain⟨q,h1,h2⟩:=Ai hw p hp
   rw[h2]
   exact fS (Gq he q h1)
  ·unfold tV at hE
   split at hE
   ·split at hE<;>try (cases hE;done)
    rw[Gp hE]
    intro p hp
    simp at hp
   ·rename_i ty p x ho
    split at hE<;>try (cases hE;done)
    intro q hq
    obtain⟨q1,q2⟩:=UF hE q hq
    have:q.1∈gS o vs:=by
     rcases q2 with q2|q2
     ·exact pA (y:=p) (by simp[ho,Op.operands]) (by simp[ho]) (by simp[ho]) (by simp[ho]) q2
     ·exact pA (y:=x) (by simp[ho,Op.operands]) (by simp[ho]) (by simp[ho]) (by simp[ho]) q2
    have:=fS this
    rwa [j7 (by omega)]at this
   ·rename_i c ho
    unfold Ad at hE
    split at hE<;>try (cases hE;done)
    rename_i g args hco
    obtain⟨c',f,hop,hcc,hq,hargs⟩:=m7 hco
    cases hop
    obtain⟨x,v,o',rest,r,ty,s,nv,cs,p,adv,nv',d,cs',hag,hl,_,_,_,_,_,rfl⟩:=rI hE
    have hlt:=ud hl
    intro q hq
    simp only[adX]at hq
    subst hq
    obtain⟨y,hy,hyx⟩:∃y∈c.args.toList,vs y=.ptr x v o':=by
     have:(.ptr x v o':D)∈c.args.toList.map vs:=by rw[<- hargs,hag];exact ae0
     obtain⟨y,h1,h2⟩:=adz.1 this
     exact⟨y,h1,h2⟩
    have:x∈gS o vs:=pA (y:=y) (by simp[ho,Op.operands,Call.operands,hcc];exact .inr (by simpa using hy)) (by simp[ho]) (by simp[ho]) (by simp[ho]) (by rw[hyx];simp[nm,gU])
    have:=fS this
    rwa [j7 (by omega)]at this
   ·cases hE
theorem Yr {vs vs':Operand->D} (hx:∀y∈o.op.operands.toList,vs y=vs' y):pC T Γ e o vs h=pC T Γ e o vs' h∧bj o vs=bj o vs':=by
 obtain⟨h1,h2⟩:=aaj (T:=T) (Γ:=Γ) (e:=e) (h:=EH h) hx
 have h3:jc T Γ e o vs=jc T Γ e o vs':=by
  unfold jc
  split
  ·rename_i ty l c ho
   rw[hx l (by simp[ho,Op.operands]),hx c (by simp[ho,Op.operands])]
  ·rfl
 have hco:∀c,o.op=.call c->gK vs (.call c)=gK vs' (.call c):=by
  intro c ho
  unfold gK
  simp only
  split
  ·rename_i f hf
   rw[hx f (by simp[ho,Op.operands,Call.operands,hf]),aeZ fun y hy=>hx y (by simp[ho,Op.operands,Call.operands,hf];exact .inr (by simpa using hy))]
  ·rfl
 have h4:tV T Γ e o vs h=tV T Γ e o vs' h:=by
  unfold tV
  split
  ·rename_i ty p ho
   rw[hx p (by simp[ho,Op.operands])]
  ·rename_i ty p x ho
   rw[hx p (by simp[ho,Op.operands]),hx x (by simp[ho,Op.operands])]
  ·rename_i c ho
   rw[hco c ho]
  ·rfl
 have h5:gK vs o.op=gK vs' o.op:=by
  by_cases hc:∃c,o.op=.call c
  ·obtain⟨c,hc⟩:=hc
   rw[hc]
   exact hco c hc
  ·unfold gK
   split
   ·rename_i c ho;exact absurd ⟨c,ho⟩ hc
   ·rfl
 unfold pC bj
 rw[h1,h2,h3,h4,h5]
 exact⟨rfl,rfl⟩
end
structure j8 where
 tc:List Nat
 q:Bool
def ub (ops:Array Oper) (t:Nat->D) (o:Oper):Option Bool :=
 match o.guard with
 | none=>some true
 | some (j,want) =>
  match (ops[j]?).bind (·.dst) with
  | some g=>match t g with | .bool b=>some (b==want) | .skp=>some false|_=>none
  | none=>none
def ec (t:Nat->D) (dst:Option Nat) (d:D):Nat->D :=
 match dst with
 | none=>t
 | some i=>cc t i d
def fits (N:Nat) (dst:Option Nat):Bool :=
 match dst with
 | none=>true
 | some i=>decide (i<N)
def uC (T:Nat->Option Ty) (Γ:Env) (N e:Nat) (ops:Array Oper) (o:Oper) (t:Nat->D) (h:Nat->Option Row):Option ((Nat->D)×(Nat->Option Row)×j8) :=
 if fits N o.dst then
  match ub ops t o with
  | some true =>
   match pC T Γ e o (ev t) h with
   | some E=>some (ec t o.dst E.val,aJ h E.hw,⟨bj o (ev t),E.hw.isEmpty⟩)
   | none=>none
  | some false=>some (ec t o.dst .skp,h,⟨[],true⟩)
  | none=>none
 else none
section
variable {P:Program} {T:Nat->Option Ty} {N:Nat} {M:Nat->Prop} {L:j9} {w0:World} {blk:Nat->Option (Nat×Nat)} {t:Nat->D} {h:Nat->Option Row} {a:Act} {w:World} {e:Nat} {o:Oper} {Γ:Env} {ops:Array Oper}
theorem xZ {V:Nat->Nat->Prop} (hI:Inv N M L w0 blk V t h a w) {b:Bool} (hg:ub ops t o=some b):Region.wanted o (yielded ops a.tmps)=b:=by
 unfold ub at hg
 split at hg
 ·rename_i ho
  simp only[adJ]at hg
  subst hg
  simp[Region.wanted,ho]
 ·rename_i j want ho
  split at hg
  ·rename_i g hgd
   split at hg
   ·rename_i b' hb
    simp only[adJ]at hg
    subst hg
    have hs:=hI.slots g
    rw[hb]at hs
    have hv:=uS hs
    have hget:a.tmps[g]? = some (.bool b'):=by
     simp only[adF]at hv
     cases hx:a.tmps[g]? with
     | none=>rw[hx]at hv;cases hv
     | some v=>rw[hx]at hv;simp only[Option.getD_some]at hv;rw[hv]
    have hy:yielded ops a.tmps j=some b':=by
     unfold yielded
     rw[hgd]
     simp[hget]
    simp only[Region.wanted,ho,hy]
    cases b'<;>cases want<;>rfl
   ·rename_i hb
    simp only[adJ]at hg
    subst hg
    have hs:=hI.slots g
    rw[hb]at hs
    have hv:a.tmps.getD g undef=undef:=hs
    have hy:yielded ops a.tmps j=none:=by
     unfold yielded
     rw[hgd]
     simp only[adF]at hv
     cases hx:a.tmps[g]? with
     | none=>simp only[Option.bind_some,hx]
     | some v=>rw[hx]at hv;simp only[Option.getD_some]at hv;subst hv;simp only[Option.bind_some,hx];rfl
    simp only[Region.wanted,ho,hy]
    cases want<;>rfl
   ·cases hg
  ·cases hg
theorem Inv.abA {V:Nat->Nat->Prop} (hI:Inv N M L w0 blk V t h a w) (hf:fits N o.dst=true) {d:D} {v:Value} (hx:RT w (Own M h blk) h blk V d v):Inv N M L w0 blk V (ec t o.dst d) h (a.put o.dst v) w:=by
 cases hd:o.dst with
 | none=>simpa [ec,Act.put] using hI
 | some i =>
  rw[hd]at hf
  exact hI.put (by simpa [fits] using hf) hx
theorem S6 (hT:jK P T) (hΓ:bA P Γ) {done:List Nat} {t':Nat->D} {h':Nat->Option Row} {f:j8} {K:Act->World->Prop} {Q:Exit->Act->World->Prop} (hI:ED N M L w0 blk e done t h a w)
  (hs:uC T Γ N e ops o t h=some (t',h',f)) (hd:∀d,o.dst=some d->d∉done) (hK:∀a' w' blk',ED N M L w0 blk' e (o.dst.toList++done) t' h' a' w'->K a' w') :
  if Region.wanted o (yielded ops a.tmps) then o.wp P a w K Q∨(o.asks P a w∧LetsOut Q) else K (a.put o.dst undef) w:=by
 unfold uC at hs
 split at hs
 ·rename_i hf
  split at hs
  ·rename_i hg
   rw[xZ hI.inv hg]
   simp only[if_true]
   split at hs
   ·rename_i E hE
    simp only[adJ,Prod.mk.injEq]at hs
    obtain⟨rfl,rfl,_⟩:=hs
    have:=Pm hT hΓ hI (fun d hd'=>⟨hd d hd',by rw[hd']at hf;simpa [fits] using hf⟩) hE
    refine .inl (this.wp fun v w' hA =>?_)
    obtain⟨blk',hI',hR⟩:=hA
    exact hK _ _ blk' ⟨hI'.inv.abA hf hR,hI'.nv⟩
   ·cases hs
  ·rename_i hg
   rw[xZ hI.inv hg]
   simp only[aea,if_false]
   simp only[adJ,Prod.mk.injEq]at hs
   obtain⟨rfl,rfl,_⟩:=hs
   have hsub:∀x,x∈done->x∈o.dst.toList++done:=fun x hx=>adP _ hx
   exact hK _ _ blk ⟨(hI.inv.abA hf (d := .skp) (v:=undef) rfl).weaken fun x n hx=>hx.step (.refl e h) hsub,hI.nv.step (.refl e h) hsub⟩
  ·cases hs
 ·cases hs
theorem eN {x:Nat} : ∀ {l:List (Nat×Option Row)} {h:Nat->Option Row},(∀p∈l,p.1≠x)->aJ h l x=h x
 | [],_,_=>rfl
 | (y,r)::l,h,hn=>by
  simp only[aJ]
  rw[eN (fun p hp=>hn p (by simp[hp]))]
  exact aA _ _ (fun e=>hn (y,r) (by simp) e.symm)
theorem yX {x:Nat} : ∀ {l:List (Nat×Option Row)} {h h':Nat->Option Row},(∃p∈l,p.1=x)->aJ h l x=aJ h' l x
 | [],_,_,he=>by obtain⟨p,hp,_⟩:=he;simp at hp
 | (y,r)::l,h,h',he=>by
  simp only[aJ]
  by_cases hl:∃p∈l,p.1=x
  ·exact yX hl
  ·have hn:∀p∈l,p.1≠x:=fun p hp hpx=>hl ⟨p,hp,hpx⟩
   rw[eN hn,eN hn]
   obtain⟨p,hp,hpx⟩:=he
   rcases adH.1 hp with rfl|hp
   ·simp only at hpx;subst hpx;rw[ax,ax]
   ·exact absurd hpx (hn p hp)
theorem Kc {l l':List (Nat×Option Row)} {h:Nat->Option Row} (hd:∀p∈l,∀q∈l',p.1≠q.1):aJ (aJ h l) l'=aJ (aJ h l') l:=by
 funext x
 by_cases h1:∃p∈l,p.1=x
 ·obtain⟨p,hp,rfl⟩:=h1
  rw[eN (fun q hq e=>hd p hp q hq e.symm)]
  exact yX ⟨p,hp,rfl⟩
 ·have hn:∀p∈l,p.1≠x:=fun p hp hpx=>h1 ⟨p,hp,hpx⟩
  rw[eN hn]
  by_cases h2:∃p∈l',p.1=x
  ·exact yX h2
  ·have hn':∀p∈l',p.1≠x:=fun p hp hpx=>h2 ⟨p,hp,hpx⟩
   rw[eN hn',eN hn',eN hn]
theorem Uz {t:Nat->D} {x y:Option Nat} {v u:D} (hne:∀d,x=some d->y≠some d):ec (ec t x v) y u=ec (ec t y u) x v:=by
 cases x with
 | none=>rfl
 | some i =>
  cases y with
  | none=>rfl
  | some j=>exact XV t v u (fun e=>hne i rfl (by rw[e]))
theorem SO {t:Nat->D} {x:Option Nat} {v:D} {s:Nat} (hne:x≠some s):ec t x v s=t s:=by
 cases x with
 | none=>rfl
 | some i=>exact aA _ _ (fun e=>hne (by rw[e]))
theorem OA {t t1:Nat->D} {h h1:Nat->Option Row} {f:j8} (hs:uC T Γ N e ops o t h=some (t1,h1,f)) :
  ∃v hw,t1=ec t o.dst v∧h1=aJ h hw∧(∀p∈hw,p.1∈f.tc)∧(f.q=true->hw=[]) ∧
   ∀t' h',(∀s∈o.looksAt ops,t s=t' s)->(∀x∈f.tc,h x=h' x)->uC T Γ N e ops o t' h'=some (ec t' o.dst v,aJ h' hw,f):=by
 have hgd:∀t':Nat->D,(∀s∈o.looksAt ops,t s=t' s)->ub ops t o=ub ops t' o:=by
  intro t' ht
  unfold ub
  split
  ·rfl
  ·rename_i j want ho
   split
   ·rename_i g hg
    rw[ht g (by simp[Oper.looksAt,ho,hg])]
   ·rfl
 have hvs:∀t':Nat->D,(∀s∈o.looksAt ops,t s=t' s)->∀y∈o.op.operands.toList,ev t y=ev t' y:=by
  intro t' ht y hy
  cases y with
  | tmp i=>exact ht i (by unfold Oper.looksAt;exact adO _ (List.mem_filterMap.2 ⟨_,hy,rfl⟩))
  | const v=>rfl
  | global g=>rfl
  | func f=>rfl
 unfold uC at hs
 split at hs
 ·rename_i hf
  split at hs
  ·rename_i hg
   split at hs
   ·rename_i E hE
    simp only[adJ,Prod.mk.injEq]at hs
    obtain⟨rfl,rfl,rfl⟩:=hs
    refine⟨E.val,E.hw,rfl,rfl,Pk hE,fun hq=>by simpa using hq,fun t' h' ht hh =>?_⟩
    obtain⟨e1,e2⟩:=Yr (T:=T) (Γ:=Γ) (e:=e) (h:=h) (hvs t' ht)
    have e3:pC T Γ e o (ev t') h'=some E:=by
     rw[<- hE,e1]
     exact (Pj (fun x hx=>hh x (by rw[e2];exact hx))).symm
    unfold uC
    rw[if_pos hf,<- hgd t' ht,hg]
    simp only[e3,e2]
   ·cases hs
  ·rename_i hg
   simp only[adJ,Prod.mk.injEq]at hs
   obtain⟨rfl,rfl,rfl⟩:=hs
   refine⟨.skp,[],rfl,rfl,fun p hp=>by simp at hp,fun _=>rfl,fun t' h' ht hh =>?_⟩
   unfold uC
   rw[if_pos hf,<- hgd t' ht,hg]
   rfl
  ·cases hs
 ·cases hs
def OX (T:Nat->Option Ty) (Γ:Env) (N e:Nat) (ops:Array Oper) (F:Nat->j8):List Nat->(Nat->D)->(Nat->Option Row)->(Nat->D)->(Nat->Option Row)->Prop
 | [],t,h,t',h'=>t=t'∧h=h'
 | i::L,t,h,t',h'=>∃o t1 h1,ops[i]? = some o∧uC T Γ N e ops o t h=some (t1,h1,F i)∧OX T Γ N e ops F L t1 h1 t' h'
def Ym (l l':List Nat):Bool:=l.all fun x => !l'.contains x
structure Q6 (ops:Array Oper) (F:Nat->j8) (j i:Nat):Prop where
 apart:∀oj oi,ops[j]? = some oj->ops[i]? = some oi->oj.apart ops oi=true
 foot:((F j).q&&(F i).q||Ym (F j).tc (F i).tc)=true
theorem swap {F:Nat->j8} {i j:Nat} {L:List Nat} {t t':Nat->D} {h h':Nat->Option Row} (hr:OX T Γ N e ops F (j::i::L) t h t' h') (hi:Q6 ops F j i):OX T Γ N e ops F (i::j::L) t h t' h':=by
 obtain⟨oj,t1,h1,hoj,hsj,oi,t2,h2,hoi,hsi,hrest⟩:=hr
 obtain⟨a1,a2,a3⟩:=Oper.apart_spec (hi.apart oj oi hoj hoi)
 obtain⟨vj,wj,rfl,rfl,nj,qj,locj⟩:=OA hsj
 obtain⟨vi,wi,rfl,rfl,ni,qi,loci⟩:=OA hsi
 have hfoot:=hi.foot
 simp only[ae5,aeb]at hfoot
 have d1:∀x∈(F i).tc,∀p∈wj,p.1≠x:=by
  intro x hx p hp he
  rcases hfoot with⟨h1,_⟩|h1
  ·rw[qj h1]at hp;simp at hp
  ·simp only[Ym,adL]at h1
   have:=h1 p.1 (nj p hp)
   rw[he]at this
   simp[hx]at this
 have d2:∀x∈(F j).tc,∀p∈wi,p.1≠x:=by
  intro x hx p hp he
  rcases hfoot with⟨_,h1⟩|h1
  ·rw[qi h1]at hp;simp at hp
  ·simp only[Ym,adL]at h1
   have:=h1 x hx
   have hm:=ni p hp
   rw[he]at hm
   simp[hm]at this
 have hsi':=loci t h (fun s hs=>SO (fun hd=>a1 s hd hs)) (fun x hx=>eN (d1 x hx))
 have hsj':=locj (ec t oi.dst vi) (aJ h wi) (fun s hs=>(SO (fun hd=>a3 s hd hs)).symm) (fun x hx=>(eN (d2 x hx)).symm)
 refine⟨oi,_,_,hoi,hsi',oj,_,_,hoj,hsj',?_⟩
 rw[Uz (x:=oi.dst) (y:=oj.dst) (fun d hd hd'=>a2 d hd' hd),Kc (l:=wi) (l':=wj) (fun p hp q hq he=>d1 p.1 (ni p hp) q hq he.symm)]
 exact hrest
theorem front {F:Nat->j8} {i:Nat} {post:List Nat} : ∀ {pre:List Nat} {t t':Nat->D} {h h':Nat->Option Row},OX T Γ N e ops F (pre++i::post) t h t' h'->(∀j∈pre,Q6 ops F j i)->OX T Γ N e ops F (i::(pre++post)) t h t' h'
 | [],_,_,_,_,hr,_=>hr
 | j::pre,t,t',h,h',hr,hi=>by
  obtain⟨oj,t1,h1,hoj,hsj,hrest⟩:=hr
  have ih:=front (pre:=pre) hrest (fun k hk=>hi k (by simp[hk]))
  exact swap ⟨oj,t1,h1,hoj,hsj,ih⟩ (hi j (by simp))
def direct (o:Oper):List Nat:=(o.after.toList.filter (Region.binds .any)).map (·.on)
def uV:List Oper->List (List Nat)->List (List Nat)
 | [],acc=>acc
 | o::l,acc=>uV l (acc++[direct o++(direct o).flatMap fun k=>acc.getD k []])
def aah (ops:Array Oper):List (List Nat):=uV ops.toList []
theorem B7 (S:Nat->Prop):∀(l:List Oper) (acc:List (List Nat)) (k:Nat),k=acc.length->(∀i j,j∈acc.getD i []->i<k->(∀m o,ops[m]? = some o->S m->∀d∈direct o,S d)->(∀o,ops[i]? = some o->∀d∈direct o,S d)->S j) ->
  (∀j,l[j]? = ops[k+j]?)->∀i j,j∈(uV l acc).getD i []->(∀m o,ops[m]? = some o->S m->∀d∈direct o,S d)->(∀o,ops[i]? = some o->∀d∈direct o,S d)->S j
 | [],acc,k,hk,hacc,hl,i,j,hj,hS,hi=>by
  simp only[uV]at hj
  by_cases hik:i<k
  ·exact hacc i j hj hik hS hi
  ·have:acc.getD i []=[]:=by simp[List.getD,ae6 (show acc.length<=i by omega)]
   rw[this]at hj
   simp at hj
 | o::l,acc,k,hk,hacc,hl,i,j,hj,hS,hi=>by
  simp only[uV]at hj
  refine B7 S l _ (k+1) (by simp[hk]) ?_ (fun j=>by have:=hl (j+1);simpa [adV,Nat.add_comm 1 j] using this) i j hj hS hi
  intro i' j' hj' hik' hS' hi'
  by_cases hlt:i'<k
  ·have:(acc++[direct o++(direct o).flatMap fun k=>acc.getD k []]).getD i' []=acc.getD i' []:=by
    simp[List.getD,aee (show i'<acc.length by omega)]
   rw[this]at hj'
   exact hacc i' j' hj' hlt hS' hi'
  ·obtain rfl:i'=k:=by omega
   have:(acc++[direct o++(direct o).flatMap fun k=>acc.getD k []]).getD i' []=direct o++(direct o).flatMap fun k=>acc.getD k []:=by
    simp[List.getD,aef (show acc.length<=i' by omega),hk]
   rw[this]at hj'
   have ho:ops[i']? = some o:=by have:=hl 0;simpa using this.symm
   rcases aeI.1 hj' with hd|hd
   ·exact hi' o ho j' hd
   ·obtain⟨m,hm,hmj⟩:=aeY.1 hd
    have hSm:=hi' o ho m hm
    by_cases hmk:m<i'
    ·exact hacc m j' hmj hmk hS' (fun o' ho' d hd'=>hS' m o' ho' hSm d hd')
    ·have:acc.getD m []=[]:=by simp[List.getD,ae6 (show acc.length<=m by omega)]
     rw[this]at hmj
     simp at hmj
theorem Yj {S:Nat->Prop} {i j:Nat} (hj:j∈(aah ops).getD i []) (hS:∀m o,ops[m]? = some o->S m->∀d∈direct o,S d) (hi:∀o,ops[i]? = some o->∀d∈direct o,S d):S j :=
 B7 S ops.toList [] 0 rfl (fun i j hj _ _ _=>by simp at hj) (fun j=>by simp) i j hj hS hi
def VQ (acc:List Nat):List Nat->Nat
 | []=>0
 | k::l=>(2 ^ k ||| acc.getD k 0) ||| VQ acc l
def B8:List Oper->List Nat->List Nat
 | [],acc=>acc
 | o::l,acc=>B8 l (acc++[VQ acc (direct o)])
def RN (ops:Array Oper):List Nat:=B8 ops.toList []
theorem RR {acc:List Nat} {j:Nat} : ∀ {l:List Nat},(VQ acc l).testBit j=true->j∈l∨∃k∈l,(acc.getD k 0).testBit j=true
 | [],h=>by simp[VQ]at h
 | k::l,h=>by
  simp only[VQ,Nat.testBit_or,ae5,Nat.testBit_two_pow,decide_eq_true_eq]at h
  rcases h with (rfl|h)|h
  ·exact .inl (ae0 ..)
  ·exact .inr ⟨k,ae0 ..,h⟩
  ·rcases RR h with h|⟨k',h1,h2⟩
   ·exact .inl (ae1 _ h)
   ·exact .inr ⟨k',ae1 _ h1,h2⟩
theorem zS:∀(l:List Oper) (accM:List Nat) (acc:List (List Nat)),accM.length=acc.length->(∀i j,(accM.getD i 0).testBit j=true->j∈acc.getD i [])->∀i j,((B8 l accM).getD i 0).testBit j=true->j∈(uV l acc).getD i []
 | [],_,_,_,h,i,j,hj=>h i j hj
 | o::l,accM,acc,hl,h,i,j,hj=>by
  refine zS l _ _ (by simp[hl]) (fun i' j' hj' =>?_) i j hj
  by_cases h1:i'<accM.length
  ·rw[aed,aee h1,<- aed]at hj'
   rw[aed,aee (by omega),<- aed]
   exact h i' j' hj'
  ·by_cases h2:i'=accM.length
   ·subst h2
    rw[aed,aef (adA _),aeE]at hj'
    simp only[List.getElem?_cons_zero,Option.getD_some]at hj'
    rw[hl,aed,aef (adA _),aeE]
    simp only[List.getElem?_cons_zero,Option.getD_some,aeI,aeY]
    rcases RR hj' with hj'|⟨k,hk,hj'⟩
    ·exact .inl hj'
    ·exact .inr ⟨k,hk,h k j' hj'⟩
   ·rw[aed,ae6 (by simp;omega)]at hj'
    simp at hj'
theorem VG {i j:Nat} (h:((RN ops).getD i 0).testBit j=true):j∈(aah ops).getD i [] :=
 zS ops.toList [] [] rfl (fun i j h=>by simp at h) i j h
def Rb (ops:Array Oper) (F:Nat->j8):Prop:=∀j i,j<i->i<ops.size->j∈(aah ops).getD i []∨Q6 ops F j i
theorem UM (hT:jK P T) (hΓ:bA P Γ) {F:Nat->j8} {Q:Exit->Act->World->Prop} {t':Nat->D} {h':Nat->Option Row} (hp:Rb ops F) (hedge:∀i o,ops[i]? = some o->∀d∈direct o,d<i)
  (hdst:∀(i j:Nat) (oi oj:Oper) (d:Nat),ops[i]? = some oi->ops[j]? = some oj->oi.dst=some d->oj.dst=some d->i=j) (hQ:∀a' w' blk' done,ED N M L w0 blk' e done t' h' a' w'->Q .normal a' w') :
  ∀(n:Nat) (LL:List Nat) (listed:Array Bool) (t:Nat->D) (h:Nat->Option Row) (a:Act) (w:World) (blk:Nat->Option (Nat×Nat)) (done:List Nat),LL.length=n->(∀i,i∈LL↔listed.getD i true=false)->LL.Pairwise (· < ·)->(∀i∈LL,i<ops.size)->listed.size=ops.size ->
   (∀i o,ops[i]? = some o->listed.getD i false=true->∀d∈direct o,listed.getD d false=true)->(∀d∈done,∃i o,ops[i]? = some o∧o.dst=some d∧listed.getD i false=true) ->
   OX T Γ N e ops F LL t h t' h'->ED N M L w0 blk e done t h a w->wpAny P .any ops Q n listed a w:=by
 intro n
 induction n with
 | zero =>
  intro LL listed t h a w blk done hn hL hs hlt hsz hdown hdone hr hI
  have:LL=[]:=aeJ hn
  subst this
  obtain⟨rfl,rfl⟩:=hr
  refine⟨?_,hQ a w blk done hI⟩
  refine List.eq_nil_iff_forall_not_mem.2 fun i hi =>?_
  have:=(mem_ready.1 hi).1
  exact absurd ((hL i).2 this) (by simp)
 | succ n ih =>
  intro LL listed t h a w blk done hn hL hs hlt hsz hdown hdone hr hI
  refine⟨fun hempty =>?_,fun i hi =>?_⟩
  ·cases LL with
   | nil=>simp at hn
   | cons i LL =>
    obtain⟨o,t1,h1,ho,_⟩:=hr
    have hready:i∈Region.ready .any ops listed:=by
     refine mem_ready.2 ⟨(hL i).1 (by simp),o,ho,fun ed hed hb =>?_⟩
     have hd:ed.on∈direct o:=adz.2 ⟨ed,ae7.2 ⟨by simpa using hed,hb⟩,rfl⟩
     have hlt':=hedge i o ho _ hd
     by_cases hm:ed.on∈i::LL
     ·rcases adH.1 hm with hm|hm
      ·omega
      ·have:=(ae8.1 hs).1 _ hm
       omega
     ·have h1:¬listed.getD ed.on true=false:=fun hf=>hm ((hL _).2 hf)
      have h2:ed.on<listed.size:=by rw[hsz];have:=hlt i (by simp);omega
      have:listed.getD ed.on true=listed.getD ed.on false:=by simp[Array.getD,h2]
      rw[<- this]
      simpa using h1
    rw[hempty]at hready
    simp at hready
  ·obtain⟨hi0,o,ho,hneeds⟩:=mem_ready.1 hi
   have hiL:i∈LL:=(hL i).2 hi0
   obtain⟨pre,post,rfl⟩:=List.append_of_mem hiL
   have hisz:i<listed.size:=by rw[hsz];exact hlt i hiL
   have hdirect:∀d∈direct o,listed.getD d false=true:=by
    intro d hd
    obtain⟨ed,hed,rfl⟩:=adz.1 hd
    obtain⟨h1,h2⟩:=ae7.1 hed
    exact hneeds ed (by simpa using h1) h2
   have hind:∀j∈pre,Q6 ops F j i:=by
    intro j hj
    have hji:j<i:=by
     have:=ae9.1 hs
     exact this.2.2 j hj i (by simp)
    rcases hp j i hji (hlt i hiL) with hc|hc
    ·have hjl:listed.getD j false=true:=Yj (S:=fun m=>listed.getD m false=true) hc (fun m om hm hSm d hd=>hdown m om hm hSm d hd) (fun o' ho' d hd=>by
      rw[ho]at ho'
      cases ho'
      exact hdirect d hd)
     have hjt:=(hL j).1 (by simp[hj])
     have hjs:j<listed.size:=by omega
     have:listed.getD j true=listed.getD j false:=by simp[Array.getD,hjs]
     rw[this,hjl]at hjt
     cases hjt
    ·exact hc
   obtain⟨o',t1,h1,ho',hstep,hrest⟩:=front hr hind
   rw[ho]at ho'
   cases ho'
   unfold wpOp
   simp only[ho]
   refine S6 hT hΓ hI hstep (fun d hd hdd =>?_) (fun a' w' blk' hI' =>?_)
   ·obtain⟨k,ok,hk,hkd,hkl⟩:=hdone d hdd
    have:=hdst i k o ok d ho hk hd hkd
    subst this
    have:listed.getD i true=listed.getD i false:=by simp[Array.getD,hisz]
    rw[this,hkl]at hi0
    cases hi0
   ·have hset:∀k,(listed.setIfInBounds i true).getD k false=true↔k=i∨listed.getD k false=true:=by
     intro k
     by_cases hki:k=i
     ·subst hki;simp[hisz]
     ·rw[getD_set_ne false (Ne.symm hki)];simp[hki]
    have hset2:∀k,(listed.setIfInBounds i true).getD k true=false↔k≠i∧listed.getD k true=false:=by
     intro k
     by_cases hki:k=i
     ·subst hki;simp[hisz]
     ·rw[getD_set_ne true (Ne.symm hki)];simp[hki]
    have hnd:(pre++i::post).Nodup:=hs.imp (fun h=>Nat.ne_of_lt h)
    refine ih (pre++post) (listed.setIfInBounds i true) t1 h1 a' w' blk' _ (by simp at hn ⊢;omega) (fun k =>?_) ?_ (fun k hk=>hlt k (by simp at hk ⊢;rcases hk with hk|hk<;>simp[hk])) (by simpa using hsz) (fun k ok hk hkl d hd =>?_) (fun d hd =>?_) hrest hI'
    ·rw[hset2]
     constructor
     ·intro hk
      have hkL:k∈pre++i::post:=by simp at hk ⊢;rcases hk with hk|hk<;>simp[hk]
      refine⟨fun e =>?_,(hL k).1 hkL⟩
      subst e
      have:=List.nodup_append.1 hnd
      simp only[afa]at this
      rcases aeI.1 hk with hk|hk
      ·exact this.2.2 k hk k (by simp) rfl
      ·exact this.2.1.1 hk
     ·rintro⟨hk,hkl⟩
      have:=(hL k).2 hkl
      simp only[aeI,adH]at this ⊢
      rcases this with h|h|h
      ·exact .inl h
      ·exact absurd h hk
      ·exact .inr h
    ·refine List.Pairwise.sublist ?_ hs
     exact List.Sublist.append_left (List.sublist_cons_self _ _) _
    ·rw[hset]
     rcases (hset k).1 hkl with rfl|hkl
     ·rw[ho]at hk;cases hk;exact .inr (hdirect d hd)
     ·exact .inr (hdown k ok hk hkl d hd)
    ·rcases aeI.1 hd with hd|hd
     ·exact⟨i,o,ho,by simpa using hd,(hset i).2 (.inl rfl)⟩
     ·obtain⟨k,ok,hk,hkd,hkl⟩:=hdone d hd
      exact⟨k,ok,hk,hkd,(hset k).2 (.inr hkl)⟩
end
def A7 (T:Nat->Option Ty) (Γ:Env) (N e:Nat) (ops:Array Oper):List Oper->(Nat->D)->(Nat->Option Row)->Option ((Nat->D)×(Nat->Option Row)×List j8)
 | [],t,h=>some (t,h,[])
 | o::l,t,h =>
  match uC T Γ N e ops o t h with
  | some (t1,h1,f) =>
   match A7 T Γ N e ops l t1 h1 with
   | some (t2,h2,fs)=>some (t2,h2,f::fs)
   | none=>none
  | none=>none
def Jq:List Nat->Bool
 | []=>true
 | x::l => !l.contains x&&Jq l
def V1 (ops:Array Oper):Bool:=Jq (ops.toList.filterMap (·.dst))
def Rm (ops:Array Oper) (j i:Nat):Bool :=
 match ops[j]?,ops[i]? with
 | some oj,some oi=>oj.apart ops oi
 | _,_=>true
def Ph (ops:Array Oper):Bool :=
 (ops.toList.zipIdx.all fun p=>(direct p.1).all fun d=>decide (d<p.2)) &&
 ((List.range ops.size).all fun i=>(List.range i).all fun j=>((RN ops).getD i 0).testBit j||Rm ops j i)
def Ht (ops:Array Oper):List (Nat×Nat):=(List.range ops.size).flatMap fun i=>((List.range i).filter fun j => !((RN ops).getD i 0).testBit j).map fun j=>(j,i)
def WW (fs:List j8) (p:Nat×Nat):Bool :=
 match fs[p.1]?,fs[p.2]? with
 | some f,some g=>f.q&&g.q||Ym f.tc g.tc
 | _,_=>false
def Cq (ops:Array Oper) (fs:List j8):Bool:=(Ht ops).all (WW fs)
inductive Ex where
 | normal
 | exit (n:Nat)
 | ret
structure St where
 t:Nat->D
 h:Nat->Option Row
 e:Nat
def iter (f:St->Option (Ex×St)):Nat->St->Option (Ex×St)
 | 0,_=>none
 | n+1,s =>
  match f s with
  | some (.normal,s1)=>iter f n s1
  | r=>r
def vU (T:Nat->Option Ty) (Γ:Env) (N:Nat) (ops:Array Oper) (draw:Bool) (s:St):Option (Ex×St) :=
 match A7 T Γ N s.e ops ops.toList s.t s.h with
 | some (t,h,fs)=>if !draw||Cq ops fs then some (.normal,⟨t,h,s.e+1⟩) else none
 | none=>none
def OJ (d:D) (x y:Option (Ex×St)):Option (Ex×St) :=
 match d with
 | .bool b=>if b then x else y
 | _=>none
def acj (r:Option (Ex×St)) (k:St->Option (Ex×St)):Option (Ex×St) :=
 match r with
 | some (.normal,s)=>k s
 | r=>r
def QV (id:Nat) (r:Option (Ex×St)):Option (Ex×St) :=
 match r with
 | some (.exit n,s)=>if n=id then some (.normal,s) else some (.exit n,s)
 | r=>r
def gg (T:Nat->Option Ty) (Γ:Env) (N F:Nat):Code->St->Option (Ex×St)
 | .skip,s=>some (.normal,s)
 | .region _ ops draw,s=>vU T Γ N ops draw s
 | .seq a b,s=>acj (gg T Γ N F a s) (gg T Γ N F b)
 | .cond c x y,s=>OJ (ev s.t c) (gg T Γ N F x s) (gg T Γ N F y s)
 | .block id b,s=>QV id (gg T Γ N F b s)
 | .loop b,s=>iter (gg T Γ N F b) F s
 | .exit id,s=>some (.exit id,s)
 | .ret,s=>some (.ret,s)
 | _,_=>none
def codeOk:Code->Bool
 | .region _ ops draw=>V1 ops&&(!draw||Ph ops)
 | .seq a b=>codeOk a&&codeOk b
 | .cond _ x y=>codeOk x&&codeOk y
 | .block _ b=>codeOk b
 | .loop b=>codeOk b
 | _=>true
section
variable {P:Program} {T:Nat->Option Ty} {N:Nat} {M:Nat->Prop} {L:j9} {w0:World} {blk:Nat->Option (Nat×Nat)} {t:Nat->D} {h:Nat->Option Row} {a:Act} {w:World} {e:Nat} {o:Oper} {Γ:Env} {ops:Array Oper}
theorem Hm:∀ {l:List Nat},Jq l=true->l.Nodup
 | [],_=>List.nodup_nil
 | x::l,h=>by
  simp only[Jq,aeb,aec,List.contains_eq_mem,decide_eq_false_iff_not]at h
  exact afa.2 ⟨h.1,Hm h.2⟩
theorem EM:∀ {l:List Oper} {done:List Nat},(l.filterMap (·.dst)).Nodup->(∀o∈l,∀d,o.dst=some d->d∉done)->∀o l',l=o::l'->(l'.filterMap (·.dst)).Nodup∧∀o'∈l',∀d,o'.dst=some d->d∉o.dst.toList++done:=by
 intro l done hn hd o l' he
 subst he
 cases ho:o.dst with
 | none =>
  rw[List.filterMap_cons_none ho]at hn
  exact⟨hn,fun o' ho' d hd'=>by simpa using hd o' (by simp[ho']) d hd'⟩
 | some x =>
  rw[List.filterMap_cons_some ho]at hn
  obtain⟨h1,h2⟩:=afa.1 hn
  refine⟨h2,fun o' ho' d hd' hm =>?_⟩
  simp only[Option.toList_some,List.singleton_append,adH]at hm
  rcases hm with rfl|hm
  ·exact h1 (List.mem_filterMap.2 ⟨o',ho',hd'⟩)
  ·exact hd o' (by simp[ho']) d hd' hm
theorem Ey (hT:jK P T) (hΓ:bA P Γ) {Q:Exit->Act->World->Prop} : ∀ {l:List Oper} {t t':Nat->D} {h h':Nat->Option Row} {fs:List j8} {a:Act} {w:World} {blk:Nat->Option (Nat×Nat)} {done:List Nat},
  A7 T Γ N e ops l t h=some (t',h',fs)->(l.filterMap (·.dst)).Nodup->(∀o∈l,∀d,o.dst=some d->d∉done)->ED N M L w0 blk e done t h a w ->
  (∀a' w' blk' done,ED N M L w0 blk' e done t' h' a' w'->Q .normal a' w')->wpList P ops Q l a w
 | [],t,t',h,h',fs,a,w,blk,done,hr,_,_,hI,hQ=>by
  simp only[A7,adJ,Prod.mk.injEq]at hr
  obtain⟨rfl,rfl,_⟩:=hr
  exact hQ a w blk done hI
 | o::l,t,t',h,h',fs,a,w,blk,done,hr,hn,hd,hI,hQ=>by
  simp only[A7]at hr
  split at hr
  ·rename_i t1 h1 f hs
   split at hr
   ·rename_i t2 h2 fs2 hr2
    simp only[adJ,Prod.mk.injEq]at hr
    obtain⟨rfl,rfl,_⟩:=hr
    obtain⟨hn',hd'⟩:=EM hn hd o l rfl
    have:=S6 (K:=wpList P ops Q l) (Q:=Q) hT hΓ hI hs (hd o (by simp)) (fun a' w' blk' hI'=>Ey hT hΓ hr2 hn' hd' hI' hQ)
    unfold wpList
    exact this
   ·cases hr
  ·cases hr
theorem yy {F:Nat->j8} : ∀ {l:List Oper} {k:Nat} {t t':Nat->D} {h h':Nat->Option Row} {fs:List j8},A7 T Γ N e ops l t h=some (t',h',fs)->(∀j,l[j]? = ops[k+j]?)->(∀j f,fs[j]? = some f->F (k+j)=f) ->
  fs.length=l.length∧OX T Γ N e ops F (List.range' k l.length) t h t' h'
 | [],k,t,t',h,h',fs,hr,_,_=>by
  simp only[A7,adJ,Prod.mk.injEq]at hr
  obtain⟨rfl,rfl,rfl⟩:=hr
  exact⟨rfl,rfl,rfl⟩
 | o::l,k,t,t',h,h',fs,hr,hl,hF=>by
  simp only[A7]at hr
  split at hr
  ·rename_i t1 h1 f hs
   split at hr
   ·rename_i t2 h2 fs2 hr2
    simp only[adJ,Prod.mk.injEq]at hr
    obtain⟨rfl,rfl,rfl⟩:=hr
    obtain⟨i1,i2⟩:=yy (k:=k+1) hr2 (fun j=>by have:=hl (j+1);simpa [adV,Nat.add_comm 1 j] using this) (fun j f' hj=>by have:=hF (j+1) f' (by simpa using hj);rwa [show k+(j+1)=k+1+j by omega]at this)
    refine⟨by simp[i1],o,t1,h1,by have:=hl 0;simpa using this.symm,?_,i2⟩
    have:=hF 0 f rfl
    rw[ad9]at this
    rw[this]
    exact hs
   ·cases hr
  ·cases hr
def Holds (N:Nat) (M:Nat->Prop) (L:j9) (w0:World) (s:St) (a:Act) (w:World):Prop:=∃blk,ED N M L w0 blk s.e [] s.t s.h a w
theorem Fk (hT:jK P T) (hΓ:bA P Γ) (hm:P.follows .mixedOrders=true) {id:Nat} {draw:Bool} {s:St} {x:Ex} {s':St} {Q:Exit->Act->World->Prop} (hr:vU T Γ N ops draw s=some (x,s')) (hok:(V1 ops&&(!draw||Ph ops))=true)
  (hH:Holds N M L w0 s a w) (hQ:∀a' w',Holds N M L w0 s' a' w'->Q .normal a' w'):x=.normal∧(Code.region id ops draw).wp P Q a w:=by
 unfold vU at hr
 split at hr
 ·rename_i t h fs hrun
  split at hr
  ·rename_i hdyn
   simp only[adJ,Prod.mk.injEq]at hr
   obtain⟨rfl,rfl⟩:=hr
   refine⟨rfl,?_⟩
   simp only[aeb]at hok
   have hnd:(ops.toList.filterMap (·.dst)).Nodup:=Hm hok.1
   obtain⟨blk,hI⟩:=hH
   have hfin:∀a' w' blk' done,ED N M L w0 blk' s.e done t h a' w'->Q .normal a' w':=by
    intro a' w' blk' done hI'
    refine hQ a' w' ⟨blk',hI'.inv.weaken fun x v hx =>?_,fun x r ty s nv cs k1 k2 k3 k4 =>?_⟩
    ·rcases hx with⟨hn,hx|⟨hx,_⟩⟩|⟨hn,h2,h3,h4⟩
     ·exact .inl ⟨hn,.inl (by simp only;omega)⟩
     ·exact .inl ⟨hn,.inl (by simp only;omega)⟩
     ·exact .inr ⟨hn,by simp only;omega,fun _=>by simp only;omega,h4⟩
    ·have:=hI'.nv x r ty s nv cs k1 k2 k3 k4
     exact⟨by simp only;omega,fun _=>by simp only;omega⟩
   cases draw with
   | false =>
    refine wp_region_list ?_
    exact Ey hT hΓ hrun hnd (done:=[]) (fun o _ d _=>by simp) hI hfin
   | true =>
    simp only[aeV,Bool.false_or]at hdyn hok
    refine wp_region_any hm ?_
    have hdr:=hok.2
    simp only[Ph,aeb]at hdr
    let F:Nat->j8:=fun i=>fs.getD i ⟨[],true⟩
    obtain⟨hlen,hRun⟩:=yy (F:=F) (k:=0) hrun (fun j=>by simp) (fun j f hj=>by simp[F,List.getD,hj])
    have hedge:∀i o,ops[i]? = some o->∀d∈direct o,d<i:=by
     intro i o ho d hd
     have h1:=hdr.1
     rw[adL]at h1
     have hmem:(o,i)∈ops.toList.zipIdx:=by
      rw[List.mem_zipIdx_iff_getElem?]
      simpa using ho
     have:=h1 _ hmem
     rw[adL]at this
     simpa using this d hd
    have hdst:∀(i j:Nat) (oi oj:Oper) (d:Nat),ops[i]? = some oi->ops[j]? = some oj->oi.dst=some d->oj.dst=some d->i=j:=by
     have key:∀(l:List Oper),(l.filterMap (·.dst)).Nodup->∀(i j:Nat) (oi oj:Oper) (d:Nat),l[i]? = some oi->l[j]? = some oj->oi.dst=some d->oj.dst=some d->i=j:=by
      intro l
      induction l with
      | nil=>intro _ i j oi oj d hi;simp at hi
      | cons o l ih =>
       intro hn i j oi oj d hi hj hdi hdj
       have hn':(l.filterMap (·.dst)).Nodup:=by
        cases ho:o.dst with
        | none=>rw[List.filterMap_cons_none ho]at hn;exact hn
        | some x=>rw[List.filterMap_cons_some ho]at hn;exact (afa.1 hn).2
       have hnot:∀(k:Nat) (ok:Oper),l[k]? = some ok->o.dst=some d->ok.dst=some d->False:=by
        intro k ok hk ho hkd
        rw[List.filterMap_cons_some ho]at hn
        exact (afa.1 hn).1 (List.mem_filterMap.2 ⟨ok,ad2 hk,hkd⟩)
       cases i with
       | zero =>
        simp only[List.getElem?_cons_zero,adJ]at hi
        subst hi
        cases j with
        | zero=>rfl
        | succ j=>exact (hnot j oj (by simpa using hj) hdi hdj).elim
       | succ i =>
        cases j with
        | zero =>
         simp only[List.getElem?_cons_zero,adJ]at hj
         subst hj
         exact (hnot i oi (by simpa using hi) hdj hdi).elim
        | succ j=>rw[ih hn' i j oi oj d (by simpa using hi) (by simpa using hj) hdi hdj]
     intro i j oi oj d hi hj
     exact key ops.toList hnd i j oi oj d (by simpa using hi) (by simpa using hj)
    have hpairs:Rb ops F:=by
     intro j i hji hi
     by_cases hc:((RN ops).getD i 0).testBit j=true
     ·exact .inl (VG hc)
     ·refine .inr ⟨fun oj oi hoj hoi =>?_,?_⟩
      ·have h2:=hdr.2
       rw[adL]at h2
       have:=h2 i (afb.2 hi)
       rw[adL]at this
       have:=this j (afb.2 hji)
       simp only[ae5]at this
       rcases this with h'|h'
       ·exact absurd h' hc
       ·simpa [Rm,hoj,hoi] using h'
      ·rw[Cq,adL]at hdyn
       have hmem:(j,i)∈Ht ops:=by
        refine aeY.2 ⟨i,afb.2 hi,adz.2 ⟨j,ae7.2 ⟨afb.2 hji,?_⟩,rfl⟩⟩
        simpa using hc
       have:=hdyn _ hmem
       have hi':i<fs.length:=by rw[hlen];simpa using hi
       have hj':j<fs.length:=by omega
       simp only[WW,adN hj',adN hi']at this
       simp only[F,aed,adN hj',adN hi',Option.getD_some]
       exact this
    rw[aeg,<- List.range_eq_range']at hRun
    have hrep:∀i,(Array.replicate ops.size false).getD i false=false:=by
     intro i
     by_cases hi:i<ops.size
     ·simp[Array.getD,hi]
     ·simp[Array.getD,hi]
    have hrept:∀i,(Array.replicate ops.size false).getD i true=false↔i<ops.size:=by
     intro i
     by_cases hi:i<ops.size
     ·simp[Array.getD,hi]
     ·simp[Array.getD,hi]
    exact UM hT hΓ hpairs hedge hdst hfin ops.size (List.range ops.size) (Array.replicate ops.size false) s.t s.h a _ blk [] (by simp) (fun i=>by rw[hrept];exact afb) List.pairwise_lt_range (fun i hi=>afb.1 hi) (by simp)
     (fun i o _ hl=>by rw[hrep]at hl;cases hl) (fun d hd=>by simp at hd) hRun ⟨hI.inv.drew,hI.nv⟩
  ·cases hr
 ·cases hr
def Pr:Ex->Exit
 | .normal =>.normal
 | .exit n =>.exit n
 | .ret =>.ret
theorem qn (hT:jK P T) (hΓ:bA P Γ) (hm:P.follows .mixedOrders=true) {F:Nat} : ∀(c:Code) (s:St) (x:Ex) (s':St) (Q:Exit->Act->World->Prop) (a:Act) (w:World),gg T Γ N F c s=some (x,s')->codeOk c=true->Holds N M L w0 s a w ->
  (∀a' w',Holds N M L w0 s' a' w'->Q (Pr x) a' w')->c.wp P Q a w:=by
 intro c
 induction c with
 | skip =>
  intro s x s' Q a w hr _ hH hQ
  simp only[gg,adJ,Prod.mk.injEq]at hr
  obtain⟨rfl,rfl⟩:=hr
  exact wp_skip (hQ a w hH)
 | region id ops draw =>
  intro s x s' Q a w hr hok hH hQ
  simp only[gg]at hr
  have hx:x=.normal:=by
   unfold vU at hr
   split at hr
   ·split at hr
    ·simp only[adJ,Prod.mk.injEq]at hr;exact hr.1.symm
    ·cases hr
   ·cases hr
  subst hx
  exact (Fk hT hΓ hm hr hok hH hQ).2
 | seq b c ihb ihc =>
  intro s x s' Q a w hr hok hH hQ
  simp only[codeOk,aeb]at hok
  simp only[gg,acj]at hr
  refine wp_seq ?_
  split at hr
  ·rename_i s1 h1
   exact ihb s .normal s1 _ a w h1 hok.1 hH (fun a' w' hH'=>ihc s1 x s' Q a' w' hr hok.2 hH' hQ)
  ·rename_i r hne
   refine ihb s x s' _ a w hr hok.1 hH (fun a' w' hH' =>?_)
   cases x with
   | normal=>exact absurd hr (fun h=>hne s' h)
   | exit n=>exact hQ a' w' hH'
   | ret=>exact hQ a' w' hH'
 | cond c b d ihb ihd =>
  intro s x s' Q a w hr hok hH hQ
  simp only[codeOk,aeb]at hok
  simp only[gg]at hr
  unfold OJ at hr
  split at hr
  ·rename_i bb hb
   obtain⟨blk,hI⟩:=hH
   have hv:=hI.inv.ev c
   rw[hb]at hv
   refine wp_cond (t:=bb) (uS hv) ?_
   cases bb with
   | true=>exact ihb s x s' Q a w hr hok.1 ⟨blk,hI⟩ hQ
   | false=>exact ihd s x s' Q a w hr hok.2 ⟨blk,hI⟩ hQ
  ·cases hr
 | block id b ih =>
  intro s x s' Q a w hr hok hH hQ
  simp only[gg]at hr
  refine wp_block ?_
  unfold QV at hr
  split at hr
  ·rename_i n s1 h1
   refine ih s (.exit n) s1 _ a w h1 hok hH (fun a' w' hH' =>?_)
   split at hr
   ·rename_i hn
    simp only[adJ,Prod.mk.injEq]at hr
    obtain⟨rfl,rfl⟩:=hr
    simp only[Pr,Exit.inBlock,hn,if_true]
    exact hQ a' w' hH'
   ·rename_i hn
    simp only[adJ,Prod.mk.injEq]at hr
    obtain⟨rfl,rfl⟩:=hr
    simp only[Pr,Exit.inBlock,hn,if_false]
    exact hQ a' w' hH'
  ·rename_i r hne
   refine ih s x s' _ a w hr hok hH (fun a' w' hH' =>?_)
   cases x with
   | normal=>exact hQ a' w' hH'
   | exit n=>exact absurd hr (fun h=>hne n s' h)
   | ret=>exact hQ a' w' hH'
 | loop b ih =>
  intro s x s' Q a w hr hok hH hQ
  simp only[gg]at hr
  refine wp_loop_ghost (fun n a w=>∃s,Holds N M L w0 s a w∧iter (gg T Γ N F b) n s=some (x,s')) F ⟨s,hH,hr⟩ ?_
  intro n a w ⟨s1,hH1,h1⟩
  cases n with
  | zero=>simp[iter]at h1
  | succ n =>
   simp only[iter]at h1
   split at h1
   ·rename_i s2 h2
    exact ih s1 .normal s2 _ a w h2 hok hH1 (fun a' w' hH'=>⟨n,by omega,s2,hH',h1⟩)
   ·rename_i r hne
    refine ih s1 x s' _ a w h1 hok hH1 (fun a' w' hH' =>?_)
    cases x with
    | normal=>exact absurd h1 (fun h=>hne s' h)
    | exit n=>exact hQ a' w' hH'
    | ret=>exact hQ a' w' hH'
 | exit id =>
  intro s x s' Q a w hr _ hH hQ
  simp only[gg,adJ,Prod.mk.injEq]at hr
  obtain⟨rfl,rfl⟩:=hr
  exact wp_exit (hQ a w hH)
 | ret =>
  intro s x s' Q a w hr _ hH hQ
  simp only[gg,adJ,Prod.mk.injEq]at hr
  obtain⟨rfl,rfl⟩:=hr
  exact wp_ret (hQ a w hH)
 | _=>intro s x s' Q a w hr;simp[gg]at hr
end
def NZ (T:Nat->Option Ty) (s:St):ResultVar->Option (D×List Nat)
 | .tmp i=>bp s.h (s.t i)
 | .cell i ty =>
  match T ty,s.t i with
  | some τ,.ptr x v o=>match di τ s.h (.ptr x v o) with|some E=>some (fm E.val,[])|none=>none
  | _,_=>none
def ux (T:Nat->Option Ty) (s:St):List ResultVar->Option (List D×List Nat)
 | []=>some ([],[])
 | r::rs =>
  match NZ T s r with
  | some (d,fr)=>match ux T s rs with
   | some (ds,fr')=>some (d::ds,fr++fr')
   | none=>none
  | none=>none
def mI:List D->D
 | [d]=>d
 | ds =>.tup ds
inductive Mode where
 | clean|same|tight
 | fresh (ty s:Nat)
def ca:Option (D×Row)->List D->St
 | none,args=>⟨fun i=>args.getD i .und,fun _=>none,0⟩
 | some (d0,r),args=>⟨fun i=>(d0::args).getD i .und,fun x=>if x=0 then some { r with v:=0 } else none,1⟩
def lQ:Option (D×Row)->St->Option (Option Row)
 | none,_=>some none
 | some (_,r),s =>
  match s.h 0 with
  | some r1=>if r1.v=0∧r1.fz=false∧r1.ty=r.ty∧r1.mp=false then some (some r1) else none
  | none=>none
def YN:Option (D×Row)->List Nat->Bool
 | none,_=>true
 | some _,fr => !fr.contains 0
def tX (T:Nat->Option Ty) (lent:Option (D×Row)) (rs:List ResultVar) (s:St):Option (RK×Option Row) :=
 match ux T s rs,lQ lent s with
 | some (ds,fr),some o=>if YN lent fr then some (.clean (mI ds),o) else none
 | _,_=>none
def Bf (lent:Option (D×Row)) (rs:List ResultVar) (s:St):Option (RK×Option Row) :=
 match rs with
 | [.tmp i] =>
  match s.t i,lQ lent s with
  | .buf 0 0 sz o n,some (some r)=>some (.same sz o n,some r)
  | _,_=>none
 | _=>none
def u4:D->Option (RK×Option Row)
 | .sl nl tg n xs=>some (.clean (.sl nl tg n xs),none)
 | _=>none
def CH (lent:Option (D×Row)) (rs:List ResultVar) (s:St):Option (RK×Option Row) :=
 match lent,rs with
 | none,[.tmp i]=>u4 (s.t i)
 | _,_=>none
def u3 (ty s o n:Nat):Option Row->Option (RK×Option Row)
 | some r=>if r.fz=false∧r.ty=ty∧o+n*s<=r.cells.length then some (.fresh ty s n ((r.cells.drop o).take (n*s)),none) else none
 | none=>none
def mw (ty s:Nat) (h:Nat->Option Row):D->Option (RK×Option Row)
 | .buf x v sz o n=>if sz=s then u3 ty s o n (live h x v) else none
 | .sl _ tg 0 _=>if tg=true then some (.fresh ty s 0 [],none) else none
 | _=>none
def qH (ty s:Nat) (rs:List ResultVar) (st:St):Option (RK×Option Row) :=
 match rs with
 | [.tmp i]=>mw ty s st.h (st.t i)
 | _=>none
def jo (mode:Mode) (T:Nat->Option Ty) (lent:Option (D×Row)) (rs:List ResultVar) (s:St):Option (RK×Option Row) :=
 match mode with
 | .clean=>tX T lent rs s
 | .same=>Bf lent rs s
 | .tight=>CH lent rs s
 | .fresh ty sz=>qH ty sz rs s
def bc (mode:Mode) (T:Nat->Option Ty) (Γ:Env) (F:Nat) (fn:Func) (lent:Option (D×Row)) (args:List D):Option (RK×Option Row) :=
 match fn.body with
 | some c =>
  if fn.ntmps<=PK then
   match gg T Γ fn.ntmps F c (ca lent args) with
   | some (.exit _,_)=>none
   | some (_,s)=>jo mode T lent fn.results.toList ⟨s.t,EH s.h,s.e⟩
   | none=>none
  else none
 | none=>none
def Js:Option (D×Row)->Bool
 | none=>true
 | some (.buf 0 0 _ _ _,_)=>true
 | some (.ptr 0 0 _,_)=>true
 | _=>false
def Hb:Option (D×Row)->List D->Nat
 | none,adv=>adv.length
 | some _,adv=>adv.length+1
section
variable {P:Program} {T:Nat->Option Ty} {N:Nat} {M:Nat->Prop} {L:j9} {w0:World} {blk:Nat->Option (Nat×Nat)} {a:Act} {w:World} {Γ:Env}
theorem Inv.ZJ {V:Nat->Nat->Prop} {t:Nat->D} {h:Nat->Option Row} (hI:Inv N M L w0 blk V t h a w) (fr:List Nat):nR M h blk fr M where
 le b hb := .inl hb
 no x hx r g hr hg hb:=hI.notM hr hg hb
def zp (tm:Array Value):ResultVar->Sem Value
 | .tmp t=>pure (tm.getD t undef)
 | .cell b t=>do loadVar t (<- asAddr (tm.getD b undef))
theorem D1 (fn:Func) (tm:Array Value):results fn tm=(do
  let vs <- fn.results.mapM (zp tm)
  pure (if h:vs.size=1 then vs[0] else .tuple vs)):=by
 unfold results
 congr 1
theorem UB (hT:jK P T) {M':Nat->Prop} {ty:Nat} {τ:Ty} {g c:Nat} {xs:List D} {d:D} (hτ:T ty=some τ) (hat:At w M' g c xs) (hl:xs.length=τ.size) (hd:lR τ xs=some d) :
  ∃u,(loadVar ty ⟨g,c,none⟩).run P w=.ok u w∧RP w M' d u:=by
 obtain⟨us,h1,h2,h3,h4⟩:=hat.zy
 have hone:τ.ds.pc=false->xs.length=1∧xs=[d]:=by
  intro hf
  simp only[lR,hf,aea,if_false]at hd
  split at hd
  ·simp only[adJ]at hd;subst hd;exact⟨rfl,rfl⟩
  ·cases hd
 have hrun:=j1 (hT ty τ hτ) w g c us (by rw[h1,hl]) h2 (fun hf=>by rw[h1];exact (hone hf).1)
 refine⟨_,hrun,?_⟩
 cases ha:τ.ds.pc with
 | true =>
  simp only[lR,ha,if_true,adJ]at hd
  subst hd
  exact .agg xs us h1 h3 h4
 | false =>
  obtain⟨_,rfl⟩:=hone ha
  exact h3 0 d rfl
theorem W5 (hT:jK P T) {M':Nat->Prop} {V:Nat->Nat->Prop} {s:St} (hI:Inv N M L w0 blk V s.t s.h a w) {r:ResultVar} {d:D} {fr:List Nat} (h1:NZ T s r=some (d,fr)) (hl:nR M s.h blk fr M'):∃u,(zp a.tmps r).run P w=.ok u w∧RP w M' d u:=by
 cases r with
 | tmp i =>
  simp only[NZ]at h1
  exact⟨a.tmps.getD i undef,rfl,hI.bp h1 hl (hI.slots i)⟩
 | cell i ty =>
  simp only[NZ]at h1
  split at h1
  ·rename_i τ x v o hτ hp
   split at h1
   ·rename_i E hE
    simp only[adJ,Prod.mk.injEq]at h1
    obtain⟨rfl,_⟩:=h1
    have hsl:=hI.slots i
    rw[hp]at hsl
    simp only[di]at hE
    split at hE
    ·rename_i rr hlv
     obtain⟨hx,hv⟩:=bX hlv
     split at hE
     ·rename_i hle
      split at hE
      ·rename_i d' hd'
       simp only[adJ]at hE
       subst hE
       obtain⟨g,hg,hpv⟩:=hsl.2 rr hx hv
       have hat:=((hI.rowAt hx hg (fW hlv)).drop o).take τ.size
       obtain⟨u,hu1,hu2⟩:=UB hT hτ hat (by simp;omega) hd'
       refine⟨u,?_,(hu2.less fun b hb=>hl.le b hb).fm⟩
       simp only[zp,hpv,asAddr,ad7,Sem.run_pure,Result.andThen_ok,hu1]
      ·cases hE
     ·cases hE
    ·cases hE
   ·cases h1
  ·cases h1
theorem Od (hT:jK P T) {M':Nat->Prop} {V:Nat->Nat->Prop} {s:St} (hI:Inv N M L w0 blk V s.t s.h a w):∀(rs:List ResultVar) (ds:List D) (fr:List Nat),ux T s rs=some (ds,fr)->nR M s.h blk fr M' ->
  ∃us:List Value,(rs.mapM (zp a.tmps)).run P w=.ok us w∧us.length=ds.length∧∀j d,ds[j]? = some d->RP w M' d (us.getD j undef)
 | [],ds,fr,h,_=>by
  simp only[ux,adJ,Prod.mk.injEq]at h
  obtain⟨rfl,_⟩:=h
  exact⟨[],by simp,rfl,fun j d hj=>by simp at hj⟩
 | r::rs,ds,fr,h,hl=>by
  simp only[ux]at h
  split at h
  ·rename_i d fr1 h1
   split at h
   ·rename_i ds2 fr2 h2
    simp only[adJ,Prod.mk.injEq]at h
    obtain⟨rfl,rfl⟩:=h
    obtain⟨us,i1,i2,i3⟩:=Od hT hI rs ds2 fr2 h2 hl.right
    obtain⟨u,hu1,hu2⟩:=W5 (P:=P) hT hI h1 hl.left
    refine⟨u::us,?_,by simp[i2],fun j d hj =>?_⟩
    ·simp only[List.mapM_cons,ad7,hu1,Result.andThen_ok,i1,Sem.run_pure]
    ·cases j with
     | zero=>simp only[List.getElem?_cons_zero,adJ]at hj;subst hj;simpa using hu2
     | succ j=>simpa using i3 j d (by simpa using hj)
   ·cases h
  ·cases h
theorem uA (hT:jK P T) {M':Nat->Prop} {V:Nat->Nat->Prop} {s:St} (hI:Inv N M L w0 blk V s.t s.h a w) {fn:Func} {ds:List D} {fr:List Nat} (h:ux T s fn.results.toList=some (ds,fr)) (hl:nR M s.h blk fr M') :
  ∃v,(results fn a.tmps).run P w=.ok v w∧RP w M' (mI ds) v:=by
 obtain⟨us,i1,i2,i3⟩:=Od (P:=P) hT hI _ ds fr h hl
 have hm:(fn.results.mapM (zp a.tmps)).run P w=.ok us.toArray w:=by
  rw[aer,Sem.run_map,i1]
  rfl
 rw[D1]
 simp only[ad7,hm,Result.andThen_ok,Sem.run_pure]
 refine⟨_,rfl,?_⟩
 match us,ds,i2,i3 with
 | [u],[d],_,i3=>simpa [mI] using i3 0 d rfl
 | [],[],_,_=>exact .tup [] [] rfl (fun j x hj=>by simp at hj)
 | u1::u2::us,d1::d2::ds,i2,i3 =>
  have:¬(u1::u2::us).toArray.size=1:=by simp
  rw[dif_neg this]
  exact .tup _ _ (by simpa using i2) i3
theorem lu {fn:Func} {tm:Array Value} {i:Nat} (h:fn.results.toList=[.tmp i]):(results fn tm).run P w=.ok (tm.getD i undef) w:=by
 have he:fn.results = #[.tmp i]:=by rw[<- h]
 rw[D1,he]
 simp[zp]
theorem Inv.qH {V:Nat->Nat->Prop} {s:St} {ty0 s0:Nat} (hI:Inv N M L w0 blk V s.t s.h a w) {fn:Func} {rk:RK} {out:Option Row} (he:Am.qH ty0 s0 fn.results.toList s=some (rk,out)) :
  out=none∧∃v ty sz n cells,rk=.fresh ty sz n cells∧(results fn a.tmps).run P w=.ok v w∧Bs w0 w M (LB L) v rk:=by
 unfold Am.qH at he
 split at he
 ·rename_i i hrs
  have hsl:=hI.slots i
  unfold mw at he
  split at he
  ·rename_i x v sz o n ht
   rw[ht]at hsl
   split at he
   ·rename_i hsz
    subst hsz
    unfold u3 at he
    split at he
    ·rename_i r hlv
     split at he
     ·rename_i hcond
      obtain⟨hz,hty,hle⟩:=hcond
      simp only[adJ,Prod.mk.injEq]at he
      obtain⟨rfl,rfl⟩:=he
      refine⟨rfl,a.tmps.getD i undef,_,_,_,_,rfl,lu hrs,?_⟩
      obtain⟨hx,hv⟩:=bX hlv
      have hol:((r.cells.drop o).take (n*sz)).length=n*sz:=by simp;omega
      rcases hI.xA hlv hsl with⟨g,o',c,cs,g0,g1,g2,g3,g4,g5,g7,g8⟩|⟨g0,rfl,g2,A,g3⟩
      ·by_cases hc:0<c∨o=0
       ·obtain⟨k1,k2⟩:=g5 hc
        subst k1
        refine .inl ⟨(g.1,g.2+o),c,cs,g1,(show w0.heap.size<=g.1∨LB L g.1 from hI.base hx g0),by rw[<- hty];exact g4,g2,g3,k2,by rw[hol];simp only;omega,fun j d hj =>?_⟩
        rw[ck]at hj
        split at hj
        ·rw[adV]
         refine⟨(g8 _ _ hj).1,(g8 _ _ hj).2.less fun b hb =>?_⟩
         rcases hb with hb|rfl
         ·exact .inl hb
         ·exact .inr ⟨x,r,g,hx,hz,g0,rfl⟩
        ·cases hj
       ·have hn:n=0:=by omega
        have hc0:c=0:=by omega
        subst hn hc0
        exact .inr ⟨rfl,by simp,_,g1⟩
      ·exact .inr ⟨rfl,by simp,A,g3⟩
     ·cases he
    ·cases he
   ·cases he
  ·rename_i nl tg xs ht
   rw[ht]at hsl
   split at he
   ·rename_i hnt
    simp only[adJ,Prod.mk.injEq]at he
    obtain⟨rfl,rfl⟩:=he
    refine⟨rfl,a.tmps.getD i undef,_,_,_,_,rfl,lu hrs,.inr ⟨rfl,rfl,?_⟩⟩
    have hr:RP w (Own M s.h blk) (.sl nl tg 0 xs) (a.tmps.getD i undef):=hsl
    generalize a.tmps.getD i undef=u at *
    cases hr with
    | sl A c nl tight n xs us h1 h2 h3 h4 h5 h6 h7 h8 =>
     have hc:c=0:=by
      exact h5 hnt
     subst hc
     exact⟨A,rfl⟩
   ·cases he
  ·cases he
 ·cases he
theorem yz {args:List D} {vs:Array Value} {n i:Nat} (hs:vs.size=args.length):(vs++Array.replicate (n-vs.size) undef).getD i undef=vs.getD i undef∨args.getD i .und=.und:=by
 by_cases hi:i<args.length
 ·left
  have:i<vs.size:=by omega
  simp[adF,afc this]
 ·right
  simp[List.getD,ae6 (afd hi)]
theorem Bp {h:Nat->Option Row} (hp:∀k r,h k=some r->k<2*PK∧r.mp=false):EH h=h:=by
 funext k
 by_cases hk:k<2*PK
 ·rw[tv hk]
  cases hh:h k with
  | none=>rfl
  | some r =>
   simp only[Option.map_some,Bn,(hp k r hh).2]
   rfl
 ·have h1:h k=none:=by
   cases hh:h k with
   | none=>rfl
   | some r=>exact absurd (hp k r hh).1 hk
  rw[h1]
  unfold EH
  rw[if_neg hk]
  cases hh:h (k % PK) with
  | none=>rfl
  | some r =>
   simp only[Option.bind_some,qL,(hp _ r hh).2]
   rfl
theorem lx (hT:jK P T) (hΓ:bA P Γ) (hm:P.follows .mixedOrders=true) {mode:Mode} {f:FuncId} {fn:Func} {F:Nat} {lent:Option (D×Row)} {args:List D} {rk:RK} {out:Option Row} (hf:P.funcs[f]? = some fn)
  (hok:(match fn.body with|some c=>codeOk c|none=>true)=true) (hn:Hb lent args<=fn.ntmps) (hlo:Js lent=true)
  (hr:bc mode T Γ F fn lent args=some (rk,out)):oD P f lent args rk out:=by
 unfold bc at hr
 split at hr<;>try (cases hr;done)
 rename_i c hc
 rw[hc]at hok
 simp only at hok
 split at hr<;>try (cases hr;done)
 rename_i hbig
 split at hr<;>try (cases hr;done)
 rename_i x s hne hv
 cases lent with
 | none =>
  intro w M vs hM hargs
  have hI:Inv fn.ntmps M none w (fun _=>none) (fun x v=>x<fn.ntmps∧v<0) (ca none args).t (ca none args).h { tmps:=vs++Array.replicate (fn.ntmps-vs.size) undef,defers:=[] } w:={
   tab:=fun b hb=>(hargs.tab b hb).less fun b hb=>by
    rcases hb with hb|⟨x,r,g,hx,_⟩
    ·exact hb
    ·cases hx
   below:=dq.refl _ _
   mlt:=hM
   lent:=fun b hb=>absurd hb rp
   pin:=fun go hg=>by cases hg
   defers:=rfl
   tsz:=by have:=hargs.1;simp only[Hb]at hn;simp;omega
   slots:=fun i=>by
    simp only[ca]
    rcases yz (n:=fn.ntmps) (i:=i) hargs.1 with he|he
    ·rw[he]
     by_cases hi:i<args.length
     ·have h1:=hargs.2 i _ (adN hi)
      have e1:args.getD i .und=args[i]:=by simp[List.getD,hi]
      rw[e1]
      exact bF (h1.less fun b hb=>by
       rcases hb with hb|⟨x,r,g,hx,_⟩
       ·exact hb
       ·cases hx)
     ·have e1:args.getD i .und=.und:=by simp[List.getD,ae6 (afd hi)]
      rw[e1]
      trivial
    ·rw[he];trivial
   rows:=fun x r hx=>by cases hx
   inj:=fun x y r s g g' hx=>by cases hx
   big:=hbig
   pha:=fun y r g hy=>by cases hy
   ali:=fun y r g hy=>by cases hy }
  refine calls_of_wp hf hc ?_
  refine qn hT hΓ hm c (ca none args) x s _ _ _ hv hok ⟨_,⟨(by rw[Bp (fun k r hk=>by cases hk)];exact hI.weaken fun x v hx=>absurd hx.2 (Nat.not_lt_zero _)),fun x r ty s nv cs hx=>by cases hx⟩⟩ (fun a' w' hH =>?_)
  obtain⟨blk',hIE⟩:=hH
  obtain⟨sE,hsE⟩:∃sE:St,sE=⟨s.t,EH s.h,s.e⟩:=⟨_,rfl⟩
  have hI':Inv fn.ntmps M none w blk' (VE fn.ntmps s.e [] s.h) sE.t sE.h a' w':=by rw[hsE];exact hIE.inv
  rw[<- hsE]at hr
  have hbel:Below w.heap.size w w':=hI'.below.below (fun b hb=>absurd hb rp)
  have hpost:a'.defers=[]∧∃v,(results fn a'.tmps).run P w'=.ok v w'∧(∃v',Ending.returned v=.returned v'∧Below w.heap.size w w'∧Bs w w' M (fun _=>False) v' rk):=by
   refine⟨hI'.defers,?_⟩
   cases mode with
   | clean =>
    simp only[jo,tX,lQ]at hr
    split at hr<;>try (cases hr;done)
    rename_i ds fr o hres ho
    split at hr<;>try (cases hr;done)
    simp only[adJ,Prod.mk.injEq]at hr
    obtain⟨rfl,_⟩:=hr
    obtain⟨v,hv1,hv2⟩:=uA (P:=P) hT hI' hres (hI'.ZJ fr)
    exact⟨v,hv1,v,rfl,hbel,hv2⟩
   | same =>
    simp only[jo,Bf,lQ]at hr
    split at hr<;>try (cases hr;done)
    split at hr
    ·rename_i hq;cases hq
    ·cases hr
   | tight =>
    simp only[jo,CH]at hr
    split at hr<;>try (cases hr;done)
    rename_i i _ hrs
    have hsl:=hI'.slots i
    generalize sE.t i=dd at *
    unfold u4 at hr
    split at hr<;>try (cases hr;done)
    rename_i nl tg n xs
    simp only[adJ,Prod.mk.injEq]at hr
    obtain⟨rfl,_⟩:=hr
    have hsl':RP w' (Own M sE.h blk') (.sl nl tg n xs) (a'.tmps.getD i undef):=hsl
    exact⟨a'.tmps.getD i undef,lu hrs,_,rfl,hbel,hsl'.less fun b hb =>.inl hb⟩
   | fresh ty0 s0 =>
    obtain⟨rfl,v,ty,sz,n,cells,rfl,hv1,hv2⟩:=hI'.qH (P:=P) hr
    refine⟨v,hv1,v,rfl,hbel,?_⟩
    rcases hv2 with⟨g,k1,cs,k2,k3,k4⟩|hv2
    ·exact .inl ⟨g,k1,cs,k2,k3.imp id (fun hb=>absurd hb rp),k4⟩
    ·exact .inr hv2
  cases x with
  | normal=>exact hpost
  | ret=>exact hpost
  | exit n=>exact (hne n rfl).elim
 | some p =>
  obtain⟨d0,r⟩:=p
  intro w M go u0 vs hM hgoM hz hmp hrow hlv hargs
  have hown:∀b,Own M (ca (some (d0,r)) args).h (fun x=>if x=0 then go else none) b↔(M b∨tf go b):=by
   intro b
   constructor
   ·rintro (hb|⟨x,r',g,hx,_,hg,he⟩)
    ·exact .inl hb
    ·simp only[ca]at hx
     split at hx
     ·rename_i h0
      subst h0
      simp only[if_true]at hg
      exact .inr ⟨g,hg,he.symm⟩
     ·cases hx
   ·rintro (hb|⟨g,hg,he⟩)
    ·exact .inl hb
    ·exact .inr ⟨0,{ r with v:=0 },g,rfl,hz,by simpa using hg,he.symm⟩
  have hI:Inv fn.ntmps M (Jc go) w (fun x=>if x=0 then go else none) (fun x v=>x<fn.ntmps∧v<1) (ca (some (d0,r)) args).t (ca (some (d0,r)) args).h { tmps:=(#[u0]++vs)++Array.replicate (fn.ntmps-(#[u0]++vs).size) undef,defers:=[] } w:={
   tab:=fun b hb=>(hargs.tab b hb).less fun b hb=>(hown b).1 hb
   below:=dq.refl _ _
   mlt:=hM
   lent:=fun b hb=>hgoM b (Iy.1 hb)
   pin:=fun go' hg=>by
    cases hg
    exact⟨⟨by simp only[Hb]at hn;omega,afe⟩,fun r' _ _=>⟨rfl,fun g _=>rfl⟩⟩
   defers:=rfl
   tsz:=by have:=hargs.1;simp only[Hb]at hn;simp;omega
   slots:=fun i=>by
    simp only[ca]
    rcases yz (args:=d0::args) (vs:=#[u0]++vs) (n:=fn.ntmps) (i:=i) (by simp[hargs.1];omega) with he|he
    ·rw[he]
     cases i with
     | zero =>
      have e1:(#[u0]++vs).getD 0 undef=u0:=by simp[Array.getElem?_append]
      rw[e1]
      simp only[aeK]
      cases d0 with
      | buf x v sz o n =>
       have hxv:x=0∧v=0:=by
        simp only[Js]at hlo
        split at hlo<;>simp_all
       obtain⟨rfl,rfl⟩:=hxv
       exact⟨⟨by simp only[Hb]at hn;omega,afe⟩,fun r' h1 h2=>by simpa using hlv.2 ⟨0,0,[],false,false,false⟩ rfl rfl⟩
      | ptr x v o =>
       have hxv:x=0∧v=0:=by
        simp only[Js]at hlo
        split at hlo<;>simp_all
       obtain⟨rfl,rfl⟩:=hxv
       exact⟨⟨by simp only[Hb]at hn;omega,afe⟩,fun r' h1 h2=>by simpa using hlv.2 ⟨0,0,[],false,false,false⟩ rfl rfl⟩
      | _=>simp[Js]at hlo
     | succ i =>
      have e1:(#[u0]++vs).getD (i+1) undef=vs.getD i undef:=by
       simp only[adF]
       rw[Array.getElem?_append_right (by simp)]
       simp
      rw[e1]
      simp only[List.getD_cons_succ]
      by_cases hi:i<args.length
      ·have h1:=hargs.2 i _ (adN hi)
       have e1:args.getD i .und=args[i]:=by simp[List.getD,hi]
       rw[e1]
       exact bF (h1.less fun b hb=>(hown b).1 hb)
      ·have e1:args.getD i .und=.und:=by simp[List.getD,ae6 (afd hi)]
       rw[e1]
       trivial
    ·rw[he];trivial
   rows:=fun x r' hx=>by
    simp only[ca]at hx
    split at hx
    ·rename_i h0
     subst h0
     simp only[adJ]at hx
     subst hx
     refine⟨fun hn=>⟨hn,afe⟩,?_⟩
     simp only[if_true]
     cases go with
     | none=>exact hrow
     | some g =>
      obtain⟨cs,k1,k2,k3⟩:=hrow
      refine⟨.inr (Iy.2 ⟨g,rfl,rfl⟩),?_⟩
      unfold dQ
      simp only[hmp]
      exact⟨cs,k1,k2,fun j d hj=>⟨(k3 j d hj).1,(k3 j d hj).2.less fun b hb=>(hown b).1 hb⟩⟩
    ·cases hx
   inj:=fun x y r1 r2 g g' hx hy _ _ _=>by
    simp only[ca]at hx hy
    split at hx
    ·split at hy
     ·omega
     ·cases hy
    ·cases hx
   big:=hbig
   pha:=fun y r1 g hy hm=>by
    simp only[ca]at hy
    split at hy
    ·simp only[adJ]at hy
     subst hy
     simp_all
    ·cases hy
   ali:=fun y r1 g hy hz1=>by
    simp only[ca]at hy
    split at hy
    ·simp only[adJ]at hy
     subst hy
     simp_all
    ·cases hy }
  have hplain:EH (ca (some (d0,r)) args).h=(ca (some (d0,r)) args).h:=by
   refine Bp fun k r' hk =>?_
   simp only[ca]at hk
   split at hk
   ·rename_i h0
    subst h0
    simp only[adJ]at hk
    subst hk
    exact⟨(by have:=cU;omega),hmp⟩
   ·cases hk
  have hnv0:EE (ca (some (d0,r)) args).e [] (ca (some (d0,r)) args).h:=by
   intro x r' ty s nv cs hx hm'
   simp only[ca]at hx
   split at hx
   ·simp only[adJ]at hx
    subst hx
    simp only[hmp]at hm'
    cases hm'
   ·cases hx
  refine calls_of_wp hf hc ?_
  refine qn hT hΓ hm c (ca (some (d0,r)) args) x s _ _ _ hv hok ⟨_,⟨(by rw[hplain];exact hI.weaken fun x v hx =>.inl ⟨hx.1,.inl hx.2⟩),hnv0⟩⟩ (fun a' w' hH =>?_)
  obtain⟨blk',hIE⟩:=hH
  obtain⟨sE,hsE⟩:∃sE:St,sE=⟨s.t,EH s.h,s.e⟩:=⟨_,rfl⟩
  have hI':Inv fn.ntmps M (Jc go) w blk' (VE fn.ntmps s.e [] s.h) sE.t sE.h a' w':=by rw[hsE];exact hIE.inv
  rw[<- hsE]at hr
  have hbel:dq (tf go) w w':=⟨hI'.below.os,hI'.below.tape,hI'.below.output,hI'.below.size,fun k hk hn=>hI'.below.block k hk (fun hb=>hn (Iy.1 hb))⟩
  have hlast:∀r1,lQ (some (d0,r)) sE=some (some r1)->sE.h 0=some r1∧r1.v=0∧r1.fz=false∧(r1.ty=r.ty∧r1.mp=false)∧blk' 0=go∧(∀g,go=some g->w'.shape? g.1=w.shape? g.1)∧(∀b,(M b∨tf go b)->Own M sE.h blk' b):=by
   intro r1 hl
   simp only[lQ]at hl
   split at hl<;>try (cases hl;done)
   rename_i r2 h2
   split at hl<;>try (cases hl;done)
   rename_i hcond
   simp only[adJ]at hl
   subst hl
   obtain⟨c1,c2,c3⟩:=hcond
   obtain⟨_,k2⟩:=hI'.pin _ rfl
   obtain⟨k3,k4⟩:=k2 r2 h2 c1
   refine⟨h2,c1,c2,c3,k3,k4,?_⟩
   rintro b (hb|⟨g,hg,he⟩)
   ·exact .inl hb
   ·exact .inr ⟨0,r2,g,h2,c2,k3.trans hg,he.symm⟩
  have hrowin:∀r1,lQ (some (d0,r)) sE=some (some r1)->Rc w' (fun b=>M b∨tf go b) go r1:=by
   intro r1 hl
   obtain⟨h1,_,_,h4,h5,_,h7⟩:=hlast r1 hl
   have:=(hI'.rows 0 r1 h1).2
   rw[h5]at this
   cases go with
   | none=>exact this
   | some g =>
    have this:=this.2
    unfold dQ at this
    rw[h4.2]at this
    obtain⟨cs,k1,k2,k3⟩:=this
    exact⟨cs,k1,k2,fun j d hj=>⟨(k3 j d hj).1,(k3 j d hj).2.less h7⟩⟩
  have hpost:a'.defers=[]∧∃v,(results fn a'.tmps).run P w'=.ok v w'∧(∃v',Ending.returned v=.returned v'∧dq (tf go) w w'∧Zh w w' M go r out∧Zj w w' M go v' rk):=by
   refine⟨hI'.defers,?_⟩
   cases mode with
   | clean =>
    simp only[jo,tX]at hr
    split at hr<;>try (cases hr;done)
    rename_i ds fr o hres ho
    split at hr<;>try (cases hr;done)
    rename_i hfr
    simp only[YN,aec,List.contains_eq_mem,decide_eq_false_iff_not]at hfr
    simp only[adJ,Prod.mk.injEq]at hr
    obtain⟨rfl,rfl⟩:=hr
    cases o with
    | none =>
     simp only[lQ]at ho
     split at ho<;>try (cases ho;done)
     split at ho<;>cases ho
    | some r1 =>
     obtain⟨h1,h2,h3,h4,h5,h6,h7⟩:=hlast r1 ho
     have hless:nR M sE.h blk' fr (fun b=>M b∨tf go b):=by
      refine⟨h7,fun x hx r' g hx' hg hb =>?_⟩
      rcases hb with hb|⟨g',hg',he⟩
      ·exact hI'.notM hx' hg hb
      ·have:x=0:=hI'.inj x 0 r' r1 g g' hx' h1 hg (h5.trans hg') he
       subst this
       exact hfr hx
     obtain⟨v,hv1,hv2⟩:=uA (P:=P) hT hI' hres hless
     exact⟨v,hv1,v,rfl,hbel,⟨h4.1,h3,h4.2,h6,hrowin r1 ho⟩,hv2⟩
   | same =>
    simp only[jo,Bf]at hr
    split at hr<;>try (cases hr;done)
    rename_i i hrs
    split at hr<;>try (cases hr;done)
    rename_i sz o n r1 ht ho
    simp only[adJ,Prod.mk.injEq]at hr
    obtain⟨rfl,rfl⟩:=hr
    obtain⟨h1,h2,h3,h4,h5,h6,h7⟩:=hlast r1 ho
    refine⟨a'.tmps.getD i undef,lu hrs,_,rfl,hbel,⟨h4.1,h3,h4.2,h6,hrowin r1 ho⟩,?_⟩
    have hsl:=hI'.slots i
    rw[ht]at hsl
    refine⟨trivial,fun r' _ _ =>?_⟩
    have:=hsl.2 r1 h1 h2
    rw[h5]at this
    exact this
   | tight =>
    simp only[jo,CH]at hr
    cases hr
   | fresh ty0 s0 =>
    obtain⟨rfl,v,ty,sz,n,cells,rfl,hv1,hv2⟩:=hI'.qH (P:=P) hr
    refine⟨v,hv1,v,rfl,hbel,trivial,?_⟩
    rcases hv2 with⟨g,k1,cs,k2,k3,k4⟩|hv2
    ·exact .inl ⟨g,k1,cs,k2,k3.imp id (fun hb=>Iy.1 hb),k4⟩
    ·exact .inr hv2
  cases x with
  | normal=>exact hpost
  | ret=>exact hpost
  | exit n=>exact (hne n rfl).elim
def ext (Γ:Env) (f:Nat) (l:Bool) (G:Option (D×Row)->List D->Option (RK×Option Row)):Env:=⟨fun g=>if g=f then l else Γ.lends g,fun g lent adv=>if g=f then G lent adv else Γ.sem g lent adv,Γ.own,Γ.hint,Γ.ins,Γ.grw,Γ.nst,Γ.nx⟩
theorem bA.ext (hΓ:bA P Γ) {f:Nat} {l:Bool} {G:Option (D×Row)->List D->Option (RK×Option Row)} (hG:∀lent adv rk out,G lent adv=some (rk,out)->oD P f lent adv rk out) (hc:dw P f):bA P (Am.ext Γ f l G):=by
 refine⟨fun g lent adv rk out h =>?_,hΓ.ins,hΓ.grw,hΓ.lnd,hΓ.res⟩
 simp only[Am.ext]at h
 split at h
 ·rename_i he;subst he;exact⟨hG lent adv rk out h,hc⟩
 ·exact hΓ.calls g lent adv rk out h
def a6:Env:=⟨fun _=>false,fun _ _ _=>none,fun _=>true,fun _=>none,fun _=>none,fun _=>none,fun _=>none,{}⟩
theorem bA.none:bA P a6:=⟨fun f lent args rk out h=>(by cases h),fun f p h=>(by cases h),fun f p h=>(by cases h),fun f p h=>(by cases h),fun f p h=>(by cases h)⟩
def keep (d:Nat) (Γ:Env):Env:=⟨Γ.lends,Γ.sem,fun i=>i != d&&Γ.own i,Γ.hint,Γ.ins,Γ.grw,Γ.nst,Γ.nx⟩
theorem bA.keep (hΓ:bA P Γ) (d:Nat):bA P (Am.keep d Γ):=⟨hΓ.calls,hΓ.ins,hΓ.grw,hΓ.lnd,hΓ.res⟩
def wA (d y:Nat) (Γ:Env):Env:=⟨Γ.lends,Γ.sem,Γ.own,fun i=>if i=d then some y else Γ.hint i,Γ.ins,Γ.grw,Γ.nst,Γ.nx⟩
theorem bA.wA (hΓ:bA P Γ) (d y:Nat):bA P (Am.wA d y Γ):=⟨hΓ.calls,hΓ.ins,hΓ.grw,hΓ.lnd,hΓ.res⟩
def zd (f:Nat) (p:Nat×Nat×Nat) (Γ:Env):Env:=⟨Γ.lends,Γ.sem,Γ.own,Γ.hint,fun g=>if g=f then some p else Γ.ins g,Γ.grw,Γ.nst,Γ.nx⟩
theorem bA.zd (hΓ:bA P Γ) {f:Nat} {p:Nat×Nat×Nat} (hi:UX P f p):bA P (Am.zd f p Γ):=⟨hΓ.calls,fun g q h=>by
 simp only[Am.zd]at h
 split at h
 ·rename_i he;subst he;cases h;exact hi
 ·exact hΓ.ins g q h,hΓ.grw,hΓ.lnd,hΓ.res⟩
def ym (d:Nat) (p:Nat×Nat×Nat) (Γ:Env):Env:=⟨Γ.lends,Γ.sem,Γ.own,Γ.hint,Γ.ins,Γ.grw,fun i=>if i=d then some p else Γ.nst i,Γ.nx⟩
theorem bA.ym (hΓ:bA P Γ) (d:Nat) (p:Nat×Nat×Nat):bA P (Am.ym d p Γ):=⟨hΓ.calls,hΓ.ins,hΓ.grw,hΓ.lnd,hΓ.res⟩
def n9 (f:Nat) (p:Nat×(Nat->Nat->Nat->Nat->List D->List D->Option (D×List D))) (Γ:Env):Env:=⟨Γ.lends,Γ.sem,Γ.own,Γ.hint,Γ.ins,Γ.grw,Γ.nst,⟨fun g=>if g=f then some p else Γ.nx.lnd g,Γ.nx.res⟩⟩
theorem bA.n9 (hΓ:bA P Γ) {f:Nat} {p:Nat×(Nat->Nat->Nat->Nat->List D->List D->Option (D×List D))} (hc:dw P f) (hi:∀ty t s o cs args d cs',p.2 ty t s o cs args=some (d,cs')->Iv P f ty t s o cs args d cs'):bA P (Am.n9 f p Γ):=⟨hΓ.calls,hΓ.ins,hΓ.grw,fun g q h=>by
 simp only[Am.n9]at h
 split at h
 ·rename_i he;subst he;cases h;exact⟨hc,hi⟩
 ·exact hΓ.lnd g q h,hΓ.res⟩
def yl (f:Nat) (p:List D->Option (Nat×Nat×Nat×Nat×Nat×List D)) (Γ:Env):Env:=⟨Γ.lends,Γ.sem,Γ.own,Γ.hint,Γ.ins,Γ.grw,Γ.nst,⟨Γ.nx.lnd,fun g=>if g=f then some p else Γ.nx.res g⟩⟩
theorem bA.yl (hΓ:bA P Γ) {f:Nat} {p:List D->Option (Nat×Nat×Nat×Nat×Nat×List D)} (hc:dw P f) (hi:∀args ty t s S n cs,p args=some (ty,t,s,S,n,cs)->Iu P f args ty t s S n cs):bA P (Am.yl f p Γ):=⟨hΓ.calls,hΓ.ins,hΓ.grw,hΓ.lnd,fun g q h=>by
 simp only[Am.yl]at h
 split at h
 ·rename_i he;subst he;cases h;exact⟨hc,hi⟩
 ·exact hΓ.res g q h⟩
def CX (f:Nat) (p:Grow) (Γ:Env):Env:=⟨Γ.lends,Γ.sem,Γ.own,Γ.hint,Γ.ins,fun g=>if g=f then some p else Γ.grw g,Γ.nst,Γ.nx⟩
theorem bA.CX (hΓ:bA P Γ) {f:Nat} {p:Grow} (hi:UW P f p):bA P (Am.CX f p Γ):=⟨hΓ.calls,hΓ.ins,fun g q h=>by
 simp only[Am.CX]at h
 split at h
 ·rename_i he;subst he;cases h;exact hi
 ·exact hΓ.grw g q h,hΓ.lnd,hΓ.res⟩
end
def pz (ty t s o:Nat) (cs args:List D):St:=⟨fun i=>(.ptr 0 0 o::args).getD i .und,l7 (gD ty t s 0 cs),1⟩
def Wa (t s:Nat) (ds:List D):List D->Option (D×List D)
 | [.nr t' s' _ cs']=>if t'=t∧s'=s then some (mI ds,cs') else none
 | _=>none
def Lu (ty t s:Nat):Option (List D×List Nat)->Option Row->Option (D×List D)
 | some (ds,fr),some r=>if r.v=0∧r.fz=false∧r.ty=ty∧r.mp=true∧fr.all (fun k=>rt k != 0)=true then Wa t s ds r.cells else none
 | _,_=>none
def TT (T:Nat->Option Ty) (ty t s:Nat) (rs:List ResultVar) (st:St):Option (D×List D):=Lu ty t s (ux T ⟨st.t,EH st.h,st.e⟩ rs) (st.h 0)
def sQ (T:Nat->Option Ty) (Γ:Env) (F:Nat) (fn:Func) (ty t s o:Nat) (cs args:List D):Option (D×List D) :=
 match fn.body with
 | some c =>
  if fn.ntmps<=PK then
   match gg T Γ fn.ntmps F c (pz ty t s o cs args) with
   | some (.exit _,_)=>none
   | some (_,st)=>TT T ty t s fn.results.toList st
   | none=>none
  else none
 | none=>none
def V9 (x S n:Nat) (ty:Nat):List D->Option (Nat×Nat×Nat×Nat×Nat×List D)
 | [.nr t s _ cs]=>if x<PK then some (ty,t,s,S,n,cs) else none
 | _=>none
def Ls (x v S n:Nat):Option Row->Option (Nat×Nat×Nat×Nat×Nat×List D)
 | some r=>if r.v=v∧r.fz=false∧r.mp=true then V9 x S n r.ty r.cells else none
 | none=>none
def R1 (h:Nat->Option Row):D->Option (Nat×Nat×Nat×Nat×Nat×List D)
 | .buf x v S 0 n=>Ls x v S n (h x)
 | _=>none
def TS (rs:List ResultVar) (st:St):Option (Nat×Nat×Nat×Nat×Nat×List D) :=
 match rs with
 | [.tmp i]=>R1 st.h (st.t i)
 | _=>none
def sP (T:Nat->Option Ty) (Γ:Env) (F:Nat) (fn:Func) (args:List D):Option (Nat×Nat×Nat×Nat×Nat×List D) :=
 match fn.body with
 | some c =>
  if fn.ntmps<=PK then
   match gg T Γ fn.ntmps F c (ca none args) with
   | some (.exit _,_)=>none
   | some (_,st)=>TS fn.results.toList st
   | none=>none
  else none
 | none=>none
def Wb (T:Nat->Option Ty):Option (Nat×Nat×Nat×Nat×Nat×List D)->Option D
 | some (_,_,s,S,n,cs)=>if n*S<=cs.length∧cs.all (v7 s)=true then some (.sl false false n ((cs.map Ev).take (n*S))) else none
 | none=>none
def QW (T:Nat->Option Ty) (Γ:Env) (F:Nat) (fn:Func) (args:List D):Option D:=Wb T (sP T Γ F fn args)
section
variable {P:Program} {T:Nat->Option Ty} {N:Nat} {M:Nat->Prop} {L:j9} {w0:World} {blk:Nat->Option (Nat×Nat)} {a:Act} {w:World} {Γ:Env}
theorem JW (hT:jK P T) (hΓ:bA P Γ) (hm:P.follows .mixedOrders=true) {f:FuncId} {fn:Func} {F:Nat} {ty t s o:Nat} {cs args cs':List D} {d:D} (hf:P.funcs[f]? = some fn)
  (hok:(match fn.body with|some c=>codeOk c|none=>true)=true) (hn:args.length+1<=fn.ntmps)
  (hr:sQ T Γ F fn ty t s o cs args=some (d,cs')):Iv P f ty t s o cs args d cs':=by
 unfold sQ at hr
 split at hr<;>try (cases hr;done)
 rename_i c hc
 rw[hc]at hok
 simp only at hok
 split at hr<;>try (cases hr;done)
 rename_i hbig
 split at hr<;>try (cases hr;done)
 rename_i x st hne hv
 intro w M blk h0 h1 g0 vs hh0 hh1 hM hdis hg0 hR hargs
 have hpk:=cU
 have hfz:∀k r,h0 k=some r->r.fz=false:=by
  intro k r hk
  rw[hh0]at hk
  rcases iI hk with⟨_,rfl⟩|⟨_,_,_,_,_,rfl⟩<;>rfl
 have hown:∀b,Own M h0 blk b↔(M b∨uR blk h0 b):=by
  intro b
  constructor
  ·rintro (hb|⟨k,r,g,h1,_,h2,h3⟩)
   ·exact .inl hb
   ·exact .inr ⟨k,r,g,h1,h2,h3⟩
  ·rintro (hb|⟨k,r,g,h1,h2,h3⟩)
   ·exact .inl hb
   ·exact .inr ⟨k,r,g,h1,hfz k r h1,h2,h3⟩
 have hrow0:h0 0=some ⟨0,ty,cs.mapIdx (qm 0 s),false,true,true⟩:=by rw[hh0];exact uy
 obtain⟨LL,hLL⟩:∃LL:j9,LL=some (some g0,uR blk h0):=⟨_,rfl⟩
 have hLB:∀b,LB LL b↔uR blk h0 b:=by
  intro b
  subst hLL
  constructor
  ·rintro⟨p,hp,h⟩
   cases hp
   rcases h with⟨g,hg,rfl⟩|h
   ·cases hg;exact⟨0,_,g0,hrow0,hg0,rfl⟩
   ·exact h
  ·exact fun h=>⟨_,rfl,.inr h⟩
 have hI:Inv fn.ntmps M LL w blk (fun x v=>x<fn.ntmps∧v<1) (pz ty t s o cs args).t h0 { tmps:=(#[Value.pointer (some ⟨g0.1,g0.2+o,none⟩)]++vs)++Array.replicate (fn.ntmps-(#[Value.pointer (some ⟨g0.1,g0.2+o,none⟩)]++vs).size) undef,defers:=[] } w:={
  tab:=fun b hb=>(hargs.tab b hb).less fun b hb=>(hown b).1 hb
  below:=dq.refl _ _
  mlt:=hM
  lent:=fun b hb=>hdis b ((hLB b).1 hb)
  pin:=fun p hp=>by
   subst hLL
   cases hp
   exact⟨⟨by omega,afe⟩,fun r' _ _=>⟨hg0,fun g _=>rfl⟩⟩
  defers:=rfl
  tsz:=by have:=hargs.1;simp;omega
  slots:=fun i=>by
   simp only[pz]
   rcases yz (args := .ptr 0 0 o::args) (vs:=#[.pointer (some ⟨g0.1,g0.2+o,none⟩)]++vs) (n:=fn.ntmps) (i:=i) (by simp[hargs.1];omega) with he|he
   ·rw[he]
    cases i with
    | zero =>
     have e1:(#[Value.pointer (some ⟨g0.1,g0.2+o,none⟩)]++vs).getD 0 undef=.pointer (some ⟨g0.1,g0.2+o,none⟩):=by simp[Array.getElem?_append]
     rw[e1]
     simp only[aeK]
     exact⟨⟨by omega,afe⟩,fun r' _ _=>⟨g0,hg0,rfl⟩⟩
    | succ i =>
     have e1:(#[Value.pointer (some ⟨g0.1,g0.2+o,none⟩)]++vs).getD (i+1) undef=vs.getD i undef:=by
      simp only[adF]
      rw[Array.getElem?_append_right (by simp)]
      simp
     rw[e1]
     simp only[List.getD_cons_succ]
     by_cases hi:i<args.length
     ·have h1:=hargs.2 i _ (adN hi)
      have e1:args.getD i .und=args[i]:=by simp[List.getD,hi]
      rw[e1]
      exact bF (h1.less fun b hb=>(hown b).1 hb)
     ·have e1:args.getD i .und=.und:=by simp[List.getD,ae6 (afd hi)]
      rw[e1]
      trivial
   ·rw[he];trivial
  rows:=fun k r hk=>by
   refine⟨fun hn =>?_,?_⟩
   ·rw[hh0]at hk
    rcases iI hk with⟨rfl,rfl⟩|⟨o',_,_,rfl,_,rfl⟩
    ·exact⟨hn,afe⟩
    ·have:=fY 0 o';omega
   ·have:=hR.rows k r hk
    cases hg:blk k with
    | none=>rw[hg]at this;exact this
    | some g =>
     rw[hg]at this
     exact⟨.inr ((hLB g.1).2 ⟨k,r,g,hk,hg,rfl⟩),this.keep rfl rfl rfl rfl fun b q1 q2=>⟨q1,fun hb=>q2 ((hown b).1 hb),rfl⟩⟩
  inj:=hR.inj
  big:=hbig
  pha:=hR.pha
  ali:=fun y r g hy hz=>by rw[hfz y r hy]at hz;cases hz }
 have hnv0:EE (pz ty t s o cs args).e [] (pz ty t s o cs args).h:=by
  intro k r' ty' s' nv' cs1 hx hm' hcc
  simp only[pz,l7]at hx
  split at hx
  ·simp only[adJ]at hx
   subst hx
   simp only[gD,adY,D.nr.injEq,and_true]at hcc
   obtain⟨_,_,rfl,_⟩:=hcc
   exact fun _=>⟨by simp[pz],fun _=>by simp[pz]⟩
  ·cases hx
 have hEH:EH (pz ty t s o cs args).h=h0:=hh0.symm
 refine calls_of_wp hf hc ?_
 refine qn hT hΓ hm c (pz ty t s o cs args) x st _ _ _ hv hok ⟨_,⟨(by rw[hEH];exact hI.weaken fun x v hx=>Or.inl ⟨hx.1,Or.inl hx.2⟩),hnv0⟩⟩ (fun a' w' hH =>?_)
 obtain⟨blk',hIE⟩:=hH
 have hI':=hIE.inv
 unfold TT Lu at hr
 split at hr<;>try (cases hr;done)
 rename_i ds fr r1 hres hr1
 split at hr<;>try (cases hr;done)
 rename_i hcond
 obtain⟨c1,c2,c3,c4,c5⟩:=hcond
 unfold Wa at hr
 split at hr<;>try (cases hr;done)
 rename_i t' s' nv' cs1 hcells
 split at hr<;>try (cases hr;done)
 rename_i hts
 obtain⟨rfl,rfl⟩:=hts
 simp only[adJ,Prod.mk.injEq]at hr
 obtain⟨rfl,rfl⟩:=hr
 have hE0:=fJ hr1 c4 hcells mm
 obtain⟨p1,p2⟩:=(hI'.pin (some g0,uR blk h0) hLL).2 _ hE0 c1
 have hIB:=Ix (blk:=blk') hr1 c4 hcells mm
 rw[c3]at hIB
 have hQ:∀b,(M b∨uR (pD blk' 0) h1 b)->Own M (EH st.h) blk' b:=by
  rintro b (hb|hb)
  ·exact .inl hb
  ·rw[hh1]at hb
   obtain⟨k,r',g',q0,q1,q2,q3⟩:=(hIB b).1 hb
   refine .inr ⟨k,r',g',q1,?_,q2,q3⟩
   rcases dP hr1 c4 hcells mm q0 q1 with⟨_,rfl⟩|⟨_,_,_,_,_,rfl⟩<;>exact c2
 have hless:nR M (EH st.h) blk' fr (fun b=>M b∨uR (pD blk' 0) h1 b):=by
  refine⟨hQ,fun k hk r' g hk1 hg hb =>?_⟩
  rcases hb with hb|hb
  ·exact hI'.notM hk1 hg hb
  ·rw[hh1]at hb
   obtain⟨l,r2,g',q0,q1,q2,q3⟩:=(hIB _).1 hb
   have:=hI'.inj k l r' r2 g g' hk1 q1 hg q2 q3.symm
   subst this
   have:=adL.1 c5 _ hk
   simp[q0]at this
 obtain⟨v,hv1,hv2⟩:=uA (P:=P) (s:=⟨st.t,EH st.h,st.e⟩) hT hI' hres hless
 have hlend:=hI'.aaw hr1 c4 hcells c2 mm hQ
 rw[c3,<- hh1]at hlend
 have hpost:a'.defers=[]∧∃v,(results fn a'.tmps).run P w'=.ok v w'∧(∃v' blk1,Ending.returned v=.returned v'∧dq (uR blk h0) w w'∧blk1 0=some g0∧w'.shape? g0.1=w.shape? g0.1∧(∀b,uR blk1 h1 b->w.heap.size<=b∨uR blk h0 b)∧Fp w' (fun b=>M b∨uR blk1 h1 b) blk1 h1∧RP w' (fun b=>M b∨uR blk1 h1 b) (mI ds) v'):=by
  refine⟨hI'.defers,v,hv1,v,pD blk' 0,rfl,⟨hI'.below.os,hI'.below.tape,hI'.below.output,hI'.below.size,fun k hk hn=>hI'.below.block k hk fun hb=>hn ((hLB k).1 hb)⟩,by rw[pD,qz];exact p1,p2 g0 rfl,fun b hb =>?_,hlend,hv2⟩
  rw[hh1]at hb
  obtain⟨k,r',g',q0,q1,q2,q3⟩:=(hIB b).1 hb
  rcases hI'.base q1 q2 with q|q
  ·exact .inl (by omega)
  ·exact .inr (by rw[<- q3];exact (hLB _).1 q)
 cases x with
 | normal=>exact hpost
 | ret=>exact hpost
 | exit n=>exact (hne n rfl).elim
theorem abE (hT:jK P T) (hΓ:bA P Γ) (hm:P.follows .mixedOrders=true) {f:FuncId} {fn:Func} {F:Nat} {args:List D} {c:Code} {x:Ex} {st:St} (hf:P.funcs[f]? = some fn) (hc:fn.body=some c) (hok:codeOk c=true) (hn:args.length<=fn.ntmps) (hbig:fn.ntmps<=PK)
  (hv:gg T Γ fn.ntmps F c (ca none args)=some (x,st)) (hne:∀n,x ≠ .exit n) {w:World} {M:Nat->Prop} {vs:Array Value} (hM:∀b,M b->b<w.heap.size) (hargs:zE w M args vs) {Φ:Ending->World->Prop}
  (hk:∀a' w' blk',Inv fn.ntmps M none w blk' (VE fn.ntmps st.e [] st.h) st.t (EH st.h) a' w'->∃v,(results fn a'.tmps).run P w'=.ok v w'∧Φ (.returned v) w'):Calls P f vs w Φ:=by
 have hI:Inv fn.ntmps M none w (fun _=>none) (fun x v=>x<fn.ntmps∧v<0) (ca none args).t (ca none args).h { tmps:=vs++Array.replicate (fn.ntmps-vs.size) undef,defers:=[] } w:={
  tab:=fun b hb=>(hargs.tab b hb).less fun b hb=>by
   rcases hb with hb|⟨x,r,g,hx,_⟩
   ·exact hb
   ·cases hx
  below:=dq.refl _ _
  mlt:=hM
  lent:=fun b hb=>absurd hb rp
  pin:=fun go hg=>by cases hg
  defers:=rfl
  tsz:=by have:=hargs.1;simp;omega
  slots:=fun i=>by
   simp only[ca]
   rcases yz (n:=fn.ntmps) (i:=i) hargs.1 with he|he
   ·rw[he]
    by_cases hi:i<args.length
    ·have h1:=hargs.2 i _ (adN hi)
     have e1:args.getD i .und=args[i]:=by simp[List.getD,hi]
     rw[e1]
     exact bF (h1.less fun b hb=>by
      rcases hb with hb|⟨x,r,g,hx,_⟩
      ·exact hb
      ·cases hx)
    ·have e1:args.getD i .und=.und:=by simp[List.getD,ae6 (afd hi)]
     rw[e1]
     trivial
   ·rw[he];trivial
  rows:=fun x r hx=>by cases hx
  inj:=fun x y r s g g' hx=>by cases hx
  big:=hbig
  pha:=fun y r g hy=>by cases hy
  ali:=fun y r g hy=>by cases hy }
 refine calls_of_wp hf hc ?_
 refine qn hT hΓ hm c (ca none args) x st _ _ _ hv hok ⟨_,⟨(by rw[Bp (fun k r hk=>by cases hk)];exact hI.weaken fun x v hx=>absurd hx.2 (Nat.not_lt_zero _)),fun x r ty s nv cs hx=>by cases hx⟩⟩ (fun a' w' hH =>?_)
 obtain⟨blk',hIE⟩:=hH
 obtain⟨v,h1,h2⟩:=hk a' w' blk' hIE.inv
 have hpost:a'.defers=[]∧∃v,(results fn a'.tmps).run P w'=.ok v w'∧Φ (.returned v) w':=⟨hIE.inv.defers,v,h1,h2⟩
 cases x with
 | normal=>exact hpost
 | ret=>exact hpost
 | exit n=>exact (hne n rfl).elim
theorem AT {F:Nat} {fn:Func} {args:List D} {ty t s S n:Nat} {cs:List D} (hr:sP T Γ F fn args=some (ty,t,s,S,n,cs)) :
  ∃c x st i k v r nv,fn.body=some c∧fn.ntmps<=PK∧gg T Γ fn.ntmps F c (ca none args)=some (x,st)∧(∀m,x ≠ .exit m)∧fn.results.toList=[.tmp i]∧st.t i=.buf k v S 0 n∧st.h k=some r∧r.v=v∧r.fz=false∧r.mp=true∧k<PK∧r.ty=ty∧r.cells=[.nr t s nv cs]:=by
 unfold sP at hr
 split at hr<;>try (cases hr;done)
 rename_i c hc
 split at hr<;>try (cases hr;done)
 rename_i hbig
 split at hr<;>try (cases hr;done)
 rename_i x st hne hv
 unfold TS at hr
 split at hr<;>try (cases hr;done)
 rename_i i hrs
 unfold R1 at hr
 split at hr<;>try (cases hr;done)
 rename_i k v S' n' ht
 unfold Ls at hr
 split at hr<;>try (cases hr;done)
 rename_i r hh
 split at hr<;>try (cases hr;done)
 rename_i hcond
 unfold V9 at hr
 split at hr<;>try (cases hr;done)
 rename_i t' s' nv cs' hcells
 split at hr<;>try (cases hr;done)
 rename_i hk
 simp only[adJ,Prod.mk.injEq]at hr
 obtain⟨h1,h2,h3,h4,h5,h6⟩:=hr
 subst h2 h3 h4 h5 h6
 exact⟨c,x,st,i,k,v,r,nv,hc,hbig,hv,fun m hm=>hne m hm,hrs,ht,hh,hcond.1,hcond.2.1,hcond.2.2,hk,h1,hcells⟩
theorem JV (hT:jK P T) (hΓ:bA P Γ) (hm:P.follows .mixedOrders=true) {f:FuncId} {fn:Func} {F:Nat} {args:List D} {ty t s S n:Nat} {cs:List D} (hf:P.funcs[f]? = some fn)
  (hok:(match fn.body with|some c=>codeOk c|none=>true)=true) (hn:args.length<=fn.ntmps)
  (hr:sP T Γ F fn args=some (ty,t,s,S,n,cs)):Iu P f args ty t s S n cs:=by
 obtain⟨c,x,st,i,k,v,r,nv,hc,hbig,hv,hne,hrs,ht,hh,c1,c2,c3,hk,hty,hcells⟩:=AT hr
 rw[hc]at hok
 simp only at hok
 intro w M h vs hh0 hM hargs
 refine abE hT hΓ hm hf hc hok hn hbig hv hne hM hargs fun a' w' blk' hI' =>?_
 have hIB:=Ix (blk:=blk') hh c3 hcells hk
 rw[hty,<- hh0]at hIB
 have hbel:Below w.heap.size w w':=hI'.below.below (fun b hb=>absurd hb rp)
 have hQ:∀b,(M b∨uR (pD blk' k) h b)->Own M (EH st.h) blk' b:=by
  rintro b (hb|hb)
  ·exact .inl hb
  ·obtain⟨l,r',g',q0,q1,q2,q3⟩:=(hIB b).1 hb
   refine .inr ⟨l,r',g',q1,?_,q2,q3⟩
   rcases dP hh c3 hcells hk q0 q1 with⟨_,rfl⟩|⟨_,_,_,_,_,rfl⟩<;>exact c2
 have hlend:=hI'.aaw hh c3 hcells c2 hk hQ
 rw[hty,<- hh0]at hlend
 have hsl:=hI'.slots i
 rw[ht]at hsl
 refine⟨_,lu hrs,_,pD blk' k,rfl,hbel,fun b hb =>?_,hlend,trivial,fun r' _ _ =>?_⟩
 ·obtain⟨l,r',g',q0,q1,q2,q3⟩:=(hIB b).1 hb
  rcases hI'.base q1 q2 with q|q
  ·omega
  ·exact absurd q rp
 ·rw[pD,qz]
  exact hsl.2 _ (fJ hh c3 hcells hk) c1
theorem XU {s:Nat} {d:D} (h:v7 s d=true):fk (Ev d)=true:=by
 cases d<;>first|rfl|exact h
theorem JX (hT:jK P T) (hΓ:bA P Γ) (hm:P.follows .mixedOrders=true) {f:FuncId} {fn:Func} {F:Nat} {args:List D} {d:D} (hf:P.funcs[f]? = some fn)
  (hok:(match fn.body with|some c=>codeOk c|none=>true)=true) (hn:args.length<=fn.ntmps)
  (hr:QW T Γ F fn args=some d):oD P f none args (.clean d) none:=by
 unfold QW Wb at hr
 split at hr<;>try (cases hr;done)
 rename_i ty t s S n cs hF
 split at hr<;>try (cases hr;done)
 rename_i hcond
 simp only[adJ]at hr
 subst hr
 obtain⟨hle,hall⟩:=hcond
 obtain⟨c,x,st,i,k,v,r,nv,hc,hbig,hv,hne,hrs,ht,hh,c1,c2,c3,hk,hty,hcells⟩:=AT hF
 rw[hc]at hok
 simp only at hok
 intro w M vs hM hargs
 refine abE hT hΓ hm hf hc hok hn hbig hv hne hM hargs fun a' w' blk' hI' =>?_
 have hbel:Below w.heap.size w w':=hI'.below.below (fun b hb=>absurd hb rp)
 obtain⟨k1,_⟩:=hI'.aar (o:=0) hh c3 hcells c2 hk cs.length (by rw[aeU,afA];exact hall)
 have hw:qW cs.length 0 cs=cs.map Ev:=by
  apply afB
  intro j
  rw[sR,adx]
  cases hj:cs[j]? with
  | none=>rfl
  | some d =>
   have:=(ad3.1 hj).1
   simp only[Option.map_some]
   rw[if_pos (by omega)]
 rw[hw]at k1
 generalize hh2:cc st.h k (some (⟨r.v,r.ty,[.nr t s nv (cs.map Ev)],false,r.lst,true⟩:Row))=h2 at k1
 have hx2:h2 k=some ⟨r.v,r.ty,[.nr t s nv (cs.map Ev)],false,r.lst,true⟩:=by rw[<- hh2,ax]
 have hEk:=fJ hx2 rfl rfl hk
 have k2:=k1.l6 (x:=k) (r:=⟨r.v,r.ty,(cs.map Ev).mapIdx (qm k s),false,r.lst,true⟩) (r0:=⟨r.v,r.ty,cs.map Ev,false,r.lst,false⟩) (w':=w') hEk rfl rfl rfl rfl rfl (adA _) (fun _ _ _=>rfl) (by
  cases hg:blk' k with
  | none =>
   have:=(k1.rows k _ hEk).2
   rw[hg]at this
   have h1:(cs.map Ev).mapIdx (qm k s)=[]:=this
   have h2:(cs.map Ev).length=0:=by
    have:=congrArg List.length h1
    simpa using this
   exact aeJ h2
  | some g =>
   obtain⟨arr,a1,a2,a3⟩:=k1.Dq hx2 rfl rfl hk hg
   refine⟨rfl,arr,a1,a2,fun j d hj =>?_⟩
   have hd:fk d=true:=by
    have:=hj
    simp only[adx,ady]at this
    obtain⟨d0,hd0,rfl⟩:=this
    exact XU (adL.1 hall d0 (ad2 hd0))
   exact⟨(gu hd).1,a3 j d hj hd⟩) (fun h=>by cases h)
 have hlive:live (cc (EH h2) k (some ⟨r.v,r.ty,cs.map Ev,false,r.lst,false⟩)) k v=some ⟨r.v,r.ty,cs.map Ev,false,r.lst,false⟩:=by
  unfold live
  rw[ax]
  simp[c1]
 have hcl:Am.bp (cc (EH h2) k (some ⟨r.v,r.ty,cs.map Ev,false,r.lst,false⟩)) (.buf k v S 0 n)=some (.sl false false n ((cs.map Ev).take (n*S)),[k]):=by
  simp only[Am.bp,Am.aN,Am.cY,hlive,aen,aeU]
  rw[if_pos (by rw[ad4];exact hle)]
  rfl
 have hsl:=k2.slots i
 rw[ht]at hsl
 exact⟨_,lu hrs,_,rfl,hbel,k2.bp hcl (k2.ZJ [k]) hsl⟩
end
def tab (t:Nat):Option Ty :=
 match t with
 | 2=>some ⟨.int .i64,1,8,[.int .i64 0],false⟩
 | 3=>some ⟨.int .i64,1,8,[.int .i64 0],false⟩
 | 4=>some ⟨.bool,1,1,[.bool false],false⟩
 | 5=>some ⟨.int .u8,1,1,[.int .u8 0],false⟩
 | 9=>some ⟨.str,1,16,[.string ⟨#[]⟩],false⟩
 | 12=>some ⟨.int .u64,1,8,[.int .u64 0],false⟩
 | 21=>some ⟨.int .i32,1,4,[.int .i32 0],false⟩
 | 22=>some ⟨.slice 46,1,24,[.slice none 0 0],false⟩
 | 23=>some ⟨.struct [(3,0),(22,1)],2,32,[.int .i64 0,.slice none 0 0],false⟩
 | 24=>some ⟨.struct [(3,0),(22,1)],2,32,[.int .i64 0,.slice none 0 0],false⟩
 | 25=>some ⟨.slice 41,1,24,[.slice none 0 0],false⟩
 | 30=>some ⟨.int .i64,1,8,[.int .i64 0],false⟩
 | 33=>some ⟨.slice 3,1,24,[.slice none 0 0],false⟩
 | 37=>some ⟨.slice 4,1,24,[.slice none 0 0],false⟩
 | 38=>some ⟨.struct [(3,0),(33,1)],2,32,[.int .i64 0,.slice none 0 0],false⟩
 | 39=>some ⟨.struct [(3,0),(33,1)],2,32,[.int .i64 0,.slice none 0 0],false⟩
 | 40=>some ⟨.struct [(39,0),(39,2)],4,64,[.int .i64 0,.slice none 0 0,.int .i64 0,.slice none 0 0],false⟩
 | 41=>some ⟨.struct [(39,0),(39,2)],4,64,[.int .i64 0,.slice none 0 0,.int .i64 0,.slice none 0 0],false⟩
 | 45=>some ⟨.struct [(3,0),(3,1),(41,2)],6,80,[.int .i64 0,.int .i64 0,.int .i64 0,.slice none 0 0,.int .i64 0,.slice none 0 0],false⟩
 | 46=>some ⟨.struct [(3,0),(3,1),(41,2)],6,80,[.int .i64 0,.int .i64 0,.int .i64 0,.slice none 0 0,.int .i64 0,.slice none 0 0],false⟩
 | 55=>some ⟨.slice 5,1,24,[.slice none 0 0],false⟩
 | 65=>some ⟨.slice 69,1,24,[.slice none 0 0],false⟩
 | 67=>some ⟨.slice 74,1,24,[.slice none 0 0],false⟩
 | 68=>some ⟨.struct [(41,0),(67,4)],5,88,[.int .i64 0,.slice none 0 0,.int .i64 0,.slice none 0 0,.slice none 0 0],false⟩
 | 69=>some ⟨.struct [(41,0),(67,4)],5,88,[.int .i64 0,.slice none 0 0,.int .i64 0,.slice none 0 0,.slice none 0 0],false⟩
 | 73=>some ⟨.struct [(3,0),(41,1)],5,72,[.int .i64 0,.int .i64 0,.slice none 0 0,.int .i64 0,.slice none 0 0],false⟩
 | 74=>some ⟨.struct [(3,0),(41,1)],5,72,[.int .i64 0,.int .i64 0,.slice none 0 0,.int .i64 0,.slice none 0 0],false⟩
 | 97=>some ⟨.slice 33,1,24,[.slice none 0 0],false⟩
 | 111=>some ⟨.int .u64,1,8,[.int .u64 0],false⟩
 | 117=>some ⟨.int .u64,1,8,[.int .u64 0],false⟩
 | 123=>some ⟨.int .u32,1,4,[.int .u32 0],false⟩
 | _=>none
theorem Z0:tab 2=some ⟨.int .i64,1,8,[.int .i64 0],false⟩:=rfl
theorem Tj:tab 3=some ⟨.int .i64,1,8,[.int .i64 0],false⟩:=rfl
theorem Z1:tab 4=some ⟨.bool,1,1,[.bool false],false⟩:=rfl
theorem Z2:tab 5=some ⟨.int .u8,1,1,[.int .u8 0],false⟩:=rfl
theorem Z3:tab 9=some ⟨.str,1,16,[.string ⟨#[]⟩],false⟩:=rfl
theorem Xq:tab 12=some ⟨.int .u64,1,8,[.int .u64 0],false⟩:=rfl
theorem Xr:tab 21=some ⟨.int .i32,1,4,[.int .i32 0],false⟩:=rfl
theorem QB:tab 22=some ⟨.slice 46,1,24,[.slice none 0 0],false⟩:=rfl
theorem Xt:tab 23=some ⟨.struct [(3,0),(22,1)],2,32,[.int .i64 0,.slice none 0 0],false⟩:=rfl
theorem JO:tab 24=some ⟨.struct [(3,0),(22,1)],2,32,[.int .i64 0,.slice none 0 0],false⟩:=rfl
theorem Ei:tab 25=some ⟨.slice 41,1,24,[.slice none 0 0],false⟩:=rfl
theorem Xu:tab 30=some ⟨.int .i64,1,8,[.int .i64 0],false⟩:=rfl
theorem JP:tab 33=some ⟨.slice 3,1,24,[.slice none 0 0],false⟩:=rfl
theorem Xv:tab 37=some ⟨.slice 4,1,24,[.slice none 0 0],false⟩:=rfl
theorem Xw:tab 38=some ⟨.struct [(3,0),(33,1)],2,32,[.int .i64 0,.slice none 0 0],false⟩:=rfl
theorem QC:tab 39=some ⟨.struct [(3,0),(33,1)],2,32,[.int .i64 0,.slice none 0 0],false⟩:=rfl
theorem Xx:tab 40=some ⟨.struct [(39,0),(39,2)],4,64,[.int .i64 0,.slice none 0 0,.int .i64 0,.slice none 0 0],false⟩:=rfl
theorem JQ:tab 41=some ⟨.struct [(39,0),(39,2)],4,64,[.int .i64 0,.slice none 0 0,.int .i64 0,.slice none 0 0],false⟩:=rfl
theorem Xy:tab 45=some ⟨.struct [(3,0),(3,1),(41,2)],6,80,[.int .i64 0,.int .i64 0,.int .i64 0,.slice none 0 0,.int .i64 0,.slice none 0 0],false⟩:=rfl
theorem JR:tab 46=some ⟨.struct [(3,0),(3,1),(41,2)],6,80,[.int .i64 0,.int .i64 0,.int .i64 0,.slice none 0 0,.int .i64 0,.slice none 0 0],false⟩:=rfl
theorem Xz:tab 55=some ⟨.slice 5,1,24,[.slice none 0 0],false⟩:=rfl
theorem XA:tab 65=some ⟨.slice 69,1,24,[.slice none 0 0],false⟩:=rfl
theorem XB:tab 67=some ⟨.slice 74,1,24,[.slice none 0 0],false⟩:=rfl
theorem XC:tab 68=some ⟨.struct [(41,0),(67,4)],5,88,[.int .i64 0,.slice none 0 0,.int .i64 0,.slice none 0 0,.slice none 0 0],false⟩:=rfl
theorem QD:tab 69=some ⟨.struct [(41,0),(67,4)],5,88,[.int .i64 0,.slice none 0 0,.int .i64 0,.slice none 0 0,.slice none 0 0],false⟩:=rfl
theorem XD:tab 73=some ⟨.struct [(3,0),(41,1)],5,72,[.int .i64 0,.int .i64 0,.slice none 0 0,.int .i64 0,.slice none 0 0],false⟩:=rfl
theorem XE:tab 74=some ⟨.struct [(3,0),(41,1)],5,72,[.int .i64 0,.int .i64 0,.slice none 0 0,.int .i64 0,.slice none 0 0],false⟩:=rfl
theorem XF:tab 97=some ⟨.slice 33,1,24,[.slice none 0 0],false⟩:=rfl
theorem Tg:tab 111=some ⟨.int .u64,1,8,[.int .u64 0],false⟩:=rfl
theorem Th:tab 117=some ⟨.int .u64,1,8,[.int .u64 0],false⟩:=rfl
theorem Ti:tab 123=some ⟨.int .u32,1,4,[.int .u32 0],false⟩:=rfl
theorem acX:gh Try.prog 2 ⟨.int .i64,1,8,[.int .i64 0],false⟩:=⟨by kernel_rfl,by kernel_rfl,by kernel_rfl,fun h=>by cases h⟩
theorem acY:gh Try.prog 3 ⟨.int .i64,1,8,[.int .i64 0],false⟩:=⟨by kernel_rfl,by kernel_rfl,by kernel_rfl,fun h=>by cases h⟩
theorem acZ:gh Try.prog 4 ⟨.bool,1,1,[.bool false],false⟩:=⟨by kernel_rfl,by kernel_rfl,by kernel_rfl,fun h=>by cases h⟩
theorem ac0:gh Try.prog 5 ⟨.int .u8,1,1,[.int .u8 0],false⟩:=⟨by kernel_rfl,by kernel_rfl,by kernel_rfl,fun h=>by cases h⟩
theorem ac1:gh Try.prog 9 ⟨.str,1,16,[.string ⟨#[]⟩],false⟩:=⟨by kernel_rfl,by kernel_rfl,by kernel_rfl,fun h=>by cases h⟩
theorem abN:gh Try.prog 12 ⟨.int .u64,1,8,[.int .u64 0],false⟩:=⟨by kernel_rfl,by kernel_rfl,by kernel_rfl,fun h=>by cases h⟩
theorem abO:gh Try.prog 21 ⟨.int .i32,1,4,[.int .i32 0],false⟩:=⟨by kernel_rfl,by kernel_rfl,by kernel_rfl,fun h=>by cases h⟩
theorem abP:gh Try.prog 22 ⟨.slice 46,1,24,[.slice none 0 0],false⟩:=⟨by kernel_rfl,by kernel_rfl,by kernel_rfl,fun h=>by cases h⟩
theorem abQ:gh Try.prog 23 ⟨.struct [(3,0),(22,1)],2,32,[.int .i64 0,.slice none 0 0],false⟩:=⟨by kernel_rfl,by kernel_rfl,by kernel_rfl,fun h=>by cases h⟩
theorem abR:gh Try.prog 24 ⟨.struct [(3,0),(22,1)],2,32,[.int .i64 0,.slice none 0 0],false⟩:=⟨by kernel_rfl,by kernel_rfl,by kernel_rfl,fun h=>by cases h⟩
theorem abS:gh Try.prog 25 ⟨.slice 41,1,24,[.slice none 0 0],false⟩:=⟨by kernel_rfl,by kernel_rfl,by kernel_rfl,fun h=>by cases h⟩
theorem abT:gh Try.prog 30 ⟨.int .i64,1,8,[.int .i64 0],false⟩:=⟨by kernel_rfl,by kernel_rfl,by kernel_rfl,fun h=>by cases h⟩
theorem abU:gh Try.prog 33 ⟨.slice 3,1,24,[.slice none 0 0],false⟩:=⟨by kernel_rfl,by kernel_rfl,by kernel_rfl,fun h=>by cases h⟩
theorem abV:gh Try.prog 37 ⟨.slice 4,1,24,[.slice none 0 0],false⟩:=⟨by kernel_rfl,by kernel_rfl,by kernel_rfl,fun h=>by cases h⟩
theorem abW:gh Try.prog 38 ⟨.struct [(3,0),(33,1)],2,32,[.int .i64 0,.slice none 0 0],false⟩:=⟨by kernel_rfl,by kernel_rfl,by kernel_rfl,fun h=>by cases h⟩
theorem abX:gh Try.prog 39 ⟨.struct [(3,0),(33,1)],2,32,[.int .i64 0,.slice none 0 0],false⟩:=⟨by kernel_rfl,by kernel_rfl,by kernel_rfl,fun h=>by cases h⟩
theorem abY:gh Try.prog 40 ⟨.struct [(39,0),(39,2)],4,64,[.int .i64 0,.slice none 0 0,.int .i64 0,.slice none 0 0],false⟩:=⟨by kernel_rfl,by kernel_rfl,by kernel_rfl,fun h=>by cases h⟩
theorem abZ:gh Try.prog 41 ⟨.struct [(39,0),(39,2)],4,64,[.int .i64 0,.slice none 0 0,.int .i64 0,.slice none 0 0],false⟩:=⟨by kernel_rfl,by kernel_rfl,by kernel_rfl,fun h=>by cases h⟩
theorem ab0:gh Try.prog 45 ⟨.struct [(3,0),(3,1),(41,2)],6,80,[.int .i64 0,.int .i64 0,.int .i64 0,.slice none 0 0,.int .i64 0,.slice none 0 0],false⟩:=⟨by kernel_rfl,by kernel_rfl,by kernel_rfl,fun h=>by cases h⟩
theorem ab1:gh Try.prog 46 ⟨.struct [(3,0),(3,1),(41,2)],6,80,[.int .i64 0,.int .i64 0,.int .i64 0,.slice none 0 0,.int .i64 0,.slice none 0 0],false⟩:=⟨by kernel_rfl,by kernel_rfl,by kernel_rfl,fun h=>by cases h⟩
theorem ab2:gh Try.prog 55 ⟨.slice 5,1,24,[.slice none 0 0],false⟩:=⟨by kernel_rfl,by kernel_rfl,by kernel_rfl,fun h=>by cases h⟩
theorem ab3:gh Try.prog 65 ⟨.slice 69,1,24,[.slice none 0 0],false⟩:=⟨by kernel_rfl,by kernel_rfl,by kernel_rfl,fun h=>by cases h⟩
theorem ab4:gh Try.prog 67 ⟨.slice 74,1,24,[.slice none 0 0],false⟩:=⟨by kernel_rfl,by kernel_rfl,by kernel_rfl,fun h=>by cases h⟩
theorem ab5:gh Try.prog 68 ⟨.struct [(41,0),(67,4)],5,88,[.int .i64 0,.slice none 0 0,.int .i64 0,.slice none 0 0,.slice none 0 0],false⟩:=⟨by kernel_rfl,by kernel_rfl,by kernel_rfl,fun h=>by cases h⟩
theorem ab6:gh Try.prog 69 ⟨.struct [(41,0),(67,4)],5,88,[.int .i64 0,.slice none 0 0,.int .i64 0,.slice none 0 0,.slice none 0 0],false⟩:=⟨by kernel_rfl,by kernel_rfl,by kernel_rfl,fun h=>by cases h⟩
theorem ab7:gh Try.prog 73 ⟨.struct [(3,0),(41,1)],5,72,[.int .i64 0,.int .i64 0,.slice none 0 0,.int .i64 0,.slice none 0 0],false⟩:=⟨by kernel_rfl,by kernel_rfl,by kernel_rfl,fun h=>by cases h⟩
theorem ab8:gh Try.prog 74 ⟨.struct [(3,0),(41,1)],5,72,[.int .i64 0,.int .i64 0,.slice none 0 0,.int .i64 0,.slice none 0 0],false⟩:=⟨by kernel_rfl,by kernel_rfl,by kernel_rfl,fun h=>by cases h⟩
theorem ab9:gh Try.prog 97 ⟨.slice 33,1,24,[.slice none 0 0],false⟩:=⟨by kernel_rfl,by kernel_rfl,by kernel_rfl,fun h=>by cases h⟩
theorem aaR:gh Try.prog 111 ⟨.int .u64,1,8,[.int .u64 0],false⟩:=⟨by kernel_rfl,by kernel_rfl,by kernel_rfl,fun h=>by cases h⟩
theorem aaS:gh Try.prog 117 ⟨.int .u64,1,8,[.int .u64 0],false⟩:=⟨by kernel_rfl,by kernel_rfl,by kernel_rfl,fun h=>by cases h⟩
theorem aaT:gh Try.prog 123 ⟨.int .u32,1,4,[.int .u32 0],false⟩:=⟨by kernel_rfl,by kernel_rfl,by kernel_rfl,fun h=>by cases h⟩
theorem tok:jK Try.prog tab:=by
 intro t τ h
 unfold tab at h
 split at h
 ·cases h;exact acX
 ·cases h;exact acY
 ·cases h;exact acZ
 ·cases h;exact ac0
 ·cases h;exact ac1
 ·cases h;exact abN
 ·cases h;exact abO
 ·cases h;exact abP
 ·cases h;exact abQ
 ·cases h;exact abR
 ·cases h;exact abS
 ·cases h;exact abT
 ·cases h;exact abU
 ·cases h;exact abV
 ·cases h;exact abW
 ·cases h;exact abX
 ·cases h;exact abY
 ·cases h;exact abZ
 ·cases h;exact ab0
 ·cases h;exact ab1
 ·cases h;exact ab2
 ·cases h;exact ab3
 ·cases h;exact ab4
 ·cases h;exact ab5
 ·cases h;exact ab6
 ·cases h;exact ab7
 ·cases h;exact ab8
 ·cases h;exact ab9
 ·cases h;exact aaR
 ·cases h;exact aaS
 ·cases h;exact aaT
 ·cases h
theorem mixed:Try.prog.follows .mixedOrders=true:=by kernel_rfl
def pg {α:Type} (x:Option α) (K:α->Prop):Prop :=
 match x with
 | some a=>K a
 | none=>False
def br (b:Bool) (A B:Prop):Prop:=(b=true->A)∧(b=false->B)
def QX (d:D) (t:Nat->D) (g:Nat) (A B:(Nat->D)->Prop):Prop :=
 match d with
 | .bool b=>br b (A (cc t g (.bool b))) (B (cc t g (.bool b)))
 | _=>False
def wpS (d:D) (t:Nat->D) (g:Nat) (A B S:(Nat->D)->Prop):Prop :=
 match d with
 | .skp=>S t
 | d=>QX d t g A B
theorem yG {t:Nat->D} {g:Nat} {b:Bool} {A B S:(Nat->D)->Prop} : wpS (.bool b) t g A B S=br b (A (cc t g (.bool b))) (B (cc t g (.bool b))):=rfl
def X1 (ops:List Oper) (t:Nat->D) (gd:Option (Nat×Bool)) (A B:(Nat->D)->Prop):Prop :=
 match gd with
 | none=>A t
 | some (j,want)=>pg ((ops[j]?).bind (·.dst)) fun g=>wpS (t g) t g (if want then A else B) (if want then B else A) B
def QZ (T:Nat->Option Ty) (Γ:Env) (e:Nat) (o:Oper) (t:Nat->D) (h:Nat->Option Row) (K:(Nat->D)->bP->Prop):Prop :=
 match o.op with
 | .pick (.tmp c) a b=>QX (t c) t c (fun t=>K t ⟨ev t a,[]⟩) (fun t=>K t ⟨ev t b,[]⟩)
 | _=>pg (pC T Γ e o (ev t) h) (K t)
def D5 (T:Nat->Option Ty) (Γ:Env) (N e:Nat) (ops:List Oper):List Oper->(Nat->D)->(Nat->Option Row)->((Nat->D)->(Nat->Option Row)->Prop)->Prop
 | [],t,h,K=>K t h
 | o::l,t,h,K=>fits N o.dst=true∧X1 ops t o.guard (fun t=>QZ T Γ e o t h fun t E=>D5 T Γ N e ops l (ec t o.dst E.val) (aJ h E.hw) K) (fun t=>D5 T Γ N e ops l (ec t o.dst .skp) h K)
def runK (T:Nat->Option Ty) (Γ:Env) (N e:Nat) (ops:List Oper):List Oper->(Nat->D)->(Nat->Option Row)->List j8->((Nat->D)->(Nat->Option Row)->List j8->Prop)->Prop
 | [],t,h,fs,K=>K t h fs
 | o::l,t,h,fs,K=>fits N o.dst=true∧X1 ops t o.guard (fun t=>QZ T Γ e o t h fun t E=>runK T Γ N e ops l (ec t o.dst E.val) (aJ h E.hw) (fs++[⟨bj o (ev t),E.hw.isEmpty⟩]) K) (fun t=>runK T Γ N e ops l (ec t o.dst .skp) h (fs++[⟨[],true⟩]) K)
abbrev Kt:=Ex->(Nat->D)->(Nat->Option Row)->Nat->Prop
def abH (x:Ex) (A:Prop) (B:Prop):Prop :=
 match x with
 | .normal=>A
 | _=>B
def Vo (id:Nat) (x:Ex) (t:Nat->D) (h:Nat->Option Row) (e:Nat) (K:Kt):Prop :=
 match x with
 | .exit n=>if n=id then K .normal t h e else K (.exit n) t h e
 | x=>K x t h e
def wpR (T:Nat->Option Ty) (Γ:Env) (N:Nat) (ops:Array Oper) (draw:Bool) (t:Nat->D) (h:Nat->Option Row) (e:Nat) (K:(Nat->D)->(Nat->Option Row)->Prop):Prop :=
 match draw with
 | true=>runK T Γ N e ops.toList ops.toList t h [] fun t h fs=>Cq ops fs=true∧K t h
 | false=>D5 T Γ N e ops.toList ops.toList t h K
def J3 (T:Nat->Option Ty) (Γ:Env) (N F:Nat):Code->(Nat->D)->(Nat->Option Row)->Nat->Kt->Prop
 | .skip,t,h,e,K=>K .normal t h e
 | .region _ ops draw,t,h,e,K=>wpR T Γ N ops draw t h e fun t h=>K .normal t h (e+1)
 | .seq a b,t,h,e,K=>J3 T Γ N F a t h e fun x t h e=>abH x (J3 T Γ N F b t h e K) (K x t h e)
 | .cond c x y,t,h,e,K =>
  match c with
  | .tmp g=>QX (t g) t g (fun t=>J3 T Γ N F x t h e K) (fun t=>J3 T Γ N F y t h e K)
  | .const (.bool true)=>J3 T Γ N F x t h e K
  | .const (.bool false)=>J3 T Γ N F y t h e K
  | _=>False
 | .block id b,t,h,e,K=>J3 T Γ N F b t h e fun x t h e=>Vo id x t h e K
 | .loop b,t,h,e,K=>∃x s,iter (gg T Γ N F b) F ⟨t,h,e⟩=some (x,s)∧K x s.t s.h s.e
 | .exit id,t,h,e,K=>K (.exit id) t h e
 | .ret,t,h,e,K=>K .ret t h e
 | _,_,_,_,_=>False
def aal (mode:Mode) (T:Nat->Option Ty) (lent:Option (D×Row)) (rs:List ResultVar) (x:Ex) (t:Nat->D) (h:Nat->Option Row) (e:Nat) (r:RK×Option Row):Prop :=
 match x with
 | .exit _=>False
 | _=>jo mode T lent rs ⟨t,EH h,e⟩=some r
def wpf (mode:Mode) (T:Nat->Option Ty) (Γ:Env) (F:Nat) (fn:Func) (lent:Option (D×Row)) (args:List D) (r:RK×Option Row):Prop :=
 pg fn.body fun c=>J3 T Γ fn.ntmps F c (ca lent args).t (ca lent args).h (ca lent args).e fun x t h e=>aal mode T lent fn.results.toList x t h e r
theorem so {α:Type} (a:α) (K:α->Prop):pg (some a) K=K a:=rfl
theorem Dv {α:Type} {x:Option α} {K:α->Prop} (h:pg x K):∃a,x=some a∧K a:=by
 cases x with
 | none=>exact h.elim
 | some a=>exact⟨a,rfl,h⟩
theorem QT {t:Nat->D} {g:Nat} {d:D} (h:t g=d):cc t g d=t:=by
 funext j
 unfold cc
 split
 ·rename_i e;subst e;exact h.symm
 ·rfl
theorem IC (A B:Prop):br true A B=A:=by simp[br]
theorem BO (A B:Prop):br false A B=B:=by simp[br]
theorem Yf {b:Bool} {A B:Prop} (h:br b A B):if b then A else B:=by
 cases b with
 | true=>exact h.1 rfl
 | false=>exact h.2 rfl
theorem XZ {t:Nat->D} {g:Nat} {b:Bool} {A B:(Nat->D)->Prop} : QX (.bool b) t g A B=br b (A (cc t g (.bool b))) (B (cc t g (.bool b))):=rfl
theorem yE {t:Nat->D} {g:Nat} {A B:(Nat->D)->Prop} (h:t g=.bool true):QX (.bool true) t g A B=A t:=by simp[QX,QT h,IC]
theorem vV {t:Nat->D} {g:Nat} {A B:(Nat->D)->Prop} (h:t g=.bool false):QX (.bool false) t g A B=B t:=by simp[QX,QT h,BO]
theorem yH {t:Nat->D} {g:Nat} {A B S:(Nat->D)->Prop} (h:t g=.bool true):wpS (.bool true) t g A B S=A t:=yE h
theorem vW {t:Nat->D} {g:Nat} {A B S:(Nat->D)->Prop} (h:t g=.bool false):wpS (.bool false) t g A B S=B t:=vV h
theorem QY {t:Nat->D} {g:Nat} {A B:(Nat->D)->Prop} (h:QX (t g) t g A B):∃b,t g=.bool b∧(if b then A t else B t):=by
 unfold QX at h
 split at h
 ·rename_i b hb
  rw[QT hb]at h
  exact⟨b,hb,Yf h⟩
 ·exact h.elim
section
variable {T:Nat->Option Ty} {Γ:Env} {N F e:Nat}
theorem X2 {ops:Array Oper} {t:Nat->D} {o:Oper} {A B:(Nat->D)->Prop} (h:X1 ops.toList t o.guard A B):∃b,ub ops t o=some b∧(if b then A t else B t):=by
 unfold X1 at h
 unfold ub
 split at h
 ·rename_i hg
  try rw[hg]
  exact⟨true,rfl,by simpa using h⟩
 ·rename_i j want hg
  try rw[hg]
  obtain⟨g,h1,h2⟩:=Dv h
  rw[aeq]at h1
  unfold wpS at h2
  split at h2
  ·rename_i hs
   simp only[h1,hs]
   exact⟨false,rfl,h2⟩
  ·obtain⟨b,h3,h4⟩:=QY h2
   simp only[h1,h3]
   refine⟨_,rfl,?_⟩
   cases b<;>cases want<;>simpa using h4
theorem X0 {o:Oper} {t:Nat->D} {h:Nat->Option Row} {K:(Nat->D)->bP->Prop} (hw:QZ T Γ e o t h K):∃E,pC T Γ e o (ev t) h=some E∧K t E:=by
 unfold QZ at hw
 split at hw
 ·rename_i c a b ho
  obtain⟨v,h1,h2⟩:=QY hw
  have hq:mi Γ e h o.dst none=none:=by cases o.dst<;>rfl
  cases v with
  | true=>exact⟨⟨ev t a,[]⟩,by unfold pC jc mh;rw[ho];simp only[ev,h1,X9,j5,gK,hq],by simpa only[if_true] using h2⟩
  | false=>exact⟨⟨ev t b,[]⟩,by unfold pC jc mh;rw[ho];simp only[ev,h1,X9,j5,gK,hq],by simpa only[aea,if_false] using h2⟩
 ·obtain⟨E,h1,h2⟩:=Dv hw
  exact⟨E,h1,h2⟩
theorem JG {ops:Array Oper} {K:(Nat->D)->(Nat->Option Row)->Prop} : ∀(l:List Oper) (t:Nat->D) (h:Nat->Option Row),D5 T Γ N e ops.toList l t h K->∃t' h' fs,A7 T Γ N e ops l t h=some (t',h',fs)∧K t' h'
 | [],t,h,hk=>⟨t,h,[],rfl,hk⟩
 | o::l,t,h,hk=>by
  unfold D5 at hk
  obtain⟨hf,hg⟩:=hk
  obtain⟨b,h1,h2⟩:=X2 hg
  unfold A7 uC
  rw[if_pos hf,h1]
  cases b with
  | true =>
   obtain⟨E,h3,h4⟩:=X0 (by simpa using h2)
   obtain⟨t',h',fs,h5,h6⟩:=JG l _ _ h4
   simp only[h3,h5]
   exact⟨_,_,_,rfl,h6⟩
  | false =>
   obtain⟨t',h',fs,h5,h6⟩:=JG l _ _ (by simpa using h2)
   simp only[h5]
   exact⟨_,_,_,rfl,h6⟩
theorem JF {ops:Array Oper} {K:(Nat->D)->(Nat->Option Row)->List j8->Prop} : ∀(l:List Oper) (t:Nat->D) (h:Nat->Option Row) (f0:List j8),runK T Γ N e ops.toList l t h f0 K->∃t' h' fs,A7 T Γ N e ops l t h=some (t',h',fs)∧K t' h' (f0++fs)
 | [],t,h,f0,hk=>⟨t,h,[],rfl,by unfold runK at hk;simpa using hk⟩
 | o::l,t,h,f0,hk=>by
  unfold runK at hk
  obtain⟨hf,hg⟩:=hk
  obtain⟨b,h1,h2⟩:=X2 hg
  unfold A7 uC
  rw[if_pos hf,h1]
  cases b with
  | true =>
   obtain⟨E,h3,h4⟩:=X0 (by simpa using h2)
   obtain⟨t',h',fs,h5,h6⟩:=JF l _ _ _ h4
   simp only[h3,h5]
   exact⟨_,_,_,rfl,by simpa using h6⟩
  | false =>
   obtain⟨t',h',fs,h5,h6⟩:=JF l _ _ _ (by simpa using h2)
   simp only[h5]
   exact⟨_,_,_,rfl,by simpa using h6⟩
theorem aaV {ops:Array Oper} {draw:Bool} {t:Nat->D} {h:Nat->Option Row} {K:(Nat->D)->(Nat->Option Row)->Prop} (hk:wpR T Γ N ops draw t h e K):∃t' h',vU T Γ N ops draw ⟨t,h,e⟩=some (.normal,⟨t',h',e+1⟩)∧K t' h':=by
 unfold vU
 cases draw with
 | false =>
  obtain⟨t',h',fs,h1,h2⟩:=JG _ _ _ hk
  simp only[h1]
  exact⟨t',h',by simp,h2⟩
 | true =>
  obtain⟨t',h',fs,h1,h2,h3⟩:=JF _ _ _ _ hk
  simp only[h1]
  exact⟨t',h',by rw[aff]at h2;simp[h2],h3⟩
theorem JY:∀(c:Code) (t:Nat->D) (h:Nat->Option Row) (e:Nat) (K:Kt),J3 T Γ N F c t h e K->∃x s,gg T Γ N F c ⟨t,h,e⟩=some (x,s)∧K x s.t s.h s.e:=by
 intro c
 induction c with
 | skip=>intro t h e K hk;exact⟨_,_,rfl,hk⟩
 | region i ops draw =>
  intro t h e K hk
  obtain⟨t',h',h1,h2⟩:=aaV hk
  exact⟨_,_,h1,h2⟩
 | seq a b iha ihb =>
  intro t h e K hk
  obtain⟨x,s,h1,h2⟩:=iha _ _ _ _ hk
  simp only[gg,h1]
  cases x with
  | normal =>
   obtain⟨x2,s2,h3,h4⟩:=ihb _ _ _ _ h2
   exact⟨x2,s2,h3,h4⟩
  | exit n=>exact⟨_,_,rfl,h2⟩
  | ret=>exact⟨_,_,rfl,h2⟩
 | cond c x y ihx ihy =>
  intro t h e K hk
  unfold J3 at hk
  split at hk
  ·rename_i g
   obtain⟨b,h1,h2⟩:=QY hk
   simp only[gg,ev,h1,OJ]
   cases b with
   | true=>exact ihx _ _ _ _ (by simpa using h2)
   | false=>exact ihy _ _ _ _ (by simpa using h2)
  ·simpa only[gg,ev,nJ,OJ,if_true] using ihx _ _ _ _ hk
  ·simpa only[gg,ev,nJ,OJ,aea,if_false] using ihy _ _ _ _ hk
  ·exact hk.elim
 | block id b ih =>
  intro t h e K hk
  obtain⟨x,s,h1,h2⟩:=ih _ _ _ _ hk
  simp only[gg,h1]
  cases x with
  | normal=>exact⟨_,_,rfl,h2⟩
  | ret=>exact⟨_,_,rfl,h2⟩
  | exit n =>
   simp only[QV]
   unfold Vo at h2
   simp only at h2
   split at h2
   ·rename_i hn;rw[if_pos hn];exact⟨_,_,rfl,h2⟩
   ·rename_i hn;rw[if_neg hn];exact⟨_,_,rfl,h2⟩
 | loop b ih=>intro t h e K hk;exact hk
 | exit id=>intro t h e K hk;exact⟨_,_,rfl,hk⟩
 | ret=>intro t h e K hk;exact⟨_,_,rfl,hk⟩
 | _=>intro t h e K hk;exact hk.elim
theorem X4 {mode:Mode} {fn:Func} {lent:Option (D×Row)} {args:List D} {r:RK×Option Row} (h:wpf mode T Γ F fn lent args r) (hN:fn.ntmps<=PK):bc mode T Γ F fn lent args=some r:=by
 obtain⟨c,h1,h2⟩:=Dv h
 obtain⟨x,s,h3,h4⟩:=JY _ _ _ _ _ h2
 unfold bc
 simp only[h1]
 rw[if_pos hN]
 have e0:ca lent args=⟨(ca lent args).t,(ca lent args).h,(ca lent args).e⟩:=rfl
 rw[e0,h3]
 unfold aal at h4
 split at h4
 ·exact h4.elim
 ·rename_i hx
  split
  ·rename_i n _ he;cases he;exact (hx n rfl).elim
  ·rename_i _ x' s' _ he
   cases he
   exact h4
  ·rename_i he;cases he
theorem Tp {α:Type} (f:Nat->α) (i:Nat) (v:α) (j:Nat):cc f i v j=if j=i then v else f j:=agq
def yY (args:List D) (i:Nat):D:=args.getD i .und
theorem Kd (i:Nat):yY [] i=.und:=by simp[yY]
theorem Fu (d:D) (l:List D):yY (d::l) 0=d:=agq
theorem Ft (d:D) (l:List D) (i:Nat):yY (d::l) (i+1)=yY l i:=agq
def Np (_:Nat):Option Row:=none
theorem Hl (i:Nat):Np i=none:=agq
end
inductive W where
 | code (c:Code)
 | blk (id:Nat)
section
variable (T:Nat->Option Ty) (Γ:Env) (N F:Nat)
def cJ:List W->Kt->Kt
 | [],Q=>Q
 | .code c::ws,Q=>fun x t h e=>abH x (J3 T Γ N F c t h e (cJ ws Q)) (cJ ws Q x t h e)
 | .blk id::ws,Q=>fun x t h e=>Vo id x t h e (cJ ws Q)
def kU (ops l:List Oper) (ws:List W) (Q:Kt) (t:Nat->D) (h:Nat->Option Row) (e:Nat):Prop :=
 D5 T Γ N e ops l t h fun t h=>cJ T Γ N F ws Q .normal t h (e+1)
def kV (ops l:List Oper) (ws:List W) (Q:Kt) (t:Nat->D) (h:Nat->Option Row) (e:Nat) (fs:List j8):Prop :=
 runK T Γ N e ops l t h fs fun t h fs=>Cq ops.toArray fs=true∧cJ T Γ N F ws Q .normal t h (e+1)
def oQ (o:Oper) (ops l:List Oper) (ws:List W) (Q:Kt) (t:Nat->D) (h:Nat->Option Row) (e:Nat):Prop :=
 QZ T Γ e o t h fun t E=>kU T Γ N F ops l ws Q (ec t o.dst E.val) (aJ h E.hw) e
def oR (o:Oper) (ops l:List Oper) (ws:List W) (Q:Kt) (t:Nat->D) (h:Nat->Option Row) (e:Nat) (fs:List j8):Prop :=
 QZ T Γ e o t h fun t E=>kV T Γ N F ops l ws Q (ec t o.dst E.val) (aJ h E.hw) e (fs++[⟨bj o (ev t),E.hw.isEmpty⟩])
def wa (d:D) (g:Nat) (want:Bool) (o:Oper) (ops l:List Oper) (ws:List W) (Q:Kt) (t:Nat->D) (h:Nat->Option Row) (e:Nat):Prop :=
 wpS d t g (fun t=>if want then oQ T Γ N F o ops l ws Q t h e else kU T Γ N F ops l ws Q (ec t o.dst .skp) h e) (fun t=>if want then kU T Γ N F ops l ws Q (ec t o.dst .skp) h e else oQ T Γ N F o ops l ws Q t h e) (fun t=>kU T Γ N F ops l ws Q (ec t o.dst .skp) h e)
def wb (d:D) (g:Nat) (want:Bool) (o:Oper) (ops l:List Oper) (ws:List W) (Q:Kt) (t:Nat->D) (h:Nat->Option Row) (e:Nat) (fs:List j8):Prop :=
 wpS d t g (fun t=>if want then oR T Γ N F o ops l ws Q t h e fs else kV T Γ N F ops l ws Q (ec t o.dst .skp) h e (fs++[⟨[],true⟩])) (fun t=>if want then kV T Γ N F ops l ws Q (ec t o.dst .skp) h e (fs++[⟨[],true⟩]) else oR T Γ N F o ops l ws Q t h e fs) (fun t=>kV T Γ N F ops l ws Q (ec t o.dst .skp) h e (fs++[⟨[],true⟩]))
def Ef (x y:Option bP) (dst:Option Nat) (ops l:List Oper) (ws:List W) (Q:Kt) (t:Nat->D) (h:Nat->Option Row) (e:Nat):Prop :=
 pg (X9 h x y) fun E=>kU T Γ N F ops l ws Q (ec t dst E.val) (aJ h E.hw) e
def Eg (x y:Option bP) (dst:Option Nat) (ft:List Nat) (ops l:List Oper) (ws:List W) (Q:Kt) (t:Nat->D) (h:Nat->Option Row) (e:Nat) (fs:List j8):Prop :=
 pg (X9 h x y) fun E=>kV T Γ N F ops l ws Q (ec t dst E.val) (aJ h E.hw) e (fs++[⟨ft,E.hw.isEmpty⟩])
def xt (x:Option bP) (dst:Option Nat) (ops l:List Oper) (ws:List W) (Q:Kt) (t:Nat->D) (h:Nat->Option Row) (e:Nat):Prop:=Ef T Γ N F x none dst ops l ws Q t h e
def xu (x:Option bP) (dst:Option Nat) (ft:List Nat) (ops l:List Oper) (ws:List W) (Q:Kt) (t:Nat->D) (h:Nat->Option Row) (e:Nat) (fs:List j8):Prop:=Eg T Γ N F x none dst ft ops l ws Q t h e fs
def Fh (y:Option bP) (dst:Option Nat) (ops l:List Oper) (ws:List W) (Q:Kt) (t:Nat->D) (h:Nat->Option Row) (e:Nat):Prop :=
 pg y fun E=>kU T Γ N F ops l ws Q (ec t dst E.val) (aJ h E.hw) e
def Fi (y:Option bP) (dst:Option Nat) (ft:List Nat) (ops l:List Oper) (ws:List W) (Q:Kt) (t:Nat->D) (h:Nat->Option Row) (e:Nat) (fs:List j8):Prop :=
 pg y fun E=>kV T Γ N F ops l ws Q (ec t dst E.val) (aJ h E.hw) e (fs++[⟨ft,E.hw.isEmpty⟩])
def JT (d:D) (g:Nat) (x y:Code) (ws:List W) (Q:Kt) (t:Nat->D) (h:Nat->Option Row) (e:Nat):Prop :=
 QX d t g (fun t=>cJ T Γ N F (.code x::ws) Q .normal t h e) (fun t=>cJ T Γ N F (.code y::ws) Q .normal t h e)
def WX (d:D) (g:Nat) (a b:Operand) (dst:Option Nat) (ops l:List Oper) (ws:List W) (Q:Kt) (t:Nat->D) (h:Nat->Option Row) (e:Nat):Prop :=
 QX d t g (fun t=>kU T Γ N F ops l ws Q (ec t dst (ev t a)) h e) (fun t=>kU T Γ N F ops l ws Q (ec t dst (ev t b)) h e)
def WY (d:D) (g:Nat) (a b:Operand) (dst:Option Nat) (ops l:List Oper) (ws:List W) (Q:Kt) (t:Nat->D) (h:Nat->Option Row) (e:Nat) (fs:List j8):Prop :=
 QX d t g (fun t=>kV T Γ N F ops l ws Q (ec t dst (ev t a)) h e (fs++[⟨[],true⟩])) (fun t=>kV T Γ N F ops l ws Q (ec t dst (ev t b)) h e (fs++[⟨[],true⟩]))
def SS (b:Code) (ws:List W) (Q:Kt) (t:Nat->D) (h:Nat->Option Row) (e:Nat):Prop:=J3 T Γ N F (.loop b) t h e (cJ T Γ N F ws Q)
end
theorem GY {n:Nat} (h:n<=1000000):n<=maxLen:=adC h (by decide)
theorem HJ {z:List D} : mH 0 z=[]:=agq
theorem HI {n:Nat} {z:List D} : mH (n+1) z=z++mH n z:=by simp[mH,List.replicate_succ]
theorem GC {N:Nat} : fits N none=true:=agq
theorem GD {N i:Nat} : fits N (some i)=decide (i<N):=agq
def tT:List Oper->Nat->Nat
 | [],_=>0
 | o::_,0=>o.dst.getD 0
 | _::l,j+1=>tT l j
def x4:List Oper->Nat->Bool
 | [],_=>false
 | o::_,0=>o.dst.isSome
 | _::l,j+1=>x4 l j
theorem Cm:∀(l:List Oper) (j:Nat),x4 l j=true->(l[j]?).bind (·.dst)=some (tT l j)
 | [],j,h=>by simp[x4]at h
 | o::l,0,h=>by
  simp only[x4]at h
  simp only[List.getElem?_cons_zero,Option.bind_some,tT]
  cases hd:o.dst with
  | none=>rw[hd]at h;cases h
  | some d=>rfl
 | o::l,j+1,h=>by simpa [tT] using Cm l j h
theorem Co {d:Nat} {op:Op} {ty:Nat} {pos:String} {af:Array Edge} {gd:Option (Nat×Bool)} {l:List Oper} : tT (⟨some d,op,ty,pos,af,gd⟩::l) 0=d:=agq
theorem Cn {o:Oper} {l:List Oper} {j:Nat} : tT (o::l) (j+1)=tT l j:=agq
theorem C0 {d:Nat} {op:Op} {ty:Nat} {pos:String} {af:Array Edge} {gd:Option (Nat×Bool)} {l:List Oper} : x4 (⟨some d,op,ty,pos,af,gd⟩::l) 0=true:=agq
theorem CZ {o:Oper} {l:List Oper} {j:Nat} : x4 (o::l) (j+1)=x4 l j:=agq
section
variable {dst:Option Nat} {ty:Nat} {pos:String} {af:Array Edge} {gd:Option (Nat×Bool)} {vs:Operand->D}
def yj (vs:Operand->D):List Operand->List Nat
 | []=>[]
 | x::l=>nm (vs x)++yj vs l
theorem ff (vs:Operand->D):∀l:List Operand,(l.flatMap fun x=>nm (vs x))=yj vs l
 | []=>Eq.trans rfl rfl
 | x::l=>by rw[List.flatMap_cons,ff vs l];exact Eq.trans rfl rfl
theorem SE:yj vs []=[]:=agq
theorem Nn {x:Operand} {l:List Operand} : yj vs (x::l)=nm (vs x)++yj vs l:=agq
theorem AL {o:BinOp} {tt z:Nat} {x y:Operand} : bj ⟨dst,.binOp o tt x y z,ty,pos,af,gd⟩ vs=(yj vs [x,y]++dst.toList).map rt:=by rw[<- ff];rfl
theorem El {o:UnOp} {tt:Nat} {x:Operand} : bj ⟨dst,.unOp o tt x,ty,pos,af,gd⟩ vs=(yj vs [x]++dst.toList).map rt:=by rw[<- ff];rfl
theorem yA {x:Operand} : bj ⟨dst,.assign x,ty,pos,af,gd⟩ vs=(yj vs [x]++dst.toList).map rt:=by rw[<- ff];rfl
theorem Ek {tt:Nat} {x:Operand} : bj ⟨dst,.load tt x,ty,pos,af,gd⟩ vs=(yj vs [x]++dst.toList).map rt:=by rw[<- ff];rfl
theorem AQ {tt:Nat} {x y:Operand} : bj ⟨dst,.store tt x y,ty,pos,af,gd⟩ vs=(yj vs [x,y]++dst.toList).map rt:=by rw[<- ff];rfl
theorem uD {x:Operand} : bj ⟨dst,.nilCheck x,ty,pos,af,gd⟩ vs=(yj vs [x]++dst.toList).map rt:=by rw[<- ff];rfl
theorem s7 {tt i:Nat} {x:Operand} : bj ⟨dst,.fieldAddr tt x i,ty,pos,af,gd⟩ vs=(yj vs [x]++dst.toList).map rt:=by rw[<- ff];rfl
theorem AN {tt i:Nat} {x:Operand} : bj ⟨dst,.field tt x i,ty,pos,af,gd⟩ vs=(yj vs [x]++dst.toList).map rt:=by rw[<- ff];rfl
theorem s8 {tt:Nat} {x i:Operand} : bj ⟨dst,.indexAddr tt x i,ty,pos,af,gd⟩ vs=(yj vs [x,i]++dst.toList).map rt:=by rw[<- ff];rfl
theorem AO {tt:Nat} {x i:Operand} : bj ⟨dst,.index tt x i,ty,pos,af,gd⟩ vs=(yj vs [x,i]++dst.toList).map rt:=by rw[<- ff];rfl
theorem s9 {tt:Nat} {x y:Operand} : bj ⟨dst,.makeSlice tt x y,ty,pos,af,gd⟩ vs=(yj vs [x,y]++dst.toList).map rt:=by rw[<- ff];rfl
theorem AK {tt:Nat} : bj ⟨dst,.alloc tt,ty,pos,af,gd⟩ vs=(yj vs []++dst.toList).map rt:=by rw[<- ff];rfl
theorem Il {tt:Nat} {x:Operand} : bj ⟨dst,.box tt x,ty,pos,af,gd⟩ vs=(yj vs [x]++dst.toList).map rt:=by rw[<- ff];rfl
theorem wK {tt:Nat} : bj ⟨dst,.makeMap tt none,ty,pos,af,gd⟩ vs=(yj vs []++dst.toList).map rt:=by rw[<- ff];rfl
theorem yC {tt:Nat} {m i:Operand} {ok:Bool} : bj ⟨dst,.lookup tt m i ok,ty,pos,af,gd⟩ vs=(yj vs [m,i]++dst.toList).map rt:=by rw[<- ff];rfl
theorem td {tt:Nat} {m i x:Operand} : bj ⟨dst,.mapUpdate tt m i x,ty,pos,af,gd⟩ vs=(yj vs [m,i,x]++dst.toList).map rt:=by rw[<- ff];rfl
theorem yB {tt:Nat} {m i x:Operand} : bj ⟨dst,.insert tt m i x,ty,pos,af,gd⟩ vs=(yj vs [m,i,x]++dst.toList).map rt:=by rw[<- ff];rfl
theorem wI {a b:Nat} {x:Operand} : bj ⟨dst,.convert a b x,ty,pos,af,gd⟩ vs=(yj vs [x]++dst.toList).map rt:=by rw[<- ff];rfl
theorem wJ {x:Operand} {i:Nat} : bj ⟨dst,.extract x i,ty,pos,af,gd⟩ vs=(yj vs [x]++dst.toList).map rt:=by rw[<- ff];rfl
theorem AM {tt:Nat} {ps:List (Nat×Operand)} : bj ⟨dst,.build tt ps.toArray,ty,pos,af,gd⟩ vs=(yj vs (ps.map (·.2))++dst.toList).map rt:=by rw[<- ff];rfl
theorem qV {tt len:Nat} {ps:List (Nat×Operand)} : bj ⟨dst,.buildSlice tt len ps.toArray,ty,pos,af,gd⟩ vs=(yj vs (ps.map (·.2))++dst.toList).map rt:=by rw[<- ff];rfl
theorem AP {tt:Nat} {x:Operand} {lo hi mx:Option Operand} : bj ⟨dst,.slice tt x lo hi mx,ty,pos,af,gd⟩ vs=(yj vs (x::(lo.toList++(hi.toList++mx.toList)))++dst.toList).map rt:=by
 rw[<- ff];cases lo<;>cases hi<;>cases mx<;>rfl
theorem Ej {x:Operand} {l:List Operand} {tys:Array Nat} : bj ⟨dst,.call ⟨.value x,l.toArray,tys⟩,ty,pos,af,gd⟩ vs=(yj vs (x::l)++dst.toList).map rt:=by
 rw[<- ff];simp[bj,gS,Op.operands,Call.operands]
theorem wH {x:Builtin} {l:List Operand} {tys:Array Nat} : bj ⟨dst,.call ⟨.builtin x,l.toArray,tys⟩,ty,pos,af,gd⟩ vs=(yj vs l++dst.toList).map rt:=by
 rw[<- ff];simp[bj,gS,Op.operands,Call.operands]
end
section
variable {T:Nat->Option Ty} {ty e:Nat} {dst:Option Nat} {h:Nat->Option Row}
theorem Rp {k:IntKind} {n:Int} : bH T ty e dst h (.int k n)=some ⟨.int k n,[]⟩:=agq
theorem Ke {b:Bool} : bH T ty e dst h (.bool b)=some ⟨.bool b,[]⟩:=agq
theorem Rt {b:ByteArray} : bH T ty e dst h (.str b)=some ⟨.str b,[]⟩:=agq
theorem Vl {tg:Bool} {n:Nat} {xs:List D} : bH T ty e dst h (.sl false tg n xs)=some ⟨.sl false tg n xs,[]⟩:=agq
theorem Rs {x v o:Nat} : bH T ty e dst h (.ptr x v o)=some ⟨.ptr x v o,[]⟩:=agq
theorem Vi {xs:List D} : bH T ty e dst h (.ip xs)=some ⟨.ip xs,[]⟩:=agq
theorem Rn {xs:List D} : bH T ty e dst h (.agg xs)=some ⟨.agg xs,[]⟩:=agq
theorem Ru {xs:List D} : bH T ty e dst h (.tup xs)=some ⟨.tup xs,[]⟩:=agq
theorem Vh {f:Nat} : bH T ty e dst h (.fn f)=some ⟨.fn f,[]⟩:=agq
theorem Vj {x v:Nat} : bH T ty e dst h (.mp x v)=some ⟨.mp x v,[]⟩:=agq
theorem Rq {ks:List Int} {vs:List D} : bH T ty e dst h (.mpc ks vs)=some ⟨.mpc ks vs,[]⟩:=agq
theorem Vk {x v y:Nat} : bH T ty e dst h (.pm x v y)=some ⟨.pm x v y,[]⟩:=agq
theorem Bc {f kk:Nat} {xs:List D} : bH T ty e dst h (.clo f kk xs)=some ⟨.clo f kk xs,[]⟩:=agq
def aad (b:Bool) (T:Nat->Option Ty) (ty e d:Nat) (h:Nat->Option Row) (x:D):Option bP:=if b then bH T ty e (some d) h x else gZ h x
theorem Fz {d:Nat} {x:D} : aad true T ty e d h x=bH T ty e (some d) h x:=agq
theorem BK {d:Nat} {x:D} : aad false T ty e d h x=gZ h x:=agq
theorem Zm {q:Nat->Bool} {d:Nat} {x:D} : qw T q ty e (some d) h x=aad (q d) T ty e d h x:=agq
theorem Rk {k:IntKind} {n:Int} : gZ h (.int k n)=some ⟨.int k n,[]⟩:=agq
theorem J9 {b:Bool} : gZ h (.bool b)=some ⟨.bool b,[]⟩:=agq
theorem Rl {b:ByteArray} : gZ h (.str b)=some ⟨.str b,[]⟩:=agq
theorem Ri {xs:List D} : gZ h (.agg xs)=some ⟨.agg (xs.map canon),[]⟩:=agq
theorem U9 {a b:Bool} {n:Nat} {xs:List D} : gZ h (.sl a b n xs)=some ⟨.sl false false n xs,[]⟩:=agq
theorem Rv:bH T ty e dst h .und=some ⟨.und,[]⟩:=agq
def Yd (e d y s o n:Nat) (r:Row):Bool->Option bP
 | true=>some ⟨.buf y r.v s o n,[]⟩
 | false=>some ⟨.buf d e s o n,[(y,none),(d,some { r with v:=e })]⟩
theorem BJ {d y s o n:Nat} {r:Row} : Yd e d y s o n r false=some ⟨.buf d e s o n,[(y,none),(d,some { r with v:=e })]⟩:=agq
def aac (y v s o n:Nat):Option Row->Option bP
 | some _=>some ⟨.buf y v s o n,[]⟩
 | none=>some ⟨.und,[]⟩
theorem Fv {y v s o n:Nat} {r:Row} : aac y v s o n (some r)=some ⟨.buf y v s o n,[]⟩:=agq
def Vg (e:Nat) (dst:Option Nat) (y s o n:Nat) (w:Option bP):Option Row->Option bP
 | some r=>match dst with|some d=>Yd e d y s o n r r.fz|none=>w
 | none=>w
theorem Fx {d y s o n:Nat} {r:Row} {w:Option bP} : Vg e (some d) y s o n w (some r)=Yd e d y s o n r r.fz:=agq
theorem Fw {d y s o n:Nat} {w:Option bP} : Vg e (some d) y s o n w none=w:=agq
theorem Ro {d y v s o n:Nat} : bH T ty e (some d) h (.buf y v s o n)=Vg e (some d) y s o n (aac y v s o n (nk h y v)) (live h y v):=by
 simp only[bH]
 cases hl:live h y v with
 | none=>simp only[Vg];cases nk h y v<;>simp[aac]
 | some r =>
  obtain⟨_,hv⟩:=bX hl
  simp only[Vg]
  cases hz:r.fz<;>simp[Yd,hv,hz]
def Ye (e:Nat) (dst:Option Nat) (T:Nat->Option Ty):Option Ty->Option bP
 | some τ =>
  match dst with
  | some d=>match τ.ds with
   | .slice el=>match T el with|some φ=>some ⟨.buf d e φ.size 0 0,[(d,some ⟨e,el,[],false,true,false⟩)]⟩|none=>none
   | _=>none
  | none=>none
 | none=>none
theorem Fy {d el b c:Nat} {z:List Value} {q:Bool} {φ:Ty} (hφ:T el=some φ):Ye e (some d) T (some ⟨.slice el,b,c,z,q⟩)=some ⟨.buf d e φ.size 0 0,[(d,some ⟨e,el,[],false,true,false⟩)]⟩:=by simp only[Ye,hφ]
theorem Rr:bH T ty e dst h (.sl true true 0 [])=Ye e dst T (T ty):=by
 unfold bH Ye
 cases dst<;>cases T ty<;>rfl
end
def ZR (x:Option D):Option bP:=match x with|some d=>some ⟨d,[]⟩|none=>none
theorem ND (d:D):ZR (some d)=some ⟨d,[]⟩:=agq
def xg (x:Option Ty) (f:Ty->Option bP):Option bP:=match x with|some τ=>f τ|none=>none
theorem NP (τ:Ty) (f:Ty->Option bP):xg (some τ) f=f τ:=agq
def aae (x:Option (List D×List Nat)) (h:Nat->Option Row) (ty d e:Nat):Option bP :=
 match x with
 | some (cs,fr)=>if fr.contains d=false then some ⟨.ptr d e 0,iM h fr++[(d,some ⟨e,ty,cs,false,false,false⟩)]⟩ else none
 | none=>none
theorem FD (cs:List D) (fr:List Nat) (h:Nat->Option Row) (ty d e:Nat):aae (some (cs,fr)) h ty d e=if fr.contains d=false then some ⟨.ptr d e 0,iM h fr++[(d,some ⟨e,ty,cs,false,false,false⟩)]⟩ else none:=agq
def YP (d e:Nat):Option Nat->D
 | some y =>.pm d e y
 | none =>.ptr d e 0
theorem Hz {d e y:Nat} : YP d e (some y)=.pm d e y:=agq
theorem Hy {d e:Nat} : YP d e none=.ptr d e 0:=agq
def BH (x:Option Ty) (ty d e:Nat) (y:Option Nat):Option bP :=
 match x with
 | some τ=>if (τ.zero.map nJ).all aV then some ⟨YP d e y,[(d,some ⟨e,ty,τ.zero.map nJ,false,false,false⟩)]⟩ else none
 | none=>none
theorem zG (τ:Ty) (ty d e:Nat) (y:Option Nat):BH (some τ) ty d e y=if (τ.zero.map nJ).all aV then some ⟨YP d e y,[(d,some ⟨e,ty,τ.zero.map nJ,false,false,false⟩)]⟩ else none:=agq
def abr (T:Nat->Option Ty) (x:Option Ty) (ty e d:Nat):Option bP:=match x with|some τ=>oV T ty τ e d|none=>none
def VH (x y:Option Ty) (d:D):Option bP :=
 match x,y,d with
 | some τ,some _,.int _ n=>(match τ.ds with | .int k=>some ⟨.int k (k.wrap n),[]⟩|_=>none)
 | _,_,_=>none
theorem F0 (k:IntKind) (b c:Nat) (z:List Value) (q:Bool) (σ:Ty) (k':IntKind) (n:Int):VH (some ⟨.int k,b,c,z,q⟩) (some σ) (.int k' n)=some ⟨.int k (k.wrap n),[]⟩:=agq
def Yu (d:D) (i:Nat):Option bP:=match d with | .tup xs=>(match xs[i]? with|some d=>some ⟨d,[]⟩|none=>none)|_=>none
theorem LA (xs:List D) (i:Nat):Yu (.tup xs) i=ZR xs[i]?:=by simp only[Yu,ZR]
section
variable {T:Nat->Option Ty} {Γ:Env} {N F e:Nat} {ws:List W} {Q:Kt} {t:Nat->D} {h:Nat->Option Row}
theorem ep {x:Ex} : cJ T Γ N F [] Q x t h e=Q x t h e:=agq
theorem HS:cJ T Γ N F (.code .skip::ws) Q .normal t h e=cJ T Γ N F ws Q .normal t h e:=agq
theorem N7 {a b:Code} : cJ T Γ N F (.code (.seq a b)::ws) Q .normal t h e=cJ T Γ N F (.code a :: .code b::ws) Q .normal t h e:=agq
theorem N6:cJ T Γ N F (.code .ret::ws) Q .normal t h e=cJ T Γ N F ws Q .ret t h e:=agq
theorem HQ {id:Nat} : cJ T Γ N F (.code (.exit id)::ws) Q .normal t h e=cJ T Γ N F ws Q (.exit id) t h e:=agq
theorem D6 {id:Nat} {b:Code} : cJ T Γ N F (.code (.block id b)::ws) Q .normal t h e=cJ T Γ N F (.code b :: .blk id::ws) Q .normal t h e:=agq
theorem HR {b:Code} : cJ T Γ N F (.code (.loop b)::ws) Q .normal t h e=SS T Γ N F b ws Q t h e:=agq
theorem bJ {c:Code} : cJ T Γ N F (.code c::ws) Q .ret t h e=cJ T Γ N F ws Q .ret t h e:=agq
theorem bq {c:Code} {n:Nat} : cJ T Γ N F (.code c::ws) Q (.exit n) t h e=cJ T Γ N F ws Q (.exit n) t h e:=agq
theorem s5 {id:Nat} : cJ T Γ N F (.blk id::ws) Q .normal t h e=cJ T Γ N F ws Q .normal t h e:=agq
theorem bW {id:Nat} : cJ T Γ N F (.blk id::ws) Q .ret t h e=cJ T Γ N F ws Q .ret t h e:=agq
theorem wG {id n:Nat} : cJ T Γ N F (.blk id::ws) Q (.exit n) t h e=if n=id then cJ T Γ N F ws Q .normal t h e else cJ T Γ N F ws Q (.exit n) t h e:=agq
theorem AG {i:Nat} {ops:List Oper} : cJ T Γ N F (.code (.region i ops.toArray false)::ws) Q .normal t h e=kU T Γ N F ops ops ws Q t h e:=agq
theorem D9 {i:Nat} {ops:List Oper} : cJ T Γ N F (.code (.region i ops.toArray true)::ws) Q .normal t h e=kV T Γ N F ops ops ws Q t h e []:=agq
theorem HP {g:Nat} {x y:Code} : cJ T Γ N F (.code (.cond (.tmp g) x y)::ws) Q .normal t h e=JT T Γ N F (t g) g x y ws Q t h e:=agq
theorem D8 {x y:Code} : cJ T Γ N F (.code (.cond (.const (.bool true)) x y)::ws) Q .normal t h e=cJ T Γ N F (.code x::ws) Q .normal t h e:=agq
theorem D7 {x y:Code} : cJ T Γ N F (.code (.cond (.const (.bool false)) x y)::ws) Q .normal t h e=cJ T Γ N F (.code y::ws) Q .normal t h e:=agq
theorem Io {g:Nat} {x y:Code} (hg:t g=.bool true):JT T Γ N F (.bool true) g x y ws Q t h e=cJ T Γ N F (.code x::ws) Q .normal t h e:=yE hg
theorem Ep {g:Nat} {x y:Code} (hg:t g=.bool false):JT T Γ N F (.bool false) g x y ws Q t h e=cJ T Γ N F (.code y::ws) Q .normal t h e:=vV hg
theorem UG {b:Bool} {g:Nat} {x y:Code} : JT T Γ N F (.bool b) g x y ws Q t h e=br b (cJ T Γ N F (.code x::ws) Q .normal (cc t g (.bool true)) h e) (cJ T Γ N F (.code y::ws) Q .normal (cc t g (.bool false)) h e):=by
 unfold JT;rw[XZ];cases b<;>simp[br]
variable {ops l:List Oper} {dst:Option Nat} {op:Op} {ty:Nat} {pos:String} {af:Array Edge} {gd:Option (Nat×Bool)} {fs:List j8}
theorem N4:kU T Γ N F ops [] ws Q t h e=cJ T Γ N F ws Q .normal t h (e+1):=agq
theorem HN (hf:fits N dst=true):kU T Γ N F ops (⟨dst,op,ty,pos,af,none⟩::l) ws Q t h e=oQ T Γ N F ⟨dst,op,ty,pos,af,none⟩ ops l ws Q t h e:=by
 simp only[kU,D5,X1,hf,true_and,oQ]
theorem D3 {j:Nat} {want:Bool} (hf:fits N dst=true) (hj:x4 ops j=true):kU T Γ N F ops (⟨dst,op,ty,pos,af,some (j,want)⟩::l) ws Q t h e=wa T Γ N F (t (tT ops j)) (tT ops j) want ⟨dst,op,ty,pos,af,none⟩ ops l ws Q t h e:=by
 simp only[kU,D5,X1,hf,true_and,Cm ops j hj,so,wa]
 cases want<;>rfl
theorem OE {g:Nat} {want:Bool} {o:Oper} : wa T Γ N F .skp g want o ops l ws Q t h e=kU T Γ N F ops l ws Q (ec t o.dst .skp) h e:=agq
theorem Ip {g:Nat} {o:Oper} (hg:t g=.bool true):wa T Γ N F (.bool true) g true o ops l ws Q t h e=oQ T Γ N F o ops l ws Q t h e:=(yH hg).trans (if_pos rfl)
theorem Er {g:Nat} {o:Oper} (hg:t g=.bool false):wa T Γ N F (.bool false) g true o ops l ws Q t h e=kU T Γ N F ops l ws Q (ec t o.dst .skp) h e:=(vW hg).trans (if_pos rfl)
theorem Es {g:Nat} {o:Oper} (hg:t g=.bool true):wa T Γ N F (.bool true) g false o ops l ws Q t h e=kU T Γ N F ops l ws Q (ec t o.dst .skp) h e:=(yH hg).trans (if_neg (by decide))
theorem AR {g:Nat} {o:Oper} (hg:t g=.bool false):wa T Γ N F (.bool false) g false o ops l ws Q t h e=oQ T Γ N F o ops l ws Q t h e:=(vW hg).trans (if_neg (by decide))
theorem UH {b:Bool} {g:Nat} {o:Oper} : wa T Γ N F (.bool b) g true o ops l ws Q t h e=br b (oQ T Γ N F o ops l ws Q (cc t g (.bool true)) h e) (kU T Γ N F ops l ws Q (ec (cc t g (.bool false)) o.dst .skp) h e):=by
 unfold wa;rw[yG];cases b<;>simp[br]
theorem QQ {b:Bool} {g:Nat} {o:Oper} : wa T Γ N F (.bool b) g false o ops l ws Q t h e=br b (kU T Γ N F ops l ws Q (ec (cc t g (.bool true)) o.dst .skp) h e) (oQ T Γ N F o ops l ws Q (cc t g (.bool false)) h e):=by
 unfold wa;rw[yG];cases b<;>simp[br]
theorem N5:kV T Γ N F ops [] ws Q t h e fs=(Cq ops.toArray fs=true∧cJ T Γ N F ws Q .normal t h (e+1)):=agq
theorem HO (hf:fits N dst=true):kV T Γ N F ops (⟨dst,op,ty,pos,af,none⟩::l) ws Q t h e fs=oR T Γ N F ⟨dst,op,ty,pos,af,none⟩ ops l ws Q t h e fs:=by
 simp only[kV,runK,X1,hf,true_and,oR]
theorem D4 {j:Nat} {want:Bool} (hf:fits N dst=true) (hj:x4 ops j=true):kV T Γ N F ops (⟨dst,op,ty,pos,af,some (j,want)⟩::l) ws Q t h e fs=wb T Γ N F (t (tT ops j)) (tT ops j) want ⟨dst,op,ty,pos,af,none⟩ ops l ws Q t h e fs:=by
 simp only[kV,runK,X1,hf,true_and,Cm ops j hj,so,wb]
 cases want<;>rfl
theorem OF {g:Nat} {want:Bool} {o:Oper} : wb T Γ N F .skp g want o ops l ws Q t h e fs=kV T Γ N F ops l ws Q (ec t o.dst .skp) h e (fs++[⟨[],true⟩]):=agq
theorem Iq {g:Nat} {o:Oper} (hg:t g=.bool true):wb T Γ N F (.bool true) g true o ops l ws Q t h e fs=oR T Γ N F o ops l ws Q t h e fs:=(yH hg).trans (if_pos rfl)
theorem Et {g:Nat} {o:Oper} (hg:t g=.bool false):wb T Γ N F (.bool false) g true o ops l ws Q t h e fs=kV T Γ N F ops l ws Q (ec t o.dst .skp) h e (fs++[⟨[],true⟩]):=(vW hg).trans (if_pos rfl)
theorem Eu {g:Nat} {o:Oper} (hg:t g=.bool true):wb T Γ N F (.bool true) g false o ops l ws Q t h e fs=kV T Γ N F ops l ws Q (ec t o.dst .skp) h e (fs++[⟨[],true⟩]):=(yH hg).trans (if_neg (by decide))
theorem AS {g:Nat} {o:Oper} (hg:t g=.bool false):wb T Γ N F (.bool false) g false o ops l ws Q t h e fs=oR T Γ N F o ops l ws Q t h e fs:=(vW hg).trans (if_neg (by decide))
theorem UI {b:Bool} {g:Nat} {o:Oper} : wb T Γ N F (.bool b) g true o ops l ws Q t h e fs=br b (oR T Γ N F o ops l ws Q (cc t g (.bool true)) h e fs) (kV T Γ N F ops l ws Q (ec (cc t g (.bool false)) o.dst .skp) h e (fs++[⟨[],true⟩])):=by
 unfold wb;rw[yG];cases b<;>simp[br]
theorem QR {b:Bool} {g:Nat} {o:Oper} : wb T Γ N F (.bool b) g false o ops l ws Q t h e fs=br b (kV T Γ N F ops l ws Q (ec (cc t g (.bool true)) o.dst .skp) h e (fs++[⟨[],true⟩])) (oR T Γ N F o ops l ws Q (cc t g (.bool false)) h e fs):=by
 unfold wb;rw[yG];cases b<;>simp[br]
theorem Oo {d:D} {hw:List (Nat×Option Row)} : xt T Γ N F (some ⟨d,hw⟩) dst ops l ws Q t h e=kU T Γ N F ops l ws Q (ec t dst d) (aJ h (j5 h hw)) e:=agq
theorem Oz {d:D} {hw:List (Nat×Option Row)} {ft:List Nat} : xu T Γ N F (some ⟨d,hw⟩) dst ft ops l ws Q t h e fs=kV T Γ N F ops l ws Q (ec t dst d) (aJ h (j5 h hw)) e (fs++[⟨ft,(j5 h hw).isEmpty⟩]):=agq
theorem S0 {c:Prop} [Decidable c] {E:bP} : xt T Γ N F (if c then some E else none) dst ops l ws Q t h e=(c∧xt T Γ N F (some E) dst ops l ws Q t h e):=by
 by_cases hc:c<;>simp[hc,xt,Ef,X9,pg]
theorem S5 {c:Prop} [Decidable c] {E:bP} {ft:List Nat} : xu T Γ N F (if c then some E else none) dst ft ops l ws Q t h e fs=(c∧xu T Γ N F (some E) dst ft ops l ws Q t h e fs):=by
 by_cases hc:c<;>simp[hc,xu,Eg,X9,pg]
theorem H0 {E:bP} {y:Option bP} : Ef T Γ N F (some E) y dst ops l ws Q t h e=xt T Γ N F (some E) dst ops l ws Q t h e:=agq
theorem Ib {E:bP} {y:Option bP} {ft:List Nat} : Eg T Γ N F (some E) y dst ft ops l ws Q t h e fs=xu T Γ N F (some E) dst ft ops l ws Q t h e fs:=agq
theorem HZ {y:Option bP} : Ef T Γ N F none y dst ops l ws Q t h e=Fh T Γ N F y dst ops l ws Q t h e:=agq
theorem Ia {y:Option bP} {ft:List Nat} : Eg T Γ N F none y dst ft ops l ws Q t h e fs=Fi T Γ N F y dst ft ops l ws Q t h e fs:=agq
theorem SZ {x:Option bP} : Ef T Γ N F x none dst ops l ws Q t h e=xt T Γ N F x dst ops l ws Q t h e:=agq
theorem S4 {x:Option bP} {ft:List Nat} : Eg T Γ N F x none dst ft ops l ws Q t h e fs=xu T Γ N F x dst ft ops l ws Q t h e fs:=agq
theorem H2 {d:D} {hw:List (Nat×Option Row)} : Fh T Γ N F (some ⟨d,hw⟩) dst ops l ws Q t h e=kU T Γ N F ops l ws Q (ec t dst d) (aJ h hw) e:=agq
theorem Ic {d:D} {hw:List (Nat×Option Row)} {ft:List Nat} : Fi T Γ N F (some ⟨d,hw⟩) dst ft ops l ws Q t h e fs=kV T Γ N F ops l ws Q (ec t dst d) (aJ h hw) e (fs++[⟨ft,hw.isEmpty⟩]):=agq
theorem On {c:Prop} [Decidable c] {E:bP} : Fh T Γ N F (if c then some E else none) dst ops l ws Q t h e=(c∧Fh T Γ N F (some E) dst ops l ws Q t h e):=by
 by_cases hc:c<;>simp[hc,Fh,pg]
theorem Oy {c:Prop} [Decidable c] {E:bP} {ft:List Nat} : Fi T Γ N F (if c then some E else none) dst ft ops l ws Q t h e fs=(c∧Fi T Γ N F (some E) dst ft ops l ws Q t h e fs):=by
 by_cases hc:c<;>simp[hc,Fi,pg]
theorem DO {g:Nat} {a b:Operand} (hg:t g=.bool true):WX T Γ N F (.bool true) g a b dst ops l ws Q t h e=kU T Γ N F ops l ws Q (ec t dst (ev t a)) h e:=yE hg
theorem Av {g:Nat} {a b:Operand} (hg:t g=.bool false):WX T Γ N F (.bool false) g a b dst ops l ws Q t h e=kU T Γ N F ops l ws Q (ec t dst (ev t b)) h e:=vV hg
theorem DP {g:Nat} {a b:Operand} (hg:t g=.bool true):WY T Γ N F (.bool true) g a b dst ops l ws Q t h e fs=kV T Γ N F ops l ws Q (ec t dst (ev t a)) h e (fs++[⟨[],true⟩]):=yE hg
theorem Aw {g:Nat} {a b:Operand} (hg:t g=.bool false):WY T Γ N F (.bool false) g a b dst ops l ws Q t h e fs=kV T Γ N F ops l ws Q (ec t dst (ev t b)) h e (fs++[⟨[],true⟩]):=vV hg
theorem K6 {c:Nat} {a b:Operand} : oQ T Γ N F ⟨dst,.pick (.tmp c) a b,ty,pos,af,gd⟩ ops l ws Q t h e=WX T Γ N F (t c) c a b dst ops l ws Q t h e:=agq
theorem Lc {c:Nat} {a b:Operand} : oR T Γ N F ⟨dst,.pick (.tmp c) a b,ty,pos,af,gd⟩ ops l ws Q t h e fs=WY T Γ N F (t c) c a b dst ops l ws Q t h e fs:=agq
theorem xG {x y:Option bP} (hp:∀c a b,op ≠ .pick c a b) (hm:jc T Γ e ⟨dst,op,ty,pos,af,gd⟩ (ev t)=none) (hcf:mi Γ e h dst (gK (ev t) op)=none) (hx:mh T Γ e ⟨dst,op,ty,pos,af,gd⟩ (ev t) (EH h)=x) (hy:tV T Γ e ⟨dst,op,ty,pos,af,gd⟩ (ev t) h=y):oQ T Γ N F ⟨dst,op,ty,pos,af,gd⟩ ops l ws Q t h e=Ef T Γ N F x y dst ops l ws Q t h e:=by
 subst hx
 subst hy
 unfold oQ Ef QZ pC
 rw[hm]
 simp only
 rw[hcf]
 cases op<;>first|rfl|exact absurd rfl (hp _ _ _)
theorem xJ {x y:Option bP} (hp:∀c a b,op ≠ .pick c a b) (hm:jc T Γ e ⟨dst,op,ty,pos,af,gd⟩ (ev t)=none) (hcf:mi Γ e h dst (gK (ev t) op)=none) (hx:mh T Γ e ⟨dst,op,ty,pos,af,gd⟩ (ev t) (EH h)=x) (hy:tV T Γ e ⟨dst,op,ty,pos,af,gd⟩ (ev t) h=y):oR T Γ N F ⟨dst,op,ty,pos,af,gd⟩ ops l ws Q t h e fs=Eg T Γ N F x y dst (bj ⟨dst,op,ty,pos,af,gd⟩ (ev t)) ops l ws Q t h e fs:=by
 subst hx
 subst hy
 unfold oR Eg QZ pC
 rw[hm]
 simp only
 rw[hcf]
 cases op<;>first|rfl|exact absurd rfl (hp _ _ _)
theorem eh {x:Option bP} (hp:∀c a b,op ≠ .pick c a b) (hx:mh T Γ e ⟨dst,op,ty,pos,af,gd⟩ (ev t) (EH h)=x) (hm:jc T Γ e ⟨dst,op,ty,pos,af,gd⟩ (ev t)=none:=by rfl) (hy:tV T Γ e ⟨dst,op,ty,pos,af,gd⟩ (ev t) h=none:=by rfl) (hcf:mi Γ e h dst (gK (ev t) op)=none:=by first|rfl|(cases dst<;>rfl)):oQ T Γ N F ⟨dst,op,ty,pos,af,gd⟩ ops l ws Q t h e=xt T Γ N F x dst ops l ws Q t h e:=xG hp hm hcf hx hy
theorem ej {x:Option bP} (hp:∀c a b,op ≠ .pick c a b) (hx:mh T Γ e ⟨dst,op,ty,pos,af,gd⟩ (ev t) (EH h)=x) (hm:jc T Γ e ⟨dst,op,ty,pos,af,gd⟩ (ev t)=none:=by rfl) (hy:tV T Γ e ⟨dst,op,ty,pos,af,gd⟩ (ev t) h=none:=by rfl) (hcf:mi Γ e h dst (gK (ev t) op)=none:=by first|rfl|(cases dst<;>rfl)):oR T Γ N F ⟨dst,op,ty,pos,af,gd⟩ ops l ws Q t h e fs=xu T Γ N F x dst (bj ⟨dst,op,ty,pos,af,gd⟩ (ev t)) ops l ws Q t h e fs:=xJ hp hm hcf hx hy
theorem K5 {x:Operand} : oQ T Γ N F ⟨dst,.move x,ty,pos,af,gd⟩ ops l ws Q t h e=kU T Γ N F ops l ws Q (ec t dst (ev t x)) h e:=(eh (fun _ _ _ hh=>by cases hh) rfl).trans rfl
theorem Lb {x:Operand} : oR T Γ N F ⟨dst,.move x,ty,pos,af,gd⟩ ops l ws Q t h e fs=kV T Γ N F ops l ws Q (ec t dst (ev t x)) h e (fs++[⟨[],true⟩]):=(ej (fun _ _ _ hh=>by cases hh) rfl).trans rfl
theorem F5 {o:BinOp} {tt z:Nat} {x y:Operand} : oQ T Γ N F ⟨dst,.binOp o tt x y z,ty,pos,af,gd⟩ ops l ws Q t h e=xt T Γ N F (ZR (yZ T tt o (ev t x) (ev t y))) dst ops l ws Q t h e:=eh (fun _ _ _ hh=>by cases hh) (by simp only[mh];first|rfl|(cases yZ T tt o (ev t x) (ev t y)<;>rfl))
theorem Gd {o:BinOp} {tt z:Nat} {x y:Operand} : oR T Γ N F ⟨dst,.binOp o tt x y z,ty,pos,af,gd⟩ ops l ws Q t h e fs=xu T Γ N F (ZR (yZ T tt o (ev t x) (ev t y))) dst (bj ⟨dst,.binOp o tt x y z,ty,pos,af,gd⟩ (ev t)) ops l ws Q t h e fs:=ej (fun _ _ _ hh=>by cases hh) (by simp only[mh];first|rfl|(cases yZ T tt o (ev t x) (ev t y)<;>rfl))
theorem K7 {o:UnOp} {tt:Nat} {x:Operand} : oQ T Γ N F ⟨dst,.unOp o tt x,ty,pos,af,gd⟩ ops l ws Q t h e=xt T Γ N F (ZR (Fj o (ev t x))) dst ops l ws Q t h e:=eh (fun _ _ _ hh=>by cases hh) (by simp only[mh];first|rfl|(cases Fj o (ev t x)<;>rfl))
theorem Ld {o:UnOp} {tt:Nat} {x:Operand} : oR T Γ N F ⟨dst,.unOp o tt x,ty,pos,af,gd⟩ ops l ws Q t h e fs=xu T Γ N F (ZR (Fj o (ev t x))) dst (bj ⟨dst,.unOp o tt x,ty,pos,af,gd⟩ (ev t)) ops l ws Q t h e fs:=ej (fun _ _ _ hh=>by cases hh) (by simp only[mh];first|rfl|(cases Fj o (ev t x)<;>rfl))
theorem Cc {x:Operand} : oQ T Γ N F ⟨dst,.assign x,ty,pos,af,gd⟩ ops l ws Q t h e=xt T Γ N F (qw T Γ.own ty e dst (EH h) (ev t x)) dst ops l ws Q t h e:=eh (fun _ _ _ hh=>by cases hh) rfl
theorem Cf {x:Operand} : oR T Γ N F ⟨dst,.assign x,ty,pos,af,gd⟩ ops l ws Q t h e fs=xu T Γ N F (qw T Γ.own ty e dst (EH h) (ev t x)) dst (bj ⟨dst,.assign x,ty,pos,af,gd⟩ (ev t)) ops l ws Q t h e fs:=ej (fun _ _ _ hh=>by cases hh) rfl
theorem xH {f:Nat} {first caps:List Operand} : oQ T Γ N F ⟨dst,.makeFunc (.func f) first.toArray caps.toArray,ty,pos,af,gd⟩ ops l ws Q t h e=xt T Γ N F (if (first.map (ev t)++caps.map (ev t)).all jn then some ⟨.clo f first.length (first.map (ev t)++caps.map (ev t)),[]⟩ else none) dst ops l ws Q t h e:=eh (fun _ _ _ hh=>by cases hh) rfl
theorem xK {f:Nat} {first caps:List Operand} : oR T Γ N F ⟨dst,.makeFunc (.func f) first.toArray caps.toArray,ty,pos,af,gd⟩ ops l ws Q t h e fs=xu T Γ N F (if (first.map (ev t)++caps.map (ev t)).all jn then some ⟨.clo f first.length (first.map (ev t)++caps.map (ev t)),[]⟩ else none) dst (bj ⟨dst,.makeFunc (.func f) first.toArray caps.toArray,ty,pos,af,gd⟩ (ev t)) ops l ws Q t h e fs:=ej (fun _ _ _ hh=>by cases hh) rfl
theorem K3 {tt:Nat} {x:Operand} : oQ T Γ N F ⟨dst,.load tt x,ty,pos,af,gd⟩ ops l ws Q t h e=Ef T Γ N F (xg (T tt) fun τ=>nc τ (EH h) (ev t x)) (xg (T tt) fun τ=>nH τ h (ev t x)) dst ops l ws Q t h e:=xG (fun _ _ _ hh=>by cases hh) rfl (by cases dst<;>rfl) (by simp only[mh];first|rfl|(cases T tt<;>rfl)) (by simp only[tV];first|rfl|(cases T tt<;>rfl))
theorem K9 {tt:Nat} {x:Operand} : oR T Γ N F ⟨dst,.load tt x,ty,pos,af,gd⟩ ops l ws Q t h e fs=Eg T Γ N F (xg (T tt) fun τ=>nc τ (EH h) (ev t x)) (xg (T tt) fun τ=>nH τ h (ev t x)) dst (bj ⟨dst,.load tt x,ty,pos,af,gd⟩ (ev t)) ops l ws Q t h e fs:=xJ (fun _ _ _ hh=>by cases hh) rfl (by cases dst<;>rfl) (by simp only[mh];first|rfl|(cases T tt<;>rfl)) (by simp only[tV];first|rfl|(cases T tt<;>rfl))
theorem Gb {tt:Nat} {x y:Operand} : oQ T Γ N F ⟨dst,.store tt x y,ty,pos,af,gd⟩ ops l ws Q t h e=Ef T Γ N F (xg (T tt) fun τ=>cQ τ (EH h) (ev t x) (ev t y)) (xg (T tt) fun τ=>lK τ e h (ev t x) (ev t y)) dst ops l ws Q t h e:=xG (fun _ _ _ hh=>by cases hh) rfl (by cases dst<;>rfl) (by simp only[mh];first|rfl|(cases T tt<;>rfl)) (by simp only[tV];first|rfl|(cases T tt<;>rfl))
theorem Gj {tt:Nat} {x y:Operand} : oR T Γ N F ⟨dst,.store tt x y,ty,pos,af,gd⟩ ops l ws Q t h e fs=Eg T Γ N F (xg (T tt) fun τ=>cQ τ (EH h) (ev t x) (ev t y)) (xg (T tt) fun τ=>lK τ e h (ev t x) (ev t y)) dst (bj ⟨dst,.store tt x y,ty,pos,af,gd⟩ (ev t)) ops l ws Q t h e fs:=xJ (fun _ _ _ hh=>by cases hh) rfl (by cases dst<;>rfl) (by simp only[mh];first|rfl|(cases T tt<;>rfl)) (by simp only[tV];first|rfl|(cases T tt<;>rfl))
theorem xI {x:Operand} : oQ T Γ N F ⟨dst,.nilCheck x,ty,pos,af,gd⟩ ops l ws Q t h e=xt T Γ N F (jt (EH h) (ev t x)) dst ops l ws Q t h e:=eh (fun _ _ _ hh=>by cases hh) rfl
theorem xL {x:Operand} : oR T Γ N F ⟨dst,.nilCheck x,ty,pos,af,gd⟩ ops l ws Q t h e fs=xu T Γ N F (jt (EH h) (ev t x)) dst (bj ⟨dst,.nilCheck x,ty,pos,af,gd⟩ (ev t)) ops l ws Q t h e fs:=ej (fun _ _ _ hh=>by cases hh) rfl
theorem we {tt i:Nat} {x:Operand} : oQ T Γ N F ⟨dst,.fieldAddr tt x i,ty,pos,af,gd⟩ ops l ws Q t h e=xt T Γ N F (xg (T tt) fun τ=>dC T τ (EH h) i (ev t x)) dst ops l ws Q t h e:=eh (fun _ _ _ hh=>by cases hh) (by simp only[mh];first|rfl|(cases T tt<;>rfl))
theorem wm {tt i:Nat} {x:Operand} : oR T Γ N F ⟨dst,.fieldAddr tt x i,ty,pos,af,gd⟩ ops l ws Q t h e fs=xu T Γ N F (xg (T tt) fun τ=>dC T τ (EH h) i (ev t x)) dst (bj ⟨dst,.fieldAddr tt x i,ty,pos,af,gd⟩ (ev t)) ops l ws Q t h e fs:=ej (fun _ _ _ hh=>by cases hh) (by simp only[mh];first|rfl|(cases T tt<;>rfl))
theorem F7 {tt i:Nat} {x:Operand} : oQ T Γ N F ⟨dst,.field tt x i,ty,pos,af,gd⟩ ops l ws Q t h e=xt T Γ N F (xg (T tt) fun τ=>lJ T τ i (ev t x)) dst ops l ws Q t h e:=eh (fun _ _ _ hh=>by cases hh) (by simp only[mh];first|rfl|(cases T tt<;>rfl))
theorem Gf {tt i:Nat} {x:Operand} : oR T Γ N F ⟨dst,.field tt x i,ty,pos,af,gd⟩ ops l ws Q t h e fs=xu T Γ N F (xg (T tt) fun τ=>lJ T τ i (ev t x)) dst (bj ⟨dst,.field tt x i,ty,pos,af,gd⟩ (ev t)) ops l ws Q t h e fs:=ej (fun _ _ _ hh=>by cases hh) (by simp only[mh];first|rfl|(cases T tt<;>rfl))
theorem wg {tt:Nat} {x i:Operand} : oQ T Γ N F ⟨dst,.indexAddr tt x i,ty,pos,af,gd⟩ ops l ws Q t h e=xt T Γ N F (xg (T tt) fun τ=>bD T τ (EH h) (ev t x) (ev t i)) dst ops l ws Q t h e:=eh (fun _ _ _ hh=>by cases hh) (by simp only[mh];first|rfl|(cases T tt<;>rfl))
theorem wo {tt:Nat} {x i:Operand} : oR T Γ N F ⟨dst,.indexAddr tt x i,ty,pos,af,gd⟩ ops l ws Q t h e fs=xu T Γ N F (xg (T tt) fun τ=>bD T τ (EH h) (ev t x) (ev t i)) dst (bj ⟨dst,.indexAddr tt x i,ty,pos,af,gd⟩ (ev t)) ops l ws Q t h e fs:=ej (fun _ _ _ hh=>by cases hh) (by simp only[mh];first|rfl|(cases T tt<;>rfl))
theorem F8 {tt:Nat} {x i:Operand} : oQ T Γ N F ⟨dst,.index tt x i,ty,pos,af,gd⟩ ops l ws Q t h e=xt T Γ N F (xg (T tt) fun τ=>fL T τ (ev t x) (ev t i)) dst ops l ws Q t h e:=eh (fun _ _ _ hh=>by cases hh) (by simp only[mh];first|rfl|(cases T tt<;>rfl))
theorem Gg {tt:Nat} {x i:Operand} : oR T Γ N F ⟨dst,.index tt x i,ty,pos,af,gd⟩ ops l ws Q t h e fs=xu T Γ N F (xg (T tt) fun τ=>fL T τ (ev t x) (ev t i)) dst (bj ⟨dst,.index tt x i,ty,pos,af,gd⟩ (ev t)) ops l ws Q t h e fs:=ej (fun _ _ _ hh=>by cases hh) (by simp only[mh];first|rfl|(cases T tt<;>rfl))
theorem F9 {tt:Nat} {x:Operand} {lo hi mx:Option Operand} : oQ T Γ N F ⟨dst,.slice tt x lo hi mx,ty,pos,af,gd⟩ ops l ws Q t h e=xt T Γ N F (xg (T tt) fun τ=>cC T τ (EH h) (ev t x) (lo.map (ev t)) (hi.map (ev t)) (mx.map (ev t))) dst ops l ws Q t h e:=eh (fun _ _ _ hh=>by cases hh) (by simp only[mh];first|rfl|(cases T tt<;>rfl))
theorem Gh {tt:Nat} {x:Operand} {lo hi mx:Option Operand} : oR T Γ N F ⟨dst,.slice tt x lo hi mx,ty,pos,af,gd⟩ ops l ws Q t h e fs=xu T Γ N F (xg (T tt) fun τ=>cC T τ (EH h) (ev t x) (lo.map (ev t)) (hi.map (ev t)) (mx.map (ev t))) dst (bj ⟨dst,.slice tt x lo hi mx,ty,pos,af,gd⟩ (ev t)) ops l ws Q t h e fs:=ej (fun _ _ _ hh=>by cases hh) (by simp only[mh];first|rfl|(cases T tt<;>rfl))
theorem F6 {tt:Nat} {ps:List (Nat×Operand)} : oQ T Γ N F ⟨dst,.build tt ps.toArray,ty,pos,af,gd⟩ ops l ws Q t h e=xt T Γ N F (xg (T tt) fun τ=>oS Γ.own T τ (EH h) dst (ps.map fun p=>(p.1,ev t p.2))) dst ops l ws Q t h e:=eh (fun _ _ _ hh=>by cases hh) (by simp only[mh];first|rfl|(cases T tt<;>rfl))
theorem Ge {tt:Nat} {ps:List (Nat×Operand)} : oR T Γ N F ⟨dst,.build tt ps.toArray,ty,pos,af,gd⟩ ops l ws Q t h e fs=xu T Γ N F (xg (T tt) fun τ=>oS Γ.own T τ (EH h) dst (ps.map fun p=>(p.1,ev t p.2))) dst (bj ⟨dst,.build tt ps.toArray,ty,pos,af,gd⟩ (ev t)) ops l ws Q t h e fs:=ej (fun _ _ _ hh=>by cases hh) (by simp only[mh];first|rfl|(cases T tt<;>rfl))
theorem tP {tt len d:Nat} {ps:List (Nat×Operand)} : oQ T Γ N F ⟨some d,.buildSlice tt len ps.toArray,ty,pos,af,gd⟩ ops l ws Q t h e=xt T Γ N F (xg (T tt) fun τ=>dB T τ (EH h) e d len (ps.map fun p=>(p.1,ev t p.2))) (some d) ops l ws Q t h e:=eh (fun _ _ _ hh=>by cases hh) (by simp only[mh];first|rfl|(cases T tt<;>rfl))
theorem tQ {tt len d:Nat} {ps:List (Nat×Operand)} : oR T Γ N F ⟨some d,.buildSlice tt len ps.toArray,ty,pos,af,gd⟩ ops l ws Q t h e fs=xu T Γ N F (xg (T tt) fun τ=>dB T τ (EH h) e d len (ps.map fun p=>(p.1,ev t p.2))) (some d) (bj ⟨some d,.buildSlice tt len ps.toArray,ty,pos,af,gd⟩ (ev t)) ops l ws Q t h e fs:=ej (fun _ _ _ hh=>by cases hh) (by simp only[mh];first|rfl|(cases T tt<;>rfl))
def Dk (T:Nat->Option Ty) (e d tt:Nat) (x y:D):Option (Nat×Nat×Nat)->Option bP
 | some p=>(match T tt with|some τ=>kP T τ e d p.1 p.2.1 p.2.2 x y|none=>none)
 | none=>none
theorem G8 {d tt:Nat} {x y:D} : Dk T e d tt x y none=none:=agq
theorem G9 {d tt:Nat} {x y:D} {p:Nat×Nat×Nat} {τ:Ty} (hτ:T tt=some τ):Dk T e d tt x y (some p)=kP T τ e d p.1 p.2.1 p.2.2 x y:=by simp only[Dk,hτ]
def stM (y x:Option bP) (dst:Option Nat) (ops l:List Oper) (ws:List W) (Q:Kt) (t:Nat->D) (h:Nat->Option Row) (e:Nat):Prop :=
 match y with
 | some E=>Fh T Γ N F (some E) dst ops l ws Q t h e
 | none=>xt T Γ N F x dst ops l ws Q t h e
def YX (y x:Option bP) (dst:Option Nat) (ft:List Nat) (ops l:List Oper) (ws:List W) (Q:Kt) (t:Nat->D) (h:Nat->Option Row) (e:Nat) (fs:List j8):Prop :=
 match y with
 | some E=>Fi T Γ N F (some E) dst ft ops l ws Q t h e fs
 | none=>xu T Γ N F x dst ft ops l ws Q t h e fs
theorem wh {tt d:Nat} {x y:Operand} : oQ T Γ N F ⟨some d,.makeSlice tt x y,ty,pos,af,gd⟩ ops l ws Q t h e=stM (T:=T) (Γ:=Γ) (N:=N) (F:=F) (Dk T e d tt (ev t x) (ev t y) (Γ.nst d)) (xg (T tt) fun τ=>pL T τ e d (ev t x) (ev t y)) (some d) ops l ws Q t h e:=by
 have hm:jc T Γ e ⟨some d,.makeSlice tt x y,ty,pos,af,gd⟩ (ev t)=Dk T e d tt (ev t x) (ev t y) (Γ.nst d):=by
  unfold jc Dk
  simp only
  cases Γ.nst d<;>rfl
 cases hc:Dk T e d tt (ev t x) (ev t y) (Γ.nst d) with
 | none=>exact eh (fun _ _ _ hh=>by cases hh) (by simp only[mh];first|rfl|(cases T tt<;>rfl)) (hm.trans hc)
 | some E=>unfold oQ QZ pC;rw[hm,hc];rfl
theorem wq {tt d:Nat} {x y:Operand} : oR T Γ N F ⟨some d,.makeSlice tt x y,ty,pos,af,gd⟩ ops l ws Q t h e fs=YX (T:=T) (Γ:=Γ) (N:=N) (F:=F) (Dk T e d tt (ev t x) (ev t y) (Γ.nst d)) (xg (T tt) fun τ=>pL T τ e d (ev t x) (ev t y)) (some d) (bj ⟨some d,.makeSlice tt x y,ty,pos,af,gd⟩ (ev t)) ops l ws Q t h e fs:=by
 have hm:jc T Γ e ⟨some d,.makeSlice tt x y,ty,pos,af,gd⟩ (ev t)=Dk T e d tt (ev t x) (ev t y) (Γ.nst d):=by
  unfold jc Dk
  simp only
  cases Γ.nst d<;>rfl
 cases hc:Dk T e d tt (ev t x) (ev t y) (Γ.nst d) with
 | none=>exact ej (fun _ _ _ hh=>by cases hh) (by simp only[mh];first|rfl|(cases T tt<;>rfl)) (hm.trans hc)
 | some E=>unfold oR QZ pC;rw[hm,hc];rfl
theorem Ot {x:Option bP} : stM (T:=T) (Γ:=Γ) (N:=N) (F:=F) none x dst ops l ws Q t h e=xt T Γ N F x dst ops l ws Q t h e:=agq
theorem H3 {x:Option bP} {ft:List Nat} : YX (T:=T) (Γ:=Γ) (N:=N) (F:=F) none x dst ft ops l ws Q t h e fs=xu T Γ N F x dst ft ops l ws Q t h e fs:=agq
theorem Ou {x:Option bP} {E:bP} : stM (T:=T) (Γ:=Γ) (N:=N) (F:=F) (some E) x dst ops l ws Q t h e=Fh T Γ N F (some E) dst ops l ws Q t h e:=agq
theorem H4 {x:Option bP} {ft:List Nat} {E:bP} : YX (T:=T) (Γ:=Γ) (N:=N) (F:=F) (some E) x dst ft ops l ws Q t h e fs=Fi T Γ N F (some E) dst ft ops l ws Q t h e fs:=agq
theorem S1 {x:Option bP} {c:Prop} [Decidable c] {E:bP} (hc:c):stM (T:=T) (Γ:=Γ) (N:=N) (F:=F) (if c then some E else none) x dst ops l ws Q t h e=Fh T Γ N F (some E) dst ops l ws Q t h e:=by rw[if_pos hc];rfl
theorem Oq {x:Option bP} {ft:List Nat} {c:Prop} [Decidable c] {E:bP} (hc:c):YX (T:=T) (Γ:=Γ) (N:=N) (F:=F) (if c then some E else none) x dst ft ops l ws Q t h e fs=Fi T Γ N F (some E) dst ft ops l ws Q t h e fs:=by rw[if_pos hc];rfl
theorem F4 {tt d:Nat} : oQ T Γ N F ⟨some d,.alloc tt,ty,pos,af,gd⟩ ops l ws Q t h e=xt T Γ N F (BH (T tt) tt d e (Γ.hint d)) (some d) ops l ws Q t h e:=eh (fun _ _ _ hh=>by cases hh) (by simp only[mh];cases T tt with|none=>rfl|some τ=>(dsimp only[BH];cases Γ.hint d<;>rfl))
theorem Gc {tt d:Nat} : oR T Γ N F ⟨some d,.alloc tt,ty,pos,af,gd⟩ ops l ws Q t h e fs=xu T Γ N F (BH (T tt) tt d e (Γ.hint d)) (some d) (bj ⟨some d,.alloc tt,ty,pos,af,gd⟩ (ev t)) ops l ws Q t h e fs:=ej (fun _ _ _ hh=>by cases hh) (by simp only[mh];cases T tt with|none=>rfl|some τ=>(dsimp only[BH];cases Γ.hint d<;>rfl))
theorem zX {tt d:Nat} : oQ T Γ N F ⟨some d,.makeMap tt none,ty,pos,af,gd⟩ ops l ws Q t h e=xt T Γ N F (abr T (T tt) tt e d) (some d) ops l ws Q t h e:=eh (fun _ _ _ hh=>by cases hh) (by simp only[mh];first|rfl|(cases T tt<;>rfl))
theorem z7 {tt d:Nat} : oR T Γ N F ⟨some d,.makeMap tt none,ty,pos,af,gd⟩ ops l ws Q t h e fs=xu T Γ N F (abr T (T tt) tt e d) (some d) (bj ⟨some d,.makeMap tt none,ty,pos,af,gd⟩ (ev t)) ops l ws Q t h e fs:=ej (fun _ _ _ hh=>by cases hh) (by simp only[mh];first|rfl|(cases T tt<;>rfl))
theorem Ce {tt:Nat} {m i:Operand} {ok:Bool} : oQ T Γ N F ⟨dst,.lookup tt m i ok,ty,pos,af,gd⟩ ops l ws Q t h e=xt T Γ N F (xg (T tt) fun τ=>iU T τ (EH h) (ev t m) (ev t i) ok) dst ops l ws Q t h e:=eh (fun _ _ _ hh=>by cases hh) (by simp only[mh];first|rfl|(cases T tt<;>rfl))
theorem Ch {tt:Nat} {m i:Operand} {ok:Bool} : oR T Γ N F ⟨dst,.lookup tt m i ok,ty,pos,af,gd⟩ ops l ws Q t h e fs=xu T Γ N F (xg (T tt) fun τ=>iU T τ (EH h) (ev t m) (ev t i) ok) dst (bj ⟨dst,.lookup tt m i ok,ty,pos,af,gd⟩ (ev t)) ops l ws Q t h e fs:=ej (fun _ _ _ hh=>by cases hh) (by simp only[mh];first|rfl|(cases T tt<;>rfl))
theorem wk {tt:Nat} {m i x:Operand} : oQ T Γ N F ⟨dst,.mapUpdate tt m i x,ty,pos,af,gd⟩ ops l ws Q t h e=xt T Γ N F (xg (T tt) fun τ=>dj T τ (EH h) (ev t m) (ev t i) (ev t x)) dst ops l ws Q t h e:=eh (fun _ _ _ hh=>by cases hh) (by simp only[mh];first|rfl|(cases T tt<;>rfl))
theorem wv {tt:Nat} {m i x:Operand} : oR T Γ N F ⟨dst,.mapUpdate tt m i x,ty,pos,af,gd⟩ ops l ws Q t h e fs=xu T Γ N F (xg (T tt) fun τ=>dj T τ (EH h) (ev t m) (ev t i) (ev t x)) dst (bj ⟨dst,.mapUpdate tt m i x,ty,pos,af,gd⟩ (ev t)) ops l ws Q t h e fs:=ej (fun _ _ _ hh=>by cases hh) (by simp only[mh];first|rfl|(cases T tt<;>rfl))
theorem Cd {tt:Nat} {m i x:Operand} : oQ T Γ N F ⟨dst,.insert tt m i x,ty,pos,af,gd⟩ ops l ws Q t h e=xt T Γ N F (xg (T tt) fun τ=>dj T τ (EH h) (ev t m) (ev t i) (ev t x)) dst ops l ws Q t h e:=eh (fun _ _ _ hh=>by cases hh) (by simp only[mh];first|rfl|(cases T tt<;>rfl))
theorem Cg {tt:Nat} {m i x:Operand} : oR T Γ N F ⟨dst,.insert tt m i x,ty,pos,af,gd⟩ ops l ws Q t h e fs=xu T Γ N F (xg (T tt) fun τ=>dj T τ (EH h) (ev t m) (ev t i) (ev t x)) dst (bj ⟨dst,.insert tt m i x,ty,pos,af,gd⟩ (ev t)) ops l ws Q t h e fs:=ej (fun _ _ _ hh=>by cases hh) (by simp only[mh];first|rfl|(cases T tt<;>rfl))
theorem RS {tt d:Nat} {x:Operand} : oQ T Γ N F ⟨some d,.box tt x,ty,pos,af,gd⟩ ops l ws Q t h e=xt T Γ N F (aae (ef (EH h) (ev t x)) (EH h) tt d e) (some d) ops l ws Q t h e:=eh (fun _ _ _ hh=>by cases hh) (by simp only[mh];first|rfl|(cases ef (EH h) (ev t x)<;>rfl))
theorem RU {tt d:Nat} {x:Operand} : oR T Γ N F ⟨some d,.box tt x,ty,pos,af,gd⟩ ops l ws Q t h e fs=xu T Γ N F (aae (ef (EH h) (ev t x)) (EH h) tt d e) (some d) (bj ⟨some d,.box tt x,ty,pos,af,gd⟩ (ev t)) ops l ws Q t h e fs:=ej (fun _ _ _ hh=>by cases hh) (by simp only[mh];first|rfl|(cases ef (EH h) (ev t x)<;>rfl))
theorem zV {a b:Nat} {x:Operand} : oQ T Γ N F ⟨dst,.convert a b x,ty,pos,af,gd⟩ ops l ws Q t h e=xt T Γ N F (VH (T b) (T a) (ev t x)) dst ops l ws Q t h e:=eh (fun _ _ _ hh=>by cases hh) rfl
theorem zZ {a b:Nat} {x:Operand} : oR T Γ N F ⟨dst,.convert a b x,ty,pos,af,gd⟩ ops l ws Q t h e fs=xu T Γ N F (VH (T b) (T a) (ev t x)) dst (bj ⟨dst,.convert a b x,ty,pos,af,gd⟩ (ev t)) ops l ws Q t h e fs:=ej (fun _ _ _ hh=>by cases hh) rfl
theorem zW {x:Nat} {i:Nat} : oQ T Γ N F ⟨dst,.extract (.tmp x) i,ty,pos,af,gd⟩ ops l ws Q t h e=xt T Γ N F (Yu (t x) i) dst ops l ws Q t h e:=eh (fun _ _ _ hh=>by cases hh) rfl
theorem z6 {x:Nat} {i:Nat} : oR T Γ N F ⟨dst,.extract (.tmp x) i,ty,pos,af,gd⟩ ops l ws Q t h e fs=xu T Γ N F (Yu (t x) i) dst (bj ⟨dst,.extract (.tmp x) i,ty,pos,af,gd⟩ (ev t)) ops l ws Q t h e fs:=ej (fun _ _ _ hh=>by cases hh) rfl
def cnL (Γ:Env) (e:Nat) (h:Nat->Option Row) (g:Nat) (args:List D):Option (Nat×(Nat->Nat->Nat->Nat->List D->List D->Option (D×List D)))->Option bP
 | some _=>qC Γ e h g args
 | none=>none
theorem KT {g:Nat} {args:List D} : cnL Γ e h g args none=none:=agq
theorem KU {g:Nat} {args:List D} {p:Nat×(Nat->Nat->Nat->Nat->List D->List D->Option (D×List D))} : cnL Γ e h g args (some p)=qC Γ e h g args:=agq
theorem V5 {g:Nat} {args:List D} : Ad Γ e h (some (.fn g,args))=cnL Γ e h g args (Γ.nx.lnd g):=by
 cases hl:Γ.nx.lnd g with
 | some p=>rfl
 | none =>
  show qC Γ e h g args=none
  cases hc:qC Γ e h g args with
  | none=>rfl
  | some E =>
   obtain⟨_,_,_,_,_,_,_,_,_,_,_,_,_,_,_,_,h1,_⟩:=rI hc
   rw[hl]at h1
   cases h1
theorem RZ {f k:Nat} {xs args:List D} : Ad Γ e h (some (.clo f k xs,args))=none:=agq
theorem V4 {d g:Nat} {args:List D} : mi Γ e h (some d) (some (.fn g,args))=Cy e d h args (Γ.nx.res g):=agq
theorem RY {dst:Option Nat} {f k:Nat} {xs args:List D} : mi Γ e h dst (some (.clo f k xs,args))=none:=by cases dst<;>rfl
theorem Lh {q:Option (D×List D)} : mi Γ e h none q=none:=agq
theorem Li {d:Nat} {args:List D} : Cy e d h args none=none:=agq
theorem Lj {d:Nat} {args:List D} {p:List D->Option (Nat×Nat×Nat×Nat×Nat×List D)} : Cy e d h args (some p)=FL p e d (bl (EH h) args):=agq
theorem Kp {d:Nat} {adv:List D} {p:List D->Option (Nat×Nat×Nat×Nat×Nat×List D)} : FL p e d (some (adv,[]))=IE e d (p adv):=agq
theorem FM {d ty tt s S n:Nat} {cs:List D} (hd:d<1000000):IE e d (some (ty,tt,s,S,n,cs))=some ⟨.buf d e S 0 n,[(d,some ⟨e,ty,[.nr tt s (4*e+2) cs],false,true,true⟩)]⟩:=if_pos (by rw[cU];exact hd)
def stC (y0 x y:Option bP) (dst:Option Nat) (ops l:List Oper) (ws:List W) (Q:Kt) (t:Nat->D) (h:Nat->Option Row) (e:Nat):Prop :=
 match y0 with
 | some E=>Fh T Γ N F (some E) dst ops l ws Q t h e
 | none=>Ef T Γ N F x y dst ops l ws Q t h e
def aaP (y0 x y:Option bP) (dst:Option Nat) (ft:List Nat) (ops l:List Oper) (ws:List W) (Q:Kt) (t:Nat->D) (h:Nat->Option Row) (e:Nat) (fs:List j8):Prop :=
 match y0 with
 | some E=>Fi T Γ N F (some E) dst ft ops l ws Q t h e fs
 | none=>Eg T Γ N F x y dst ft ops l ws Q t h e fs
theorem Ol {x y:Option bP} : stC (T:=T) (Γ:=Γ) (N:=N) (F:=F) none x y dst ops l ws Q t h e=Ef T Γ N F x y dst ops l ws Q t h e:=agq
theorem HX {x y:Option bP} {ft:List Nat} : aaP (T:=T) (Γ:=Γ) (N:=N) (F:=F) none x y dst ft ops l ws Q t h e fs=Eg T Γ N F x y dst ft ops l ws Q t h e fs:=agq
theorem Om {x y:Option bP} {E:bP} : stC (T:=T) (Γ:=Γ) (N:=N) (F:=F) (some E) x y dst ops l ws Q t h e=Fh T Γ N F (some E) dst ops l ws Q t h e:=agq
theorem HY {x y:Option bP} {ft:List Nat} {E:bP} : aaP (T:=T) (Γ:=Γ) (N:=N) (F:=F) (some E) x y dst ft ops l ws Q t h e fs=Fi T Γ N F (some E) dst ft ops l ws Q t h e fs:=agq
theorem KZ {x:Operand} {adv:List Operand} {tys:Array Nat} : oQ T Γ N F ⟨dst,.call ⟨.value x,adv.toArray,tys⟩,ty,pos,af,gd⟩ ops l ws Q t h e=stC (T:=T) (Γ:=Γ) (N:=N) (F:=F) (mi Γ e h dst (some (ev t x,adv.map (ev t)))) (gT Γ (EH h) e dst (ev t x) (adv.map (ev t))) (Ad Γ e h (some (ev t x,adv.map (ev t)))) dst ops l ws Q t h e:=by
 have hco:gK (ev t) (.call ⟨.value x,adv.toArray,tys⟩)=some (ev t x,adv.map (ev t)):=rfl
 cases hc:mi Γ e h dst (some (ev t x,adv.map (ev t))) with
 | none=>exact xG (fun _ _ _ hh=>by cases hh) rfl (by rw[hco];exact hc) rfl rfl
 | some E=>unfold oQ QZ pC;simp only[jc,hco,hc];rfl
theorem K8 {x:Operand} {adv:List Operand} {tys:Array Nat} : oR T Γ N F ⟨dst,.call ⟨.value x,adv.toArray,tys⟩,ty,pos,af,gd⟩ ops l ws Q t h e fs=aaP (T:=T) (Γ:=Γ) (N:=N) (F:=F) (mi Γ e h dst (some (ev t x,adv.map (ev t)))) (gT Γ (EH h) e dst (ev t x) (adv.map (ev t))) (Ad Γ e h (some (ev t x,adv.map (ev t)))) dst (bj ⟨dst,.call ⟨.value x,adv.toArray,tys⟩,ty,pos,af,gd⟩ (ev t)) ops l ws Q t h e fs:=by
 have hco:gK (ev t) (.call ⟨.value x,adv.toArray,tys⟩)=some (ev t x,adv.map (ev t)):=rfl
 cases hc:mi Γ e h dst (some (ev t x,adv.map (ev t))) with
 | none=>exact xJ (fun _ _ _ hh=>by cases hh) rfl (by rw[hco];exact hc) rfl rfl
 | some E=>unfold oR QZ pC;simp only[jc,hco,hc];rfl
theorem zU {x:Builtin} {adv:List Operand} {tys:List Nat} : oQ T Γ N F ⟨dst,.call ⟨.builtin x,adv.toArray,tys.toArray⟩,ty,pos,af,gd⟩ ops l ws Q t h e=xt T Γ N F (ch T (EH h) e dst x tys (adv.map (ev t))) dst ops l ws Q t h e:=eh (fun _ _ _ hh=>by cases hh) rfl
theorem zY {x:Builtin} {adv:List Operand} {tys:List Nat} : oR T Γ N F ⟨dst,.call ⟨.builtin x,adv.toArray,tys.toArray⟩,ty,pos,af,gd⟩ ops l ws Q t h e fs=xu T Γ N F (ch T (EH h) e dst x tys (adv.map (ev t))) dst (bj ⟨dst,.call ⟨.builtin x,adv.toArray,tys.toArray⟩,ty,pos,af,gd⟩ (ev t)) ops l ws Q t h e fs:=ej (fun _ _ _ hh=>by cases hh) rfl
theorem bn {o:Array Oper} {A:Prop} (h1:Cq o fs=true) (h2:A):Cq o fs=true∧A:=⟨h1,h2⟩
theorem aq {b:Bool} {g:Nat} {x y:Code} (h1:b=true->cJ T Γ N F (.code x::ws) Q .normal (cc t g (.bool true)) h e) (h2:b=false->cJ T Γ N F (.code y::ws) Q .normal (cc t g (.bool false)) h e):JT T Γ N F (.bool b) g x y ws Q t h e:=by rw[UG];exact⟨h1,h2⟩
theorem dp {b:Bool} {g:Nat} {o:Oper} (h1:b=true->oQ T Γ N F o ops l ws Q (cc t g (.bool true)) h e) (h2:b=false->kU T Γ N F ops l ws Q (ec (cc t g (.bool false)) o.dst .skp) h e):wa T Γ N F (.bool b) g true o ops l ws Q t h e:=by rw[UH];exact⟨h1,h2⟩
theorem bd {b:Bool} {g:Nat} {o:Oper} (h1:b=true->kU T Γ N F ops l ws Q (ec (cc t g (.bool true)) o.dst .skp) h e) (h2:b=false->oQ T Γ N F o ops l ws Q (cc t g (.bool false)) h e):wa T Γ N F (.bool b) g false o ops l ws Q t h e:=by rw[QQ];exact⟨h1,h2⟩
theorem sO {b:Bool} {g:Nat} {o:Oper} (h1:b=true->oR T Γ N F o ops l ws Q (cc t g (.bool true)) h e fs) (h2:b=false->kV T Γ N F ops l ws Q (ec (cc t g (.bool false)) o.dst .skp) h e (fs++[⟨[],true⟩])):wb T Γ N F (.bool b) g true o ops l ws Q t h e fs:=by rw[UI];exact⟨h1,h2⟩
theorem XS {b:Bool} {g:Nat} {o:Oper} (h1:b=true->kV T Γ N F ops l ws Q (ec (cc t g (.bool true)) o.dst .skp) h e (fs++[⟨[],true⟩])) (h2:b=false->oR T Γ N F o ops l ws Q (cc t g (.bool false)) h e fs):wb T Γ N F (.bool b) g false o ops l ws Q t h e fs:=by rw[QR];exact⟨h1,h2⟩
def Yt (mode:Mode) (T:Nat->Option Ty) (lent:Option (D×Row)) (rs:List ResultVar) (r:RK×Option Row):Kt:=fun x t h e=>aal mode T lent rs x t h e r
theorem Af {mode:Mode} {lent:Option (D×Row)} {rs:List ResultVar} {r:RK×Option Row} : Yt mode T lent rs r .normal t h e=(jo mode T lent rs ⟨t,EH h,e⟩=some r):=agq
theorem eo {mode:Mode} {lent:Option (D×Row)} {rs:List ResultVar} {r:RK×Option Row} : Yt mode T lent rs r .ret t h e=(jo mode T lent rs ⟨t,EH h,e⟩=some r):=agq
def R4 (T:Nat->Option Ty) (ty tt s:Nat) (rs:List ResultVar) (r:D×List D):Kt:=fun x t h e =>
 match x with
 | .exit _=>False
 | _=>TT T ty tt s rs ⟨t,h,e⟩=some r
theorem xT {ty tt s:Nat} {rs:List ResultVar} {r:D×List D} : R4 T ty tt s rs r .normal t h e=(TT T ty tt s rs ⟨t,h,e⟩=some r):=agq
theorem dm {ty tt s:Nat} {rs:List ResultVar} {r:D×List D} : R4 T ty tt s rs r .ret t h e=(TT T ty tt s rs ⟨t,h,e⟩=some r):=agq
def R3 (rs:List ResultVar) (r:Nat×Nat×Nat×Nat×Nat×List D):Kt:=fun x t h e =>
 match x with
 | .exit _=>False
 | _=>TS rs ⟨t,h,e⟩=some r
theorem xS {rs:List ResultVar} {r:Nat×Nat×Nat×Nat×Nat×List D} : R3 rs r .normal t h e=(TS rs ⟨t,h,e⟩=some r):=agq
theorem dk {rs:List ResultVar} {r:Nat×Nat×Nat×Nat×Nat×List D} : R3 rs r .ret t h e=(TS rs ⟨t,h,e⟩=some r):=agq
theorem R5 {ty tt s:Nat} {rs:List ResultVar} : TT T ty tt s rs ⟨t,h,e⟩=Lu ty tt s (ux T ⟨t,EH h,e⟩ rs) (h 0):=agq
theorem Lv {ty tt s nv:Nat} {lst:Bool} {ds cs:List D} : Lu ty tt s (some (ds,[])) (some ⟨0,ty,[.nr tt s nv cs],false,lst,true⟩)=some (mI ds,cs):=by
 simp[Lu,Wa]
theorem R2 {i:Nat} : TS [.tmp i] ⟨t,h,e⟩=R1 h (t i):=agq
theorem Gs {x v S n:Nat} : R1 h (.buf x v S 0 n)=Ls x v S n (h x):=agq
theorem Lt {x v S n ty tt s nv:Nat} {lst:Bool} {cs:List D} (hx:x<1000000):Ls x v S n (some ⟨v,ty,[.nr tt s nv cs],false,lst,true⟩)=some (ty,tt,s,S,n,cs):=by
 have:x<PK:=by rw[cU];exact hx
 simp[Ls,V9,this]
theorem vT {fn:Func} {c:Code} {n ty tt s o:Nat} {cs args:List D} {rs:List ResultVar} {r:D×List D} (hb:fn.body=some c) (hn:fn.ntmps=n) (hr:fn.results=rs.toArray) (hw:cJ T Γ n F [.code c] (R4 T ty tt s rs r) .normal (yY (.ptr 0 0 o::args)) (l7 (gD ty tt s 0 cs)) 1) (hpk:n<=1000000:=by exact afg rfl):sQ T Γ F fn ty tt s o cs args=some r:=by
 obtain⟨x,st,h1,h2⟩:=JY _ _ _ _ _ (show J3 T Γ n F c (yY (.ptr 0 0 o::args)) (l7 (gD ty tt s 0 cs)) 1 (R4 T ty tt s rs r) from hw)
 unfold sQ
 simp only[hb,hn]
 rw[if_pos (by rw[cU];exact hpk)]
 have e0:pz ty tt s o cs args=⟨yY (.ptr 0 0 o::args),l7 (gD ty tt s 0 cs),1⟩:=rfl
 rw[e0,h1,hr]
 cases x with
 | normal=>exact h2
 | ret=>exact h2
 | exit m=>exact h2.elim
theorem UL {fn:Func} {c:Code} {n:Nat} {args:List D} {rs:List ResultVar} {r:Nat×Nat×Nat×Nat×Nat×List D} (hb:fn.body=some c) (hn:fn.ntmps=n) (hr:fn.results=rs.toArray) (hw:cJ T Γ n F [.code c] (R3 rs r) .normal (yY args) Np 0) (hpk:n<=1000000:=by exact afg rfl):sP T Γ F fn args=some r:=by
 obtain⟨x,st,h1,h2⟩:=JY _ _ _ _ _ (show J3 T Γ n F c (yY args) Np 0 (R3 rs r) from hw)
 unfold sP
 simp only[hb,hn]
 rw[if_pos (by rw[cU];exact hpk)]
 have e0:ca none args=⟨yY args,Np,0⟩:=rfl
 rw[e0,h1,hr]
 cases x with
 | normal=>exact h2
 | ret=>exact h2
 | exit m=>exact h2.elim
theorem aC {mode:Mode} {fn:Func} {c:Code} {n:Nat} {rs:List ResultVar} {args:List D} {r:RK×Option Row} (hb:fn.body=some c) (hn:fn.ntmps=n) (hr:fn.results=rs.toArray) (hw:cJ T Γ n F [.code c] (Yt mode T none rs r) .normal (yY args) Np 0) (hpk:n<=1000000:=by exact afg rfl):bc mode T Γ F fn none args=some r:=by
 refine X4 ?_ (by rw[hn];exact hpk)
 unfold wpf
 rw[hb,hn,hr]
 exact hw
theorem N3 (r:Row) (i:Nat):l7 r i=if i=0 then some r else none:=agq
theorem Ew {mode:Mode} {fn:Func} {c:Code} {n:Nat} {rs:List ResultVar} {d0:D} {ty:Nat} {cells:List D} {fz lst:Bool} {args:List D} {r:RK×Option Row} (hb:fn.body=some c) (hn:fn.ntmps=n) (hr:fn.results=rs.toArray)
  (hw:cJ T Γ n F [.code c] (Yt mode T (some (d0,⟨0,ty,cells,fz,lst,false⟩)) rs r) .normal (yY (d0::args)) (l7 ⟨0,ty,cells,fz,lst,false⟩) 1) (hpk:n<=1000000:=by exact afg rfl):bc mode T Γ F fn (some (d0,⟨0,ty,cells,fz,lst,false⟩)) args=some r:=by
 refine X4 ?_ (by rw[hn];exact hpk)
 unfold wpf
 rw[hb,hn,hr]
 exact hw
end
section
variable {h:Nat->Option Row} {k x o v ty fz' nv s n e:Nat} {cs xs:List D} {fz lst:Bool}
theorem UT (hk:k<2000000):EH h k=(h k).map (Bn k):=tv (by rw[cU];exact hk)
theorem Y5 (hx:x<1000000):EH h (NK x o)=(h x).bind fun r=>qL r o:=wc (by rw[cU];exact hx)
theorem HV:Bn k ⟨v,ty,cs,fz,lst,false⟩=⟨v,ty,cs,fz,lst,false⟩:=agq
theorem SW {ks:List Int} : Bn k ⟨v,ty,[.mpc ks xs],fz,lst,true⟩=⟨v,ty,[.mpc ks xs],fz,lst,true⟩:=agq
theorem Xa {y:Nat} : Bn k ⟨v,ty,[.ph y s n],fz,lst,true⟩=⟨v,ty,[.ph y s n],fz,lst,true⟩:=agq
theorem W9 {t:Nat} : Bn k ⟨v,ty,[.nr t s nv cs],fz,lst,true⟩=⟨v,ty,cs.mapIdx (qm k s),fz,lst,true⟩:=agq
theorem Nm {t:Nat} : qL ⟨v,ty,[.nr t s nv cs],fz,lst,true⟩ o=Dm t nv fz (cs.drop o).head?:=agq
theorem Nl:Dm ty nv fz (some (.nx n xs))=some ⟨nv,ty,xs,fz,true,false⟩:=agq
theorem ZX (hx:x<1000000):rt (NK x o)=x:=uz (by rw[cU];exact hx)
theorem GM:j5 h []=[]:=agq
theorem GL {r:Option Row} {l:List (Nat×Option Row)} (hk:k<2000000):j5 h ((k,r)::l)=(k,Dn r)::j5 (cc h k (Dn r)) l:=by
 have h1:rt k=k:=j7 (by rw[cU];exact hk)
 have h2:yp h k r=Dn r:=if_pos (by rw[cU];exact hk)
 simp only[j5,h1,h2]
theorem LH {r:Option Row} {l:List (Nat×Option Row)} (hx:x<1000000):j5 h ((NK x o,r)::l)=(x,(h x).map (DQ o r))::j5 (cc h x ((h x).map (DQ o r))) l:=by
 have hx':x<PK:=by rw[cU];exact hx
 have h1:rt (NK x o)=x:=uz hx'
 have h2:yp h (NK x o) r=(h x).map (DQ o r):=by
  unfold yp
  rw[if_neg (by have:=fY x o;omega),rq o hx',By o hx']
 simp only[j5,h1,h2]
theorem Hk:Dn none=none:=agq
theorem Dp:Dn (some ⟨v,ty,cs,fz,lst,false⟩)=some ⟨v,ty,cs,fz,lst,false⟩:=agq
theorem No {ks:List Int} : Dn (some ⟨v,ty,[.mpc ks xs],fz,lst,true⟩)=some ⟨v,ty,[.mpc ks xs],fz,lst,true⟩:=agq
theorem SF {y:Nat} : Dn (some ⟨v,ty,[.ph y s n],fz,lst,true⟩)=some ⟨v,ty,[.ph y s n],fz,lst,true⟩:=agq
theorem SN {t:Nat} {r:Option Row} : DQ o r ⟨v,ty,[.nr t s nv cs],fz,lst,true⟩=⟨v,ty,zq t s nv fz cs o r (cs.drop o).head?,fz,lst,true⟩:=agq
theorem SV {t v':Nat} {xs':List D} : zq t s nv fz cs o (some ⟨v',t,xs',fz,true,false⟩) (some (.nx n xs))=if v'=nv then [.nr t s nv (putCells cs o [.nx n xs'])] else [.nr t s nv (putCells cs o [.und])]:=by
 by_cases hv:v'=nv<;>simp[zq,Hu,hv]
def lvN (x v:Nat):Option Row->Option (Row×Nat×Nat×Nat×List D)
 | some r=>if r.v=v∧r.fz=false∧r.mp=true∧x<1000000 then nrO r r.cells else none
 | none=>none
theorem MI:jm h x v=lvN x v (h x):=by
 unfold jm lvN
 rw[cU]
 cases h x<;>rfl
theorem WA {t:Nat} (hx:x<1000000):lvN x v (some ⟨v,ty,[.nr t s nv cs],false,lst,true⟩)=some (⟨v,ty,[.nr t s nv cs],false,lst,true⟩,t,s,nv,cs):=by
 simp only[lvN,true_and,hx,and_self,if_true,nrO]
def aav (τ:Ty) (x o:Nat):Option (Row×Nat×Nat×Nat×List D)->Option bP
 | some (r,ty,s,nv,cs)=>C5 τ x s nv o cs (cs.drop o).head?
 | none=>none
theorem Sr {τ:Ty} : nH τ h (.ptr x v o)=aav τ x o (jm h x v):=by
 simp only[nH,aav]
 cases jm h x v<;>rfl
theorem GW {τ:Ty} {r:Row} {t:Nat} : aav τ x o (some (r,t,s,nv,cs))=C5 τ x s nv o cs (cs.drop o).head?:=agq
theorem Sp {ds:Ds} {b:Nat} {z:List Value} {q:Bool} : C5 ⟨ds,1,b,z,q⟩ x s nv o cs (some (.nx n xs))=if ds.pc=false then some ⟨.buf (NK x o) nv s 0 n,[]⟩ else none:=by
 simp only[C5,true_and]
def T4 (τ:Ty) (o:Nat) (cs:List D):Option bP :=
 if o+τ.size<=cs.length∧((cs.drop o).take τ.size).all fk=true then ZR (lR τ ((cs.drop o).take τ.size)) else none
theorem My {τ:Ty} {kk:IntKind} {i:Int} : C5 τ x s nv o cs (some (.int kk i))=T4 τ o cs:=agq
theorem GX {τ:Ty} {b:Bool} : C5 τ x s nv o cs (some (.bool b))=T4 τ o cs:=agq
theorem Mz {τ:Ty} {b:ByteArray} : C5 τ x s nv o cs (some (.str b))=T4 τ o cs:=agq
theorem Sq {τ:Ty} {a b:Bool} : C5 τ x s nv o cs (some (.sl a b n xs))=T4 τ o cs:=agq
def YY (τ:Ty) (e:Nat) (h:Nat->Option Row) (x o:Nat) (d:D):Option (Row×Nat×Nat×Nat×List D)->Option bP
 | some (r,ty,s,nv,cs)=>if o+τ.size<=cs.length∧0<τ.size then v8 τ e h x r ty s nv cs o d else none
 | none=>none
theorem S3 {τ:Ty} {d:D} : lK τ e h (.ptr x v o) d=YY τ e h x o d (jm h x v):=by
 simp only[lK,YY]
 cases jm h x v<;>rfl
theorem H6 {ds:Ds} {m b:Nat} {z:List Value} {q:Bool} {d:D} {r:Row} {t:Nat} (hm:0<m) (hc:o+m<=cs.length):YY ⟨ds,m,b,z,q⟩ e h x o d (some (r,t,s,nv,cs))=v8 ⟨ds,m,b,z,q⟩ e h x r t s nv cs o d:=by
 simp only[YY,hm,hc,and_self,if_true]
theorem H7 {ds:Ds} {b:Nat} {z:List Value} {q:Bool} {r:Row} {t:Nat} : v8 ⟨ds,1,b,z,q⟩ e h x r t s nv cs o (.buf (NK x o) nv s 0 n)=zu x r t s nv cs o n (cs.drop o).head?:=by
 simp only[v8,and_self,if_true]
theorem HW {ds:Ds} {r:Row} {t n0:Nat} : zu x r t s nv cs o n (some (.nx n0 xs))=if n*s<=xs.length then some ⟨.und,[(x,some ⟨r.v,r.ty,[.nr t s nv (putCells cs o [.nx n (xs.take (n*s))])],false,r.lst,true⟩)]⟩ else none:=agq
def aaQ (x:Nat) (r:Row) (ty s:Nat) (cs:List D) (o y n:Nat) (b:Option Nat):Option Row->Option bP
 | some q=>if q.fz=false∧q.lst=true∧q.ty=ty∧q.cells.length=n*s then zw x r ty s cs o y n q b else none
 | none=>none
theorem H9 {ds:Ds} {b y vy:Nat} {z:List Value} {q:Bool} {r:Row} {t:Nat} (hy:y<1000000):v8 ⟨ds,1,b,z,q⟩ e h x r t s nv cs o (.buf y vy s 0 n)=aaQ x r t s cs o y n (pB nv e) (live h y vy):=by
 have h1:¬y=NK x o:=by have:=fY x o;rw[cU]at this;omega
 have h2:y<PK:=by rw[cU];exact hy
 simp only[v8,and_self,if_true,h1,if_false,h2]
 cases live h y vy<;>rfl
theorem H5 {r q:Row} {t nv' y:Nat} (hc:q.fz=false∧q.lst=true∧q.ty=t∧q.cells.length=n*s):aaQ x r t s cs o y n (some nv') (some q)=some ⟨.und,[(y,none),(x,some ⟨r.v,r.ty,[.nr t s nv' (putCells cs o [.nx n q.cells])],false,r.lst,true⟩)]⟩:=by
 simp only[aaQ,hc,and_self,if_true,zw]
theorem Ow {τ:Ty} {r:Row} {t:Nat} {kk:IntKind} {i:Int} : v8 τ e h x r t s nv cs o (.int kk i)=zx τ x r t s nv cs o (some [.int kk i]):=agq
theorem H8 {τ:Ty} {r:Row} {t:Nat} {b:Bool} : v8 τ e h x r t s nv cs o (.bool b)=zx τ x r t s nv cs o (some [.bool b]):=agq
theorem Ox {τ:Ty} {r:Row} {t:Nat} {b:ByteArray} : v8 τ e h x r t s nv cs o (.str b)=zx τ x r t s nv cs o (some [.str b]):=agq
theorem S2 {τ:Ty} {r:Row} {t:Nat} {a b:Bool} : v8 τ e h x r t s nv cs o (.sl a b n xs)=zx τ x r t s nv cs o (some [.sl a b n xs]):=agq
theorem Ov {τ:Ty} {r:Row} {t:Nat} : v8 τ e h x r t s nv cs o (.agg xs)=zx τ x r t s nv cs o (some xs):=agq
theorem Ie {τ:Ty} {r:Row} {t:Nat} {c':List D} : zx τ x r t s nv cs o (some c')=if c'.length=τ.size∧c'.all fk=true then some ⟨.und,[(x,some ⟨r.v,r.ty,[.nr t s nv (putCells cs o (c'.map canon))],false,r.lst,true⟩)]⟩ else none:=agq
theorem jN (hn:nv<=4*e):pB nv e=some (4*e+1):=if_pos hn
end
section
variable {Γ:Env} {g d:Nat} {p:Nat×Nat×Nat}
theorem R9 {f:Nat} {l:Bool} {G:Option (D×Row)->List D->Option (RK×Option Row)} : (Am.ext Γ f l G).nst g=Γ.nst g:=agq
theorem Mt:(Am.keep d Γ).nst g=Γ.nst g:=agq
theorem Mg {y:Nat} : (Am.wA d y Γ).nst g=Γ.nst g:=agq
theorem Mn {f:Nat} : (Am.zd f p Γ).nst g=Γ.nst g:=agq
theorem Ma {f:Nat} {q:Grow} : (Am.CX f q Γ).nst g=Γ.nst g:=agq
theorem Hg:a6.nst g=none:=agq
theorem NA:(Am.ym d p Γ).nst g=if g=d then some p else Γ.nst g:=agq
theorem Du:(Am.ym d p Γ).lends g=Γ.lends g:=agq
theorem NC {l:Option (D×Row)} {adv:List D} : (Am.ym d p Γ).sem g l adv=Γ.sem g l adv:=agq
theorem NB:(Am.ym d p Γ).own g=Γ.own g:=agq
theorem Ho:(Am.ym d p Γ).hint g=Γ.hint g:=agq
theorem Nz:(Am.ym d p Γ).ins g=Γ.ins g:=agq
theorem Ny:(Am.ym d p Γ).grw g=Γ.grw g:=agq
theorem Wd {f:Nat} {l:Bool} {G:Option (D×Row)->List D->Option (RK×Option Row)} : (Am.ext Γ f l G).nx=Γ.nx:=agq
theorem Sn:(Am.keep d Γ).nx=Γ.nx:=agq
theorem Sh {y:Nat} : (Am.wA d y Γ).nx=Γ.nx:=agq
theorem Sl {f:Nat} : (Am.zd f p Γ).nx=Γ.nx:=agq
theorem Se {f:Nat} {q:Grow} : (Am.CX f q Γ).nx=Γ.nx:=agq
theorem SG:(Am.ym d p Γ).nx=Γ.nx:=agq
theorem Hf:a6.nx.lnd g=none:=agq
theorem Hi:a6.nx.res g=none:=agq
end
section
variable {Γ:Env} {g d f:Nat} {p:Nat×(Nat->Nat->Nat->Nat->List D->List D->Option (D×List D))}
theorem MM:(Am.n9 f p Γ).nx.lnd g=if g=f then some p else Γ.nx.lnd g:=agq
theorem MP:(Am.n9 f p Γ).nx.res g=Γ.nx.res g:=agq
theorem Db:(Am.n9 f p Γ).lends g=Γ.lends g:=agq
theorem MQ {l:Option (D×Row)} {adv:List D} : (Am.n9 f p Γ).sem g l adv=Γ.sem g l adv:=agq
theorem MO:(Am.n9 f p Γ).own g=Γ.own g:=agq
theorem G3:(Am.n9 f p Γ).hint g=Γ.hint g:=agq
theorem ML:(Am.n9 f p Γ).ins g=Γ.ins g:=agq
theorem MK:(Am.n9 f p Γ).grw g=Γ.grw g:=agq
theorem MN:(Am.n9 f p Γ).nst g=Γ.nst g:=agq
end
section
variable {Γ:Env} {g d f:Nat} {p:List D->Option (Nat×Nat×Nat×Nat×Nat×List D)}
theorem Nw:(Am.yl f p Γ).nx.res g=if g=f then some p else Γ.nx.res g:=agq
theorem Nt:(Am.yl f p Γ).nx.lnd g=Γ.nx.lnd g:=agq
theorem Dt:(Am.yl f p Γ).lends g=Γ.lends g:=agq
theorem Nx {l:Option (D×Row)} {adv:List D} : (Am.yl f p Γ).sem g l adv=Γ.sem g l adv:=agq
theorem Nv:(Am.yl f p Γ).own g=Γ.own g:=agq
theorem Hn:(Am.yl f p Γ).hint g=Γ.hint g:=agq
theorem Ns:(Am.yl f p Γ).ins g=Γ.ins g:=agq
theorem Nr:(Am.yl f p Γ).grw g=Γ.grw g:=agq
theorem Nu:(Am.yl f p Γ).nst g=Γ.nst g:=agq
end
section
variable {Γ:Env} {h:Nat->Option Row} {e x v o g:Nat} {rest:List D}
def O7 (Γ:Env) (e:Nat) (h:Nat->Option Row) (g x o:Nat) (rest:List D):Option (Row×Nat×Nat×Nat×List D)->Option bP
 | some (r,ty,s,nv,cs)=>BZ e x r ty s nv cs o (Γ.nx.lnd g) (bl (EH h) rest)
 | none=>none
theorem FN:qC Γ e h g (.ptr x v o::rest)=O7 Γ e h g x o rest (jm h x v):=by
 simp only[qC,O7]
 cases jm h x v<;>rfl
theorem zP {r:Row} {ty s nv:Nat} {cs:List D} : O7 Γ e h g x o rest (some (r,ty,s,nv,cs))=BZ e x r ty s nv cs o (Γ.nx.lnd g) (bl (EH h) rest):=agq
theorem zN {r:Row} {ty s nv:Nat} {cs adv:List D} {p:Nat×(Nat->Nat->Nat->Nat->List D->List D->Option (D×List D))} : BZ e x r ty s nv cs o (some p) (some (adv,[]))=IF x r ty s o p.1 (pB nv e) (p.2 r.ty ty s o cs adv):=agq
theorem zO {r:Row} {ty s nv' k:Nat} {d:D} {cs':List D} : IF x r ty s o k (some nv') (some (d,cs'))=if ((cs'.drop o).take k).all (v7 s)=true then some ⟨d,[(x,some ⟨r.v,r.ty,[.nr ty s nv' (qW k o cs')],false,r.lst,true⟩)]⟩ else none:=agq
end
end Go.Proofs.Ytchndpjlijbplaa.Am
namespace Go.Proofs.Ytchndpjlijbplaa.P
open Go.RowKit
set_option linter.unusedSimpArgs false
set_option linter.unusedVariables false
def FU:Nat:=1000000000000000000000000
def nP {σ ρ:Type} (body:σ->Option (σ⊕ρ)):Nat->σ->Option ρ
 | 0,_=>none
 | n+1,s =>
  match body s with
  | some (.inl s')=>nP body n s'
  | some (.inr r)=>some r
  | none=>none
def aY {σ ρ:Type} (body:σ->Option (σ⊕ρ)) (s:σ):Option ρ:=nP body FU s
theorem Wt {σ ρ:Type} {body:σ->Option (σ⊕ρ)} (I:σ->Prop) (μ:σ->Nat) (Q:ρ->Prop)
  (hstep:∀s,I s->(∃s',body s=some (.inl s')∧I s'∧μ s'<μ s)∨(∃r,body s=some (.inr r)∧Q r)):∀(n:Nat) (s:σ),I s->μ s<n->∃r,nP body n s=some r∧Q r:=by
 intro n
 induction n with
 | zero=>intro s _ h;omega
 | succ n ih =>
  intro s hI hμ
  rcases hstep s hI with⟨s',h1,h2,h3⟩|⟨r,h1,h2⟩
  ·obtain⟨r,h4,h5⟩:=ih s' h2 (by omega)
   exact⟨r,by simp only[nP,h1];exact h4,h5⟩
  ·exact⟨r,by simp only[nP,h1],h2⟩
theorem pf {σ ρ:Type} {body:σ->Option (σ⊕ρ)} (I:σ->Prop) (μ:σ->Nat) (Q:ρ->Prop) {s:σ} (hI:I s) (hμ:μ s<FU)
  (hstep:∀s,I s->(∃s',body s=some (.inl s')∧I s'∧μ s'<μ s)∨(∃r,body s=some (.inr r)∧Q r)):∃r,aY body s=some r∧Q r:=Wt I μ Q hstep FU s hI hμ
def idx {α:Type} (l:List α) (i:Int):Option α:=if 0<=i∧i<l.length then l[i.toNat]? else none
def A9 {α:Type} (l:List α) (a b:Int):Option (List α):=if 0<=a∧a<=b∧b<=l.length then some ((l.drop a.toNat).take (b.toNat-a.toNat)) else none
def EC {α:Type} (bytes:Nat) (n c:Int) (z:α):Option (List α):=if 0<=n∧n<=c∧c<=maxLen∧c.toNat*bytes<=140737488355328 then some (List.replicate n.toNat z) else none
def mo {α:Type} (bytes:Nat) (l m:List α):Option (List α):=if l.length+m.length<=maxLen∧(l.length+m.length)*bytes<=140737488355328 then some (l++m) else none
def Wr {α:Type} (bytes:Nat) (l:List α) (i:Int) (xs:List α):Option (List α):=if 0<=i∧i<=l.length∧0<xs.length∧(l.length+xs.length)*bytes<=140737488355328 then some (l.take i.toNat++(xs++l.drop i.toNat)) else none
def VM {α:Type} (l:List α) (i j:Int):Option (List α):=if 0<=i∧i<=j∧j<=l.length∧l.length<=maxLen then some (l.take i.toNat++l.drop j.toNat) else none
def NQ {α:Type} (x:Bool×α):Option α:=if x.1=true then none else some x.2
def Oi {α:Type} (x:Bool×α):Option α:=if x.1=true then some x.2 else none
def GF {α:Type} (l:List α):List (Bool×α):=l.map fun x=>(false,x)
def y5 (k:IntKind) (x y:Int):Option Int:=if y=0 then none else some (k.wrap (x.tdiv y))
def Dl (_:IntKind) (x y:Int):Option Int:=if y=0 then none else some (x.tmod y)
def Fg (k:IntKind) (x y:Int):Option Int:=if y<0 then none else some (k.wrap (x*2 ^ (min y.toNat k.bits)))
def xm (k:IntKind) (x y:Int):Option Int:=if y<0 then none else some (x.fdiv (2 ^ (min y.toNat k.bits)))
def kf (op:BinOp) (k:IntKind) (x y:Int):Int :=
 let a:=BitVec.ofInt k.bits x
 let b:=BitVec.ofInt k.bits y
 match op with
 | .and=>k.wrap (a &&& b).toNat
 | .or=>k.wrap (a ||| b).toNat
 | .xor=>k.wrap (a ^^^ b).toNat
 | _=>k.wrap (a &&& ~~~b).toNat
def Yv {α:Type} : List (Int×α)->Int->Bool
 | [],_=>false
 | (k,_)::m,n=>k==n||Yv m n
theorem ah {α β:Type} {o:Option α} {f:α->Option β} {r:β} (h:o.bind f=some r):∃a,o=some a∧f a=some r:=by
 cases o with
 | none=>cases h
 | some a=>exact⟨a,rfl,h⟩
theorem abm {α:Type} {b:Bool} {x y r:α} (hb:b=true) (h:(if b=true then x else y)=r):x=r:=by rw[if_pos hb]at h;exact h
theorem abl {α:Type} {b:Bool} {x y r:α} (hb:b=false) (h:(if b=true then x else y)=r):y=r:=by rw[hb]at h;simpa using h
theorem ai {a b:Prop} (x:a) (y:b):a∧b:=⟨x,y⟩
theorem sp {α:Type} {b:Bool} {P1 P2 Q:Prop} {x y r:α} (k:(b=true->P1)->(b=false->P2)->Q) (h:(if b=true then x else y)=r) (h1:b=true->x=r->P1) (h2:b=false->y=r->P2):Q:=k (fun hb=>h1 hb (abm hb h)) fun hb=>h2 hb (abl hb h)
end Go.Proofs.Ytchndpjlijbplaa.P
namespace Go.Proofs.Ytchndpjlijbplaa.Am
open Go.RowKit Go.Proofs.Ytchndpjlijbplaa.P
set_option linter.unusedSimpArgs false
set_option linter.unusedVariables false
structure iC (α:Type) where
 cells:α->List D
 size:Nat
 len:∀x,(cells x).length=size
 pos:0<size
 inj:∀x y,cells x=cells y->x=y
def ae {α:Type} (e:iC α):List α->List D
 | []=>[]
 | x::l=>e.cells x++ae e l
section
variable {α β:Type} (e:iC α)
theorem xR:ae e []=[]:=rfl
theorem aL (x:α) (l:List α):ae e (x::l)=e.cells x++ae e l:=rfl
theorem fB:∀l m:List α,ae e (l++m)=ae e l++ae e m
 | [],m=>rfl
 | x::l,m=>by rw[afp,aL,aL,fB l m,aeO]
theorem bN:∀l:List α,(ae e l).length=l.length*e.size
 | []=>by simp[ae]
 | x::l=>by rw[aL,aeC,bN l,e.len,ad0,aew];omega
theorem ow:∀(l:List α) (i:Nat),(ae e l).drop (i*e.size)=ae e (l.drop i)
 | l,0=>by simp
 | [],i+1=>by simp[ae]
 | x::l,i+1=>by
  rw[aL,afq,<- ow l i,afh,e.len,afi (by rw[e.len,aew];omega),aff]
  congr 1
  rw[aew];omega
theorem ew:∀(l:List α) (i:Nat),(ae e l).take (i*e.size)=ae e (l.take i)
 | l,0=>by simp[ae]
 | [],i+1=>by simp[ae]
 | x::l,i+1=>by
  rw[aL,afr,aL,aeR,e.len,aeT (by rw[e.len,aew];omega),<- ew l i]
  congr 2
  rw[aew];omega
theorem tW:∀l m:List α,ae e l=ae e m->l=m
 | [],[],_=>rfl
 | [],y::m,h=>by
  have:=congrArg List.length h
  have hp:=e.pos
  rw[aL,aeC,e.len]at this
  simp[ae]at this
  omega
 | x::l,[],h=>by
  have:=congrArg List.length h
  have hp:=e.pos
  rw[aL,aeC,e.len]at this
  simp[ae]at this
  omega
 | x::l,y::m,h=>by
  rw[aL,aL]at h
  obtain⟨h1,h2⟩:=afs h (by rw[e.len,e.len])
  rw[e.inj _ _ h1,tW l m h2]
theorem Lr:∀(n:Nat) (x:α),mH n (e.cells x)=ae e (List.replicate n x)
 | 0,x=>by simp[mH,ae]
 | n+1,x=>by rw[aeu,aL,<- Lr n x];simp[mH,List.replicate_succ]
end
def eI (k:IntKind):iC Int:=⟨fun n=>[.int k n],1,fun _=>rfl,by decide,fun x y h=>by simpa using h⟩
def mg:iC Bool:=⟨fun n=>[.bool n],1,fun _=>rfl,by decide,fun x y h=>by simpa using h⟩
def abe:iC ByteArray:=⟨fun n=>[.str n],1,fun _=>rfl,by decide,fun x y h=>by simpa using h⟩
def OM {α:Type} (e:iC α):iC (List α):=⟨fun l=>[.sl false false l.length (ae e l)],1,fun _=>rfl,by decide,fun x y h=>by
 simp only[adY,D.sl.injEq,true_and,and_true]at h
 exact tW e _ _ h.2⟩
def xM {α β:Type} (e:iC α) (f:iC β):iC (α×β):=⟨fun x=>e.cells x.1++f.cells x.2,e.size+f.size,fun x=>by rw[aeC,e.len,f.len],adD e.pos (Nat.le_add_right _ _),fun x y h=>by
 obtain⟨h1,h2⟩:=afs h (by rw[e.len,e.len])
 exact Prod.ext (e.inj _ _ h1) (f.inj _ _ h2)⟩
def Ll {α β:Type} (e:iC β) (f:α->β) (hf:∀x y,f x=f y->x=y):iC α:=⟨fun x=>e.cells (f x),e.size,fun x=>e.len _,e.pos,fun x y h=>hf _ _ (e.inj _ _ h)⟩
structure Arg (α:Type) where
 d:α->D
 inj:∀x y,d x=d y->x=y
def aI (k:IntKind):Arg Int:=⟨fun n =>.int k n,fun x y h=>by simpa using h⟩
def aa6:Arg Bool:=⟨fun n =>.bool n,fun x y h=>by simpa using h⟩
def mL {α:Type} (e:iC α):Arg (List α):=⟨fun l =>.sl false false l.length (ae e l),fun x y h=>by
 simp only[D.sl.injEq,true_and]at h
 exact tW e _ _ h.2⟩
def cX {α:Type} (e:iC α):Arg α:=⟨fun x =>.agg (e.cells x),fun x y h=>e.inj _ _ (by simpa using h)⟩
theorem Cr (k:IntKind) (n:Int):(eI k).cells n=[.int k n]:=agq
theorem Aa (n:Bool):mg.cells n=[.bool n]:=agq
theorem Ct (n:ByteArray):abe.cells n=[.str n]:=agq
theorem y8 {α:Type} (e:iC α) (l:List α):(OM e).cells l=[.sl false false l.length (ae e l)]:=agq
structure lz (α:Type) where
 ds:α->List D
 inj:∀x y,ds x=ds y->x=y
def as0:lz Unit:=⟨fun _=>[],fun _ _ _=>rfl⟩
def fU {α:Type} (a:Arg α):lz α:=⟨fun x=>[a.d x],fun x y h=>a.inj _ _ (by simpa using h)⟩
def jh {α β:Type} (a:Arg α) (b:lz β):lz (α×β):=⟨fun x=>a.d x.1::b.ds x.2,fun x y h=>by
 simp only[adY]at h
 exact Prod.ext (a.inj _ _ h.1) (b.inj _ _ h.2)⟩
noncomputable def fX {α β:Type} (A:lz α) (F:α->Option β) (R:β->RK):Option (D×Row)->List D->Option (RK×Option Row):=fun lent ds =>
 match lent with
 | none=>open Classical in if h:∃a,A.ds a=ds then (F (Classical.choose h)).map fun r=>(R r,none) else none
 | some _=>none
theorem aU {α β:Type} (A:lz α) (F:α->Option β) (R:β->RK) (a:α):fX A F R none (A.ds a)=(F a).map fun r=>(R r,none):=by
 have h:∃b,A.ds b=A.ds a:=⟨a,rfl⟩
 simp only[fX]
 rw[dif_pos h,A.inj _ _ (Classical.choose_spec h)]
theorem yh {α β:Type} {A:lz α} {F:α->Option β} {R:β->RK} {lent:Option (D×Row)} {ds:List D} {rk:RK} {out:Option Row} (h:fX A F R lent ds=some (rk,out)):lent=none∧out=none∧∃a r,ds=A.ds a∧F a=some r∧rk=R r:=by
 unfold fX at h
 split at h
 ·split at h
  ·rename_i he
   rw[ady]at h
   obtain⟨r,h1,h2⟩:=h
   simp only[Prod.mk.injEq]at h2
   obtain⟨rfl,rfl⟩:=h2
   exact⟨rfl,rfl,_,r,(Classical.choose_spec he).symm,h1,rfl⟩
  ·cases h
 ·cases h
structure b6 (P:Program) (f:FuncId) (G:Option (D×Row)->List D->Option (RK×Option Row)):Prop where
 calls:∀lent adv rk out,G lent adv=some (rk,out)->oD P f lent adv rk out
 callable:dw P f
theorem b6.of {P:Program} {T:Nat->Option Ty} {Γ:Env} (hT:jK P T) (hΓ:bA P Γ) (hm:P.follows .mixedOrders=true) {α β:Type} {A:lz α} {F:α->Option β} {R:β->RK} {mode:Mode} {f:FuncId} {fn:Func} (hf:P.funcs[f]? = some fn) (hok:(match fn.body with|some c=>codeOk c|none=>true)=true)
  (hc:(fn.name == "runtime.NumGoroutine")=false∧fn.body.isNone=false) (hn:∀a,(A.ds a).length<=fn.ntmps) (h:∀a r,F a=some r->bc mode T Γ FU fn none (A.ds a)=some (R r,none)):b6 P f (fX A F R) where
 calls lent adv rk out hg:=by
  obtain⟨rfl,rfl,a,r,rfl,hr,rfl⟩:=yh hg
  exact lx hT hΓ hm hf hok (hn a) rfl (h a r hr)
 callable:=⟨fn,hf,hc⟩
theorem bA.add {P:Program} {Γ:Env} (hΓ:bA P Γ) {f:Nat} {G:Option (D×Row)->List D->Option (RK×Option Row)} (h:b6 P f G) (l:Bool):bA P (Am.ext Γ f l G):=hΓ.ext h.calls h.callable
section
variable {T:Nat->Option Ty} {Γ:Env} {N e:Nat} {ws:List W} {Q:Kt} {t:Nat->D} {h:Nat->Option Row}
def LK {σ ρ:Type} (Rel:σ->(Nat->D)->(Nat->Option Row)->Nat->Prop) (RelX:ρ->Ex->(Nat->D)->(Nat->Option Row)->Nat->Prop) (c:σ⊕ρ):Kt:=fun x t h e =>
 match x with
 | .normal=>∃s',c=.inl s'∧Rel s' t h e
 | x=>∃o,c=.inr o∧RelX o x t h e
theorem j6 {σ ρ:Type} {Rel:σ->(Nat->D)->(Nat->Option Row)->Nat->Prop} {RelX:ρ->Ex->(Nat->D)->(Nat->Option Row)->Nat->Prop} {s':σ} (k:Rel s' t h e):LK Rel RelX (.inl s') .normal t h e:=⟨s',rfl,k⟩
theorem lj {σ ρ:Type} {Rel:σ->(Nat->D)->(Nat->Option Row)->Nat->Prop} {RelX:ρ->Ex->(Nat->D)->(Nat->Option Row)->Nat->Prop} {o:ρ} {n:Nat} (k:RelX o (.exit n) t h e):LK Rel RelX (.inr o) (.exit n) t h e:=⟨o,rfl,k⟩
theorem G2 {σ ρ:Type} {Rel:σ->(Nat->D)->(Nat->Option Row)->Nat->Prop} {RelX:ρ->Ex->(Nat->D)->(Nat->Option Row)->Nat->Prop} {o:ρ} (k:RelX o .ret t h e):LK Rel RelX (.inr o) .ret t h e:=⟨o,rfl,k⟩
theorem aB {σ ρ:Type} {body:σ->Option (σ⊕ρ)} {b:Code} (Rel:σ->(Nat->D)->(Nat->Option Row)->Nat->Prop) (RelX:ρ->Ex->(Nat->D)->(Nat->Option Row)->Nat->Prop) {s0:σ} {out:ρ} (hL:aY body s0=some out) (h0:Rel s0 t h e)
  (hstep:∀s t h e,Rel s t h e->∀c,body s=some c->cJ T Γ N FU [.code b] (LK Rel RelX c) .normal t h e)
  (hexit:∀x t h e,RelX out x t h e->cJ T Γ N FU ws Q x t h e):SS T Γ N FU b ws Q t h e:=by
 have key:∀(n:Nat) (s:σ) (t:Nat->D) (h:Nat->Option Row) (e:Nat),Rel s t h e->nP body n s=some out->∃x s',iter (gg T Γ N FU b) n ⟨t,h,e⟩=some (x,s')∧cJ T Γ N FU ws Q x s'.t s'.h s'.e:=by
  intro n
  induction n with
  | zero=>intro s t h e _ hi;cases hi
  | succ n ih =>
   intro s t h e hR hi
   simp only[nP]at hi
   cases hb:body s with
   | none=>rw[hb]at hi;cases hi
   | some c =>
    rw[hb]at hi
    obtain⟨x,s1,h1,h2⟩:=JY _ _ _ _ _ (show J3 T Γ N FU b t h e (LK Rel RelX c) from hstep s t h e hR c hb)
    simp only[iter,h1]
    cases x with
    | normal =>
     obtain⟨s',rfl,h4⟩:=h2
     exact ih s' s1.t s1.h s1.e h4 hi
    | exit m =>
     obtain⟨o,rfl,h4⟩:=h2
     simp only[adJ]at hi
     subst hi
     exact⟨_,_,rfl,hexit _ _ _ _ h4⟩
    | ret =>
     obtain⟨o,rfl,h4⟩:=h2
     simp only[adJ]at hi
     subst hi
     exact⟨_,_,rfl,hexit _ _ _ _ h4⟩
 exact key FU s0 t h e h0 hL
theorem yD {d:D} {g:Nat} {A B A' B':(Nat->D)->Prop} (hk:QX d t g A B) (h1:∀t,A t->A' t) (h2:∀t,B t->B' t):QX d t g A' B':=by
 cases d with
 | bool b=>exact⟨fun hb=>h1 _ (hk.1 hb),fun hb=>h2 _ (hk.2 hb)⟩
 | _=>exact hk
theorem Ez {d:D} {g:Nat} {A B S A' B' S':(Nat->D)->Prop} (hk:wpS d t g A B S) (h1:∀t,A t->A' t) (h2:∀t,B t->B' t) (h3:∀t,S t->S' t):wpS d t g A' B' S':=by
 unfold wpS at hk ⊢
 split at hk
 ·exact h3 _ hk
 ·exact yD hk h1 h2
theorem Dw {α:Type} {x:Option α} {K K':α->Prop} (hk:pg x K) (h1:∀a,K a->K' a):pg x K':=by
 cases x with
 | none=>exact hk
 | some a=>exact h1 a hk
theorem OK {ops:List Oper} {gd:Option (Nat×Bool)} {A B A' B':(Nat->D)->Prop} (hk:X1 ops t gd A B) (h1:∀t,A t->A' t) (h2:∀t,B t->B' t):X1 ops t gd A' B':=by
 unfold X1 at hk ⊢
 split
 ·exact h1 _ hk
 ·rename_i j want
  refine Dw hk fun g hg=>Ez hg ?_ ?_ h2
  ·intro t ht;cases want<;>simp_all
  ·intro t ht;cases want<;>simp_all
theorem yF {o:Oper} {K K':(Nat->D)->bP->Prop} (hk:QZ T Γ e o t h K) (h1:∀t E,K t E->K' t E):QZ T Γ e o t h K':=by
 unfold QZ at hk ⊢
 split
 ·rename_i ho
  rw[ho]at hk
  exact yD hk (fun _ h=>h1 _ _ h) (fun _ h=>h1 _ _ h)
 ·rename_i hne
  split at hk
  ·rename_i c a b ho;exact absurd ho (hne _ _ _)
  ·exact Dw hk (fun _ h=>h1 _ _ h)
theorem vP {ops:List Oper} {K K':(Nat->D)->(Nat->Option Row)->Prop} (h1:∀t h,K t h->K' t h):∀(l:List Oper) (t:Nat->D) (h:Nat->Option Row),D5 T Γ N e ops l t h K->D5 T Γ N e ops l t h K'
 | [],t,h,hk=>h1 _ _ hk
 | o::l,t,h,hk=>by
  unfold D5 at hk ⊢
  exact⟨hk.1,OK hk.2 (fun t ht=>yF ht fun t E hE=>vP h1 l _ _ hE) (fun t ht=>vP h1 l _ _ ht)⟩
theorem vM {ops:List Oper} {K K':(Nat->D)->(Nat->Option Row)->List j8->Prop} (h1:∀t h fs,K t h fs->K' t h fs):∀(l:List Oper) (t:Nat->D) (h:Nat->Option Row) (fs:List j8),runK T Γ N e ops l t h fs K->runK T Γ N e ops l t h fs K'
 | [],t,h,fs,hk=>h1 _ _ _ hk
 | o::l,t,h,fs,hk=>by
  unfold runK at hk ⊢
  exact⟨hk.1,OK hk.2 (fun t ht=>yF ht fun t E hE=>vM h1 l _ _ _ hE) (fun t ht=>vM h1 l _ _ _ ht)⟩
theorem X3 {ops:Array Oper} {draw:Bool} {K K':(Nat->D)->(Nat->Option Row)->Prop} (hk:wpR T Γ N ops draw t h e K) (h1:∀t h,K t h->K' t h):wpR T Γ N ops draw t h e K':=by
 unfold wpR at hk ⊢
 cases draw with
 | true=>exact vM (fun t h fs hh=>⟨hh.1,h1 _ _ hh.2⟩) _ _ _ _ hk
 | false=>exact vP h1 _ _ _ hk
theorem UN {F:Nat} : ∀(c:Code) (t:Nat->D) (h:Nat->Option Row) (e:Nat) (K K':Kt),J3 T Γ N F c t h e K->(∀x t h e,K x t h e->K' x t h e)->J3 T Γ N F c t h e K':=by
 intro c
 induction c with
 | skip=>intro t h e K K' hk hm;exact hm _ _ _ _ hk
 | region i ops draw=>intro t h e K K' hk hm;exact X3 hk fun t h hh=>hm _ _ _ _ hh
 | seq a b iha ihb =>
  intro t h e K K' hk hm
  refine iha _ _ _ _ _ hk fun x t h e hx =>?_
  cases x with
  | normal=>exact ihb _ _ _ _ _ hx hm
  | exit n=>exact hm _ _ _ _ hx
  | ret=>exact hm _ _ _ _ hx
 | cond c x y ihx ihy =>
  intro t h e K K' hk hm
  unfold J3 at hk ⊢
  cases c with
  | tmp g=>exact yD hk (fun t ht=>ihx _ _ _ _ _ ht hm) (fun t ht=>ihy _ _ _ _ _ ht hm)
  | const v =>
   cases v with
   | bool b =>
    cases b with
    | true=>exact ihx _ _ _ _ _ hk hm
    | false=>exact ihy _ _ _ _ _ hk hm
   | _=>exact hk
  | _=>exact hk
 | block id b ih =>
  intro t h e K K' hk hm
  refine ih _ _ _ _ _ hk fun x t h e hx =>?_
  cases x with
  | normal=>exact hm _ _ _ _ hx
  | ret=>exact hm _ _ _ _ hx
  | exit n =>
   unfold Vo at hx ⊢
   simp only at hx ⊢
   split at hx
   ·rename_i hn;rw[if_pos hn];exact hm _ _ _ _ hx
   ·rename_i hn;rw[if_neg hn];exact hm _ _ _ _ hx
 | loop b ih =>
  intro t h e K K' hk hm
  obtain⟨x,s,h1,h2⟩:=hk
  exact⟨x,s,h1,hm _ _ _ _ h2⟩
 | exit id=>intro t h e K K' hk hm;exact hm _ _ _ _ hk
 | ret=>intro t h e K K' hk hm;exact hm _ _ _ _ hk
 | _=>intro t h e K K' hk;exact hk.elim
def CK {σ:Type} (J:σ->(Nat->D)->(Nat->Option Row)->Nat->Prop) (P:σ->Prop) (R:Kt):Kt:=fun x t h e =>
 match x with
 | .normal=>∃s,P s∧J s t h e
 | x=>R x t h e
theorem au {σ:Type} {J:σ->(Nat->D)->(Nat->Option Row)->Nat->Prop} {P:σ->Prop} {R:Kt} : CK J P R .normal t h e = ∃s,P s∧J s t h e:=agq
end
section
variable {h:Nat->Option Row}
theorem FQ {k:IntKind} {n:Int} : canon (.int k n)=.int k n:=agq
theorem B4 {b:Bool} : canon (.bool b)=.bool b:=agq
theorem FT {b:ByteArray} : canon (.str b)=.str b:=agq
theorem Kx {a b:Bool} {n:Nat} {xs:List D} : canon (.sl a b n xs)=.sl false false n xs:=agq
theorem B1 {k:IntKind} {n:Int} : fm (.int k n)=.int k n:=agq
theorem zQ {b:Bool} : fm (.bool b)=.bool b:=agq
theorem B3 {b:ByteArray} : fm (.str b)=.str b:=agq
theorem FP {a b:Bool} {n:Nat} {xs:List D} : fm (.sl a b n xs)=.sl false false n xs:=agq
theorem B0 {xs:List D} : fm (.agg xs)=.agg (xs.map canon):=agq
def Yi (x s o n:Nat):Option Row->Option (D×List Nat)
 | some r=>if o+n*s<=r.cells.length then some (.sl false false n ((r.cells.drop o).take (n*s)),[x]) else none
 | none=>none
theorem KI {x s o n:Nat} {r:Row} : Yi x s o n (some r)=if o+n*s<=r.cells.length then some (.sl false false n ((r.cells.drop o).take (n*s)),[x]) else none:=agq
def clP (x o:Nat):Option Row->Option (D×List Nat)
 | some r=>if o<=r.cells.length then some (.ip (r.cells.drop o),[x]) else none
 | none=>none
theorem KO {x o:Nat} {r:Row} : clP x o (some r)=if o<=r.cells.length then some (.ip (r.cells.drop o),[x]) else none:=agq
theorem KE {k:IntKind} {n:Int} : bp h (.int k n)=some (.int k n,[]):=agq
theorem FW {b:Bool} : bp h (.bool b)=some (.bool b,[]):=agq
theorem KH {b:ByteArray} : bp h (.str b)=some (.str b,[]):=agq
theorem RM {a b:Bool} {n:Nat} {xs:List D} : bp h (.sl a b n xs)=some (.sl false false n xs,[]):=agq
theorem KA {xs:List D} : bp h (.agg xs)=some (.agg (xs.map canon),[]):=agq
theorem RJ {xs:List D} : bp h (.ip xs)=some (.ip xs,[]):=agq
theorem RI {f:Nat} : bp h (.fn f)=some (.fn f,[]):=agq
theorem KC {x v s o n:Nat} : bp h (.buf x v s o n)=Yi x s o n (live h x v):=by
 simp only[bp,aN,cY]
 cases live h x v with
 | none=>rfl
 | some r=>by_cases hc:o+n*s<=r.cells.length<;>simp[Yi,hc,canon]
theorem KG {x v o:Nat} : bp h (.ptr x v o)=clP x o (live h x v):=by
 simp only[bp,aN]
 cases live h x v with
 | none=>rfl
 | some r=>simp only[clP]
theorem VK {k:IntKind} {n:Int} : ef h (.int k n)=some ([.int k n],[]):=agq
theorem RQ {b:Bool} : ef h (.bool b)=some ([.bool b],[]):=agq
theorem VL {b:ByteArray} : ef h (.str b)=some ([.str b],[]):=agq
theorem Zo {a b:Bool} {n:Nat} {xs:List D} : ef h (.sl a b n xs)=some ([.sl a b n xs],[]):=agq
theorem VI {xs:List D} : ef h (.agg xs)=some (xs,[]):=agq
def cvB:Option (D×List Nat)->Option (List D×List Nat)
 | some (d,fr)=>some ([d],fr)
 | none=>none
theorem KW {d:D} {fr:List Nat} : cvB (some (d,fr))=some ([d],fr):=agq
theorem VJ {x v s o n:Nat} : ef h (.buf x v s o n)=cvB (Yi x s o n (live h x v)):=by
 simp only[ef,cY]
 cases live h x v with
 | none=>rfl
 | some r=>by_cases hc:o+n*s<=r.cells.length<;>simp[Yi,cvB,hc]
def clF (h:Nat->Option Row):Option (D×List Nat)->Option bP
 | some (d,fr)=>some ⟨d,iM h fr⟩
 | none=>none
theorem KK {d:D} {fr:List Nat} : clF h (some (d,fr))=some ⟨d,iM h fr⟩:=agq
theorem Rj {x v s o n:Nat} : gZ h (.buf x v s o n)=clF h (Yi x s o n (live h x v)):=by
 simp only[gZ,oP,cY]
 cases live h x v with
 | none=>rfl
 | some r=>by_cases hc:o+n*s<=r.cells.length<;>simp[Yi,clF,hc,canon,fm]
variable {Γ:Env} {f g e:Nat} {l:Bool} {G:Option (D×Row)->List D->Option (RK×Option Row)} {lent:Option (D×Row)} {adv:List D} {dst:Option Nat} {fr:List Nat}
theorem GA:(Am.ext Γ f l G).lends g=if g=f then l else Γ.lends g:=agq
theorem Sb:(Am.ext Γ f l G).sem g lent adv=if g=f then G lent adv else Γ.sem g lent adv:=agq
theorem Sa {d:Nat} : (Am.ext Γ f l G).own d=Γ.own d:=agq
theorem Hh {d:Nat} : a6.own d=true:=agq
theorem Mu {d i:Nat} : (Am.keep d Γ).own i=(i != d&&Γ.own i):=agq
theorem C3 {d i:Nat} : (Am.keep d Γ).lends i=Γ.lends i:=agq
theorem Mv {d i:Nat} : (Am.keep d Γ).sem i lent adv=Γ.sem i lent adv:=agq
def BR (lends:Bool) (Γ:Env) (h:Nat->Option Row) (e:Nat) (dst:Option Nat) (g:Nat) (args:List D):Option bP :=
 if lends then
  match args with
  | .buf x v s o n::rest=>sX Γ h e dst g x v (.buf 0 0 s o n) rest
  | .ptr x v o::rest=>sX Γ h e dst g x v (.ptr 0 0 o) rest
  | _=>none
 else tJ Γ h e dst g args
def Yh (p:Option (Nat×Nat×Nat)) (Γ:Env) (h:Nat->Option Row) (e:Nat) (dst:Option Nat) (g:Nat) (args:List D):Option bP :=
 match p with
 | some p=>sW h e dst p args
 | none =>
  match Γ.grw g with
  | some p=>sV h p args
  | none=>BR (Γ.lends g) Γ h e dst g args
def aag (p:Option Grow) (Γ:Env) (h:Nat->Option Row) (e:Nat) (dst:Option Nat) (g:Nat) (args:List D):Option bP :=
 match p with
 | some p=>sV h p args
 | none=>BR (Γ.lends g) Γ h e dst g args
theorem FJ {args:List D} : Yh none Γ h e dst g args=aag (Γ.grw g) Γ h e dst g args:=agq
theorem FH {args:List D} : aag none Γ h e dst g args=BR (Γ.lends g) Γ h e dst g args:=agq
theorem FI {p:Grow} {args:List D} : aag (some p) Γ h e dst g args=sV h p args:=agq
theorem R7 {f:Nat} {l:Bool} {G:Option (D×Row)->List D->Option (RK×Option Row)} : (Am.ext Γ f l G).grw g=Γ.grw g:=agq
theorem Mr {d:Nat} : (Am.keep d Γ).grw g=Γ.grw g:=agq
theorem Me {d y:Nat} : (Am.wA d y Γ).grw g=Γ.grw g:=agq
theorem Ml {f:Nat} {p:Nat×Nat×Nat} : (Am.zd f p Γ).grw g=Γ.grw g:=agq
theorem Hd:a6.grw g=none:=agq
theorem L8 {f:Nat} {p:Grow} : (Am.CX f p Γ).grw g=if g=f then some p else Γ.grw g:=agq
theorem L9 {f:Nat} {p:Grow} : (Am.CX f p Γ).ins g=Γ.ins g:=agq
theorem CY {f:Nat} {p:Grow} : (Am.CX f p Γ).lends g=Γ.lends g:=agq
theorem Mc {f:Nat} {p:Grow} {l:Option (D×Row)} {adv:List D} : (Am.CX f p Γ).sem g l adv=Γ.sem g l adv:=agq
theorem Mb {f:Nat} {p:Grow} {d:Nat} : (Am.CX f p Γ).own d=Γ.own d:=agq
theorem GQ {f:Nat} {p:Grow} {d:Nat} : (Am.CX f p Γ).hint d=Γ.hint d:=agq
def lvP (v:Nat):Option Row->Option (Row×Nat×Nat×Nat)
 | some r=>if r.v=v∧r.mp=true then (match r.cells with | [.ph y s n]=>some (r,y,s,n)|_=>none) else none
 | none=>none
theorem MJ {x v:Nat} : lh h x v=lvP v (h x):=by
 unfold lh lvP
 cases h x<;>rfl
theorem MT {v ty y s n:Nat} {fz lst:Bool} : lvP v (some ⟨v,ty,[.ph y s n],fz,lst,true⟩)=some (⟨v,ty,[.ph y s n],fz,lst,true⟩,y,s,n):=by simp[lvP]
def Vr (p:Grow) (y k:Nat) (rest:List D):Option (Row×Nat×Nat×Nat)->Option Row->Option bP
 | some (ry,k',s,n),some r =>
   if k'=k∧k=PK+y∧y<PK∧ry.fz=false∧r.mp=false∧r.fz=false∧r.lst=true∧s=p.k∧r.ty=p.ty∧r.cells.length=n*p.k∧(n+1)*p.bytes<=140737488355328 then
    match p.sem r.cells rest with
    | some cs=>some ⟨.int .i64 (n:Int),[(k,some ⟨r.v,p.ty,r.cells++cs,false,true,false⟩),(y,some ⟨ry.v,ry.ty,[.ph k p.k (n+1)],false,false,true⟩)]⟩
    | none=>none
   else none
 | _,_=>none
theorem Rz {p:Grow} {y v k:Nat} {rest:List D} : sV h p (.pm y v k::rest)=Vr p y k rest (lh h y v) (h k):=agq
def Zn (k y v ty e' ty' k' n:Nat) (cells:List D):Option (List D)->Option bP
 | some cs=>some ⟨.int .i64 (n:Int),[(k,some ⟨e',ty',cells++cs,false,true,false⟩),(y,some ⟨v,ty,[.ph k k' (n+1)],false,false,true⟩)]⟩
 | none=>none
theorem BP {ty' k' by_:Nat} {sem:List D->List D->Option (List D)} {y k:Nat} {rest:List D} {v ty s n e' tyr:Nat} {cells:List D} : Vr ⟨ty',k',by_,sem⟩ y k rest (some (⟨v,ty,[.ph k s n],false,false,true⟩,k,s,n)) (some ⟨e',tyr,cells,false,true,false⟩) =
  if k=1000000+y∧y<1000000∧s=k'∧tyr=ty'∧cells.length=n*k'∧(n+1)*by_<=140737488355328 then Zn k y v ty e' ty' k' n cells (sem cells rest) else none:=by
 simp only[Vr,PK,true_and]
 cases sem cells rest<;>rfl
theorem BQ {k y v ty e' ty' k' n:Nat} {cells cs:List D} : Zn k y v ty e' ty' k' n cells (some cs)=some ⟨.int .i64 (n:Int),[(k,some ⟨e',ty',cells++cs,false,true,false⟩),(y,some ⟨v,ty,[.ph k k' (n+1)],false,false,true⟩)]⟩:=agq
theorem FK {p:Nat×Nat×Nat} {args:List D} : Yh (some p) Γ h e dst g args=sW h e dst p args:=agq
theorem R8 {f:Nat} {l:Bool} {G:Option (D×Row)->List D->Option (RK×Option Row)} : (Am.ext Γ f l G).ins g=Γ.ins g:=agq
theorem Ms {d:Nat} : (Am.keep d Γ).ins g=Γ.ins g:=agq
theorem Mf {d y:Nat} : (Am.wA d y Γ).ins g=Γ.ins g:=agq
theorem He:a6.ins g=none:=agq
theorem Mm {f:Nat} {p:Nat×Nat×Nat} : (Am.zd f p Γ).ins g=if g=f then some p else Γ.ins g:=agq
theorem C2 {f:Nat} {p:Nat×Nat×Nat} : (Am.zd f p Γ).lends g=Γ.lends g:=agq
theorem Mp {f:Nat} {p:Nat×Nat×Nat} {l:Option (D×Row)} {adv:List D} : (Am.zd f p Γ).sem g l adv=Γ.sem g l adv:=agq
theorem Mo {f:Nat} {p:Nat×Nat×Nat} {d:Nat} : (Am.zd f p Γ).own d=Γ.own d:=agq
theorem GV {f:Nat} {p:Nat×Nat×Nat} {d:Nat} : (Am.zd f p Γ).hint d=Γ.hint d:=agq
def Vs (ty k by_ x y s s' o o' n m:Nat) (i:Int) (e:Nat) (d:Nat):Option Row->Option Row->Option bP
 | some r,some r' =>
   if r.fz=false∧r'.fz=false∧r.lst=true∧r'.lst=true∧x≠y∧s=k∧s'=k∧r.ty=ty∧r'.ty=ty∧o=0∧o'=0∧r.cells.length=n*k∧r'.cells.length=m*k∧0<=i∧i<=n∧0<m∧(n+m)*by_<=140737488355328 then
    some ⟨.buf d e k 0 (n+m),[(y,none),(x,none),(d,some ⟨e,ty,r.cells.take (i.toNat*k)++(r'.cells++r.cells.drop (i.toNat*k)),false,true,false⟩)]⟩
   else none
 | _,_=>none
theorem RA {ty k by_ x v s o n y v' s' o' m d:Nat} {i:Int} : sW h e (some d) (ty,k,by_) [.buf x v s o n,.int .i64 i,.buf y v' s' o' m]=Vs ty k by_ x y s s' o o' n m i e d (live h x v) (live h y v'):=by
 simp only[sW,Vs]
 cases live h x v with
 | none=>rfl
 | some r=>cases live h y v'<;>rfl
theorem BT {ty k by_ x y s s' o o' n m : Nat} {i : Int} {d : Nat} {r r' : Row} : Vs ty k by_ x y s s' o o' n m i e d (some r) (some r') = if r.fz = false ∧ r'.fz = false ∧ r.lst = true ∧ r'.lst = true ∧ x ≠ y ∧ s = k ∧ s' = k ∧ r.ty = ty ∧ r'.ty = ty ∧ o = 0 ∧ o' = 0 ∧ r.cells.length = n * k ∧ r'.cells.length = m * k ∧ 0 <= i ∧ i <= n ∧ 0 < m ∧ (n + m) * by_ <= 140737488355328 then
        some ⟨.buf d e k 0 (n + m), [(y, none), (x, none), (d, some ⟨e, ty, r.cells.take (i.toNat * k) ++ (r'.cells ++ r.cells.drop (i.toNat * k)), false, true, false⟩)]⟩
      else none := Eq.trans rfl rfl
theorem RB {args:List D} : gT Γ h e dst (.fn g) args=Yh (Γ.ins g) Γ h e dst g args:=by
 simp only[gT,Yh,BR]
 cases Γ.ins g with
 | none=>cases Γ.grw g<;>rfl
 | some p=>rfl
def TG (h:Nat->Option Row) (e:Nat) (dst:Option Nat) (fr:List Nat):Option (RK×Option Row)->Option bP
 | some (.clean r,_)=>some ⟨r,if fZ r then [] else iM h fr⟩
 | some (.fresh ty s n cells,_) =>
  match dst with
  | some d=>if fr.contains d=false then some ⟨.buf d e s 0 n,(if oY cells then [] else iM h fr)++[(d,some ⟨e,ty,cells,false,true,false⟩)]⟩ else none
  | none=>none
 | _=>none
def Vq (Γ:Env) (h:Nat->Option Row) (e:Nat) (dst:Option Nat) (g:Nat):Option (List D×List Nat)->Option bP
 | some (adv,fr)=>TG h e dst fr (Γ.sem g none adv)
 | none=>none
theorem y3 {args:List D} : BR false Γ h e dst g args=Vq Γ h e dst g (bl h args):=by
 simp only[BR,aea,if_false,tJ,Vq]
 cases bl h args with
 | none=>rfl
 | some p =>
  obtain⟨adv,fr⟩:=p
  simp only
  cases hs:Γ.sem g none adv with
  | none=>rfl
  | some q =>
   obtain⟨rk,o⟩:=q
   cases rk<;>rfl
theorem FG:Vq Γ h e dst g (some (adv,fr))=TG h e dst fr (Γ.sem g none adv):=agq
def Wh (h:Nat->Option Row) (fr:List Nat):Bool->List (Nat×Option Row)
 | true=>[]
 | false=>iM h fr
theorem GN:Wh h fr true=[]:=agq
theorem CM:Wh h fr false=iM h fr:=agq
theorem LN {b:Bool} : Wh h [] b=[]:=by cases b<;>rfl
theorem BX {r:D} {o:Option Row} : TG h e dst fr (some (.clean r,o))=some ⟨r,Wh h fr (fZ r)⟩:=by
 simp only[TG]
 cases fZ r<;>rfl
theorem Sd:iM h []=[]:=agq
theorem LO {x:Nat} : iM h (x::fr)=(x,(h x).map qI)::iM h fr:=agq
theorem Wk {v ty:Nat} {cells:List D} {lst mp:Bool} : qI ⟨v,ty,cells,true,lst,mp⟩=⟨v,ty,cells,true,lst,mp⟩:=agq
theorem Wi {v ty:Nat} {cells:List D} {lst mp:Bool} : qI ⟨v,ty,cells,false,lst,mp⟩=⟨v,ty,cells,true,true,mp⟩:=agq
theorem FX:bl h []=some ([],[]):=agq
def caC (p:Option (D×List Nat)) (q:Option (List D×List Nat)):Option (List D×List Nat) :=
 match p,q with
 | some (d',fr),some (ds',fr')=>some (d'::ds',fr++fr')
 | _,_=>none
theorem Ki {d:D} {fr fr':List Nat} {ds:List D} : caC (some (d,fr)) (some (ds,fr'))=some (d::ds,fr++fr'):=agq
theorem B5 {d:D} {ds:List D} : bl h (d::ds)=caC (bp h d) (bl h ds):=by
 simp only[bl]
 cases bp h d with
 | none=>rfl
 | some p=>cases bl h ds<;>rfl
variable {T:Nat->Option Ty} {s:St} {rs:List ResultVar} {r:ResultVar}
theorem N1:ux T s []=some ([],[]):=agq
theorem HM:ux T s (r::rs)=caC (NZ T s r) (ux T s rs):=by
 simp only[ux]
 cases NZ T s r with
 | none=>rfl
 | some p=>cases ux T s rs<;>rfl
theorem N0 {t:Nat->D} {i:Nat} : NZ T ⟨t,h,e⟩ (.tmp i)=bp h (t i):=agq
def aaI (T:Nat->Option Ty) (h:Nat->Option Row) (d:D) (τ:Option Ty):Option (D×List Nat) :=
 match τ,d with
 | some τ,.ptr x v o=>match di τ h (.ptr x v o) with|some E=>some (fm E.val,[])|none=>none
 | _,_=>none
theorem HK {t:Nat->D} {i ty:Nat} : NZ T ⟨t,h,e⟩ (.cell i ty)=aaI T h (t i) (T ty):=agq
def aaJ:Option bP->Option (D×List Nat)
 | some E=>some (fm E.val,[])
 | none=>none
theorem HL {d:D} {w:List (Nat×Option Row)} : aaJ (some ⟨d,w⟩)=some (fm d,[]):=agq
theorem NY {τ:Ty} {x v o:Nat} : aaI T h (.ptr x v o) (some τ)=aaJ (di τ h (.ptr x v o)):=by
 simp only[aaI,aaJ]
def aak (p:Option (List D×List Nat)):Option (RK×Option Row) :=
 match p with
 | some (ds,_)=>some (.clean (mI ds),none)
 | none=>none
theorem Gr {ds:List D} {fr:List Nat} : aak (some (ds,fr))=some (.clean (mI ds),none):=agq
theorem CE:jo .clean T none rs s=aak (ux T s rs):=by
 simp only[jo,tX,lQ,YN,aak]
 cases ux T s rs<;>rfl
theorem BY {ty sz n d:Nat} {cells:List D} {o:Option Row} : TG h e (some d) fr (some (.fresh ty sz n cells,o))=if fr.contains d=false then some ⟨.buf d e sz 0 n,Wh h fr (oY cells)++[(d,some ⟨e,ty,cells,false,true,false⟩)]⟩ else none:=by
 simp only[TG]
 cases oY cells<;>rfl
theorem za {k:IntKind} : ∀l:List Int,oY (ae (eI k) l)=true
 | []=>rfl
 | x::l=>by
  have:=za (k:=k) l
  simp only[aL,Cr,List.cons_append,List.nil_append,oY,fZ,this,aft]
theorem CF {ty sz i:Nat} {t:Nat->D} : jo (.fresh ty sz) T none [.tmp i] ⟨t,h,e⟩=mw ty sz h (t i):=agq
theorem CG {i:Nat} {t:Nat->D} : jo .tight T none [.tmp i] ⟨t,h,e⟩=u4 (t i):=agq
theorem Wc {nl tg:Bool} {n:Nat} {xs:List D} : u4 (.sl nl tg n xs)=some (.clean (.sl nl tg n xs),none):=agq
theorem R0 {ty sz x v o n:Nat} : mw ty sz h (.buf x v sz o n)=u3 ty sz o n (live h x v):=by simp[mw]
theorem V6 {ty sz:Nat} {nl tg:Bool} {xs:List D} : mw ty sz h (.sl nl tg 0 xs)=if tg=true then some (.fresh ty sz 0 [],none) else none:=agq
theorem Lm {ty sz o n:Nat} {r:Row} : u3 ty sz o n (some r)=if r.fz=false∧r.ty=ty∧o+n*sz<=r.cells.length then some (.fresh ty sz n ((r.cells.drop o).take (n*sz)),none) else none:=agq
theorem DZ {d:D} : mI [d]=d:=agq
theorem D0 {d d':D} {ds:List D} : mI (d::d'::ds)=.tup (d::d'::ds):=agq
end
theorem Be (k:IntKind):(eI k).size=1:=agq
theorem rM:mg.size=1:=agq
theorem uZ:abe.size=1:=agq
theorem xN {α:Type} (e:iC α):(OM e).size=1:=agq
section
variable {α:Type} (E:iC α) {l m:List α} {x x' z:α} {i a b n c:Int} {B:Nat}
theorem pb (h:P.idx l i=some x):0<=i∧i<l.length:=by
 unfold P.idx at h
 split at h
 ·assumption
 ·cases h
theorem I8 (h:P.idx l i=some x):l[i.toNat]? = some x:=by
 unfold P.idx at h
 split at h
 ·exact h
 ·cases h
theorem yb (h:P.idx l i=some x):(ae E l).drop (i.toNat*E.size)=E.cells x++ae E (l.drop (i.toNat+1)):=by
 have h':=I8 h
 obtain⟨hi,rfl⟩:=ad3.1 h'
 rw[ow,afu hi]
 rfl
theorem jv (fo:Nat) (h:P.idx l i=some x):(ae E l).drop (i.toNat*E.size+fo)=(E.cells x++ae E (l.drop (i.toNat+1))).drop fo:=by
 rw[<- afk,yb E h]
theorem jQ (h:P.idx l i=some x):i.toNat*E.size+E.size<=l.length*E.size:=by
 have h':=pb h
 have:i.toNat+1<=l.length:=by omega
 have:=aem E.size this
 rwa [aew]at this
theorem bQ (h:P.idx l i=some x):(0<=i∧i<l.length)∧(ae E l).drop (i.toNat*E.size)=E.cells x++ae E (l.drop (i.toNat+1))∧i.toNat*E.size+E.size<=l.length*E.size:=⟨pb h,yb E h,jQ E h⟩
theorem iN (fo s:Nat) (hs:fo+s<=E.size) (h:P.idx l i=some x):i.toNat*E.size+fo+s<=l.length*E.size:=by
 have:=jQ E h
 omega
theorem Qv:∀(l:List α) (i:Nat) (x:α),l[i]? = some x->∀x',ae E (l.set i x')=(ae E l).take (i*E.size)++E.cells x'++(ae E l).drop (i*E.size+E.size)
 | [],i,x,h,x'=>by simp at h
 | y::l,0,x,h,x'=>by
  rw[List.set_cons_zero,aL,aL,afm,afv,aff,aen,afh,E.len,aeE,aeU,afi (by rw[E.len];exact adA _),aff]
 | y::l,i+1,x,h,x'=>by
  have ih:=Qv l i x (by simpa using h) x'
  rw[List.set_cons_succ,aL,aL,ih,aew]
  have hy:=E.len y
  have e1:(E.cells y++ae E l).take (i*E.size+E.size)=E.cells y++(ae E l).take (i*E.size):=by rw[aeR,hy,aeT (by omega),afj]
  have e2:(E.cells y++ae E l).drop (i*E.size+E.size+E.size)=(ae E l).drop (i*E.size+E.size):=by
   rw[afh,hy,afi (by omega),aff,afj]
  rw[e1,e2]
  simp only[aeO]
theorem eO (fo:Nat) (cs:List D) (h:P.idx l i=some x) (hc:E.cells x'=putCells (E.cells x) fo cs) (hfo:fo+cs.length<=E.size):putCells (ae E l) (i.toNat*E.size+fo) cs=ae E (l.set i.toNat x'):=by
 have h':=I8 h
 rw[Qv E l i.toNat x h' x',hc]
 have he:=yb E h
 have hf:=jQ E h
 have hl:=bN E l
 have hx:=E.len x
 have hsplit:ae E l=(ae E l).take (i.toNat*E.size)++(E.cells x++(ae E l).drop (i.toNat*E.size+E.size)):=by
  have h1:=afl (i.toNat*E.size) (ae E l)
  have h2:(ae E l).drop (i.toNat*E.size+E.size)=ae E (l.drop (i.toNat+1)):=by
   rw[<- afk,he,afh,hx,aeE,aeU,afi (by omega),aff]
  rw[h2,<- he,h1]
 generalize (ae E l).drop (i.toNat*E.size+E.size)=r at *
 generalize ht:(ae E l).take (i.toNat*E.size)=p at *
 have hp:p.length=i.toNat*E.size:=by rw[<- ht];simp;omega
 unfold putCells
 rw[hsplit]
 have e1:(p++(E.cells x++r)).take (i.toNat*E.size+fo)=p++(E.cells x).take fo:=by
  rw[aeR,hp,aeT (by omega),aeQ,aeS (by omega)]
 have e2:(p++(E.cells x++r)).drop (i.toNat*E.size+fo+cs.length)=(E.cells x).drop (fo+cs.length)++r:=by
  rw[adV,afh,hp,afi (by omega),aeQ,aff,aeP (by omega)]
 rw[e1,e2]
 simp only[aeO]
theorem W0 (h:P.idx l i=some x):putCells (ae E l) (i.toNat*E.size) (E.cells x')=ae E (l.set i.toNat x'):=by
 have:=eO E (x':=x') 0 (E.cells x') h (by unfold putCells;simp[E.len]) (by rw[E.len];omega)
 simpa using this
theorem WJ (h:EC B n c z=some m):m=List.replicate n.toNat z∧0<=n∧n<=c∧c<=maxLen∧c.toNat*B<=140737488355328:=by
 unfold EC at h
 split at h
 ·cases h;exact⟨rfl,by assumption⟩
 ·cases h
theorem mk_one (h:EC B n n z=some m):0<=n∧n.toNat=m.length∧m.length<=maxLen∧mH m.length (E.cells z)=ae E m∧m.length*B<=140737488355328:=by
 obtain⟨rfl,h1,_,h3,h4⟩:=WJ h
 refine⟨h1,by simp,by simp;omega,by rw[Lr];simp,by simpa using h4⟩
theorem zr (h:A9 l a b=some m):0<=a∧0<=b∧a.toNat<=b.toNat∧b.toNat<=l.length∧b.toNat-a.toNat=m.length∧(List.take (m.length*E.size) (List.drop (a.toNat*E.size) (ae E l))=ae E m):=by
 unfold A9 at h
 split at h
 ·rename_i hc
  cases h
  have hl:((l.drop a.toNat).take (b.toNat-a.toNat)).length=b.toNat-a.toNat:=by simp;omega
  refine⟨hc.1,by omega,by omega,by omega,hl.symm,?_⟩
  rw[hl,ow,ew]
 ·cases h
theorem aaO (h:A9 l a b=some m):0<=a∧0<=b∧(a.toNat<=b.toNat∧b.toNat<=l.length)∧b.toNat-a.toNat=m.length∧(List.take (m.length*E.size) (List.drop (a.toNat*E.size) (ae E l))=ae E m):=by
 obtain⟨h1,h2,h3,h4,h5,h6⟩:=zr E h
 exact⟨h1,h2,⟨h3,h4⟩,h5,h6⟩
theorem Xb (h:A9 l a (l.length:Int)=some m):0<=a∧0<=a∧a.toNat<=l.length∧l.length-a.toNat=m.length∧(List.take (m.length*E.size) (List.drop (a.toNat*E.size) (ae E l))=ae E m):=by
 obtain⟨h1,h2,h3,h4,h5,h6⟩:=zr E h
 simp only[Int.toNat_natCast]at h3 h5
 exact⟨h1,h1,h3,h5,h6⟩
theorem JM (h:A9 l 0 b=some m):0<=b∧0<=b∧m.length<=l.length∧b.toNat=m.length∧(List.take (m.length*E.size) (ae E l)=ae E m):=by
 obtain⟨h1,h2,h3,h4,h5,h6⟩:=zr E h
 have h5':b.toNat=m.length:=by simpa using h5
 refine⟨h2,h2,by omega,h5',by simpa using h6⟩
theorem yW {n:List α} (h:mo B l m=some n):n=l++m∧n.length<=maxLen∧n.length*B<=140737488355328:=by
 unfold mo at h
 split at h
 ·rename_i hc
  cases h
  exact⟨rfl,by rw[aeC];exact hc.1,by rw[aeC];exact hc.2⟩
 ·cases h
theorem jg {n:List α} (h:mo B l [x]=some n):l.length+1=n.length∧ae E l++E.cells x=ae E n∧n.length<=maxLen∧n.length*B<=140737488355328:=by
 obtain⟨rfl,h1,h2⟩:=yW h
 exact⟨by simp,by rw[fB];simp[ae],h1,h2⟩
theorem Bb {n:List α} (h:mo B [] l=some n):n=l∧l.length<=maxLen∧l.length*B<=140737488355328:=by
 obtain⟨rfl,h1,h2⟩:=yW h
 exact⟨rfl,h1,h2⟩
theorem Yc {n:List α} (h:mo B l m=some n):l.length+m.length=n.length∧ae E l++ae E m=ae E n∧n.length<=maxLen∧n.length*B<=140737488355328:=by
 obtain⟨rfl,h1,h2⟩:=yW h
 exact⟨by simp,by rw[fB],h1,h2⟩
end
theorem rK {k:IntKind} {x y z:Int} (h:y5 k x y=some z):¬y=0∧k.wrap (x.tdiv y)=z:=by
 unfold y5 at h
 split at h
 ·cases h
 ·cases h;exact⟨by assumption,rfl⟩
theorem yi {k:IntKind} {x y z:Int} (h:Dl k x y=some z):¬y=0∧x.tmod y=z:=by
 unfold Dl at h
 split at h
 ·cases h
 ·cases h;exact⟨by assumption,rfl⟩
theorem Bm {k:IntKind} {x y z:Int} (h:Fg k x y=some z):¬y<0∧k.wrap (x*2 ^ (min y.toNat k.bits))=z:=by
 unfold Fg at h
 split at h
 ·cases h
 ·cases h;exact⟨by assumption,rfl⟩
theorem sL {k:IntKind} {x y z:Int} (h:xm k x y=some z):¬y<0∧x.fdiv (2 ^ (min y.toNat k.bits))=z:=by
 unfold xm at h
 split at h
 ·cases h
 ·cases h;exact⟨by assumption,rfl⟩
theorem Rx (op:BinOp) (k:IntKind) (x y:Int):BM op k x y=kf op k x y:=agq
theorem oD.emp {P:Program} {f:FuncId} {rk:RK} {out:Option Row} (h1:oD P f none [.sl true true 0 []] rk out) (h2:oD P f none [.sl true false 0 []] rk out):oD P f none [.sl false false 0 []] rk out:=by
 intro w M vs hM ha
 have hd:=ha.2 0 _ rfl
 generalize hu:vs.getD 0 undef=u at hd
 cases hd with
 | sl A c nl tight n xs us k1 k2 k3 k4 k5 k6 k7 k8 =>
  cases A with
  | none =>
   refine h1 w M vs hM ⟨ha.1,fun j d hj =>?_,ha.tab⟩
   cases j with
   | zero=>cases hj;rw[hu];exact .sl none c true true 0 [] us k1 k2 (fun _=>⟨fun _=>⟨rfl,(k4 rfl).2⟩,fun h=>by cases h⟩) k4 (fun _=>(k4 rfl).2) k6 k7 k8
   | succ j=>simp at hj
  | some A =>
   refine h2 w M vs hM ⟨ha.1,fun j d hj =>?_,ha.tab⟩
   cases j with
   | zero=>cases hj;rw[hu];exact .sl (some A) c true false 0 [] us k1 k2 (fun _=>⟨(fun h=>by cases h),fun _ h=>by cases h⟩) k4 (fun h=>by cases h) k6 k7 k8
   | succ j=>simp at hj
theorem b6.abq {P:Program} {T:Nat->Option Ty} {Γ:Env} (hT:jK P T) (hΓ:bA P Γ) (hm:P.follows .mixedOrders=true) {α β:Type} {E:iC α} {F:List α->Option β} {R:β->RK} {mode:Mode} {f:FuncId} {fn:Func} (hf:P.funcs[f]? = some fn) (hok:(match fn.body with|some c=>codeOk c|none=>true)=true)
  (hc:(fn.name == "runtime.NumGoroutine")=false∧fn.body.isNone=false) (hn:1<=fn.ntmps)
  (h0:∀r,F []=some r->bc mode T Γ FU fn none [.sl true true 0 []]=some (R r,none))
  (h1:∀r,F []=some r->bc mode T Γ FU fn none [.sl true false 0 []]=some (R r,none))
  (h2:∀l r,0<l.length->F l=some r->bc mode T Γ FU fn none [.sl false false l.length (ae E l)]=some (R r,none)):b6 P f (fX (fU (mL E)) F R) where
 calls lent adv rk out hg:=by
  obtain⟨rfl,rfl,l,r,rfl,hr,rfl⟩:=yh hg
  cases l with
  | nil=>exact oD.emp (lx hT hΓ hm hf hok hn rfl (h0 r hr)) (lx hT hΓ hm hf hok hn rfl (h1 r hr))
  | cons x l=>exact lx hT hΓ hm hf hok hn rfl (h2 (x::l) r (by simp) hr)
 callable:=⟨fn,hf,hc⟩
theorem Yz {α:Type} (E:iC α) {B:Nat} {l n:List α} {i:Int} {x:α} (h:Wr B l i [x]=some n):0<=i∧i<=(l.length:Int)∧l.length+1=n.length∧n.length*B<=140737488355328 ∧
  (ae E l).take (i.toNat*E.size)++(E.cells x++(ae E l).drop (i.toNat*E.size))=ae E n:=by
 unfold Wr at h
 split at h
 ·rename_i hc
  cases h
  obtain⟨h1,h2,-,h4⟩:=hc
  have hl:l.length+1=(l.take i.toNat++([x]++l.drop i.toNat)).length:=by simp;omega
  refine⟨h1,h2,hl,by rw[<- hl];exact h4,?_⟩
  rw[fB,fB,ew,ow]
  simp[ae]
 ·cases h
theorem U5 {w:World} {M:Nat->Prop} {k:IntKind} {n:Int} {u:Value} (h:RP w M (.int k n) u):u=.int k n:=by cases h;rfl
theorem fG (b:Nat) {ty:Nat} {fr:Nat×Nat} : ∀(vs:List Value) (o:Nat) (w:World) (arr:Array Value),w.heap[b]? = some (.cells arr ty fr)->o+vs.length<=arr.size ->
  (w.setCells b o vs).os=w.os∧(w.setCells b o vs).tape=w.tape∧(w.setCells b o vs).output=w.output∧(w.setCells b o vs).heap.size=w.heap.size∧(∀k,k≠b->(w.setCells b o vs).heap[k]? = w.heap[k]?) ∧
  ∃arr',(w.setCells b o vs).heap[b]? = some (.cells arr' ty fr)∧arr'.size=arr.size∧∀j,arr'[j]? = if o<=j∧j<o+vs.length then vs[j-o]? else arr[j]?
 | [],o,w,arr,h,_=>⟨rfl,rfl,rfl,rfl,fun k _=>rfl,arr,h,rfl,fun j=>by rw[if_neg (by simp)]⟩
 | v::r,o,w,arr,h,hl=>by
  simp only[List.length_cons]at hl
  have h1:(w.setCell ⟨b,o,none⟩ v).heap[b]? = some (.cells (arr.setIfInBounds o v) ty fr):=by
   simp[World.setCell,adK,h]
  obtain⟨e1,e2,e3,e4,e5,arr',e6,e7,e8⟩:=fG b r (o+1) (w.setCell ⟨b,o,none⟩ v) _ h1 (by simp;omega)
  refine⟨e1,e2,e3,e4.trans (by simp[World.setCell]),fun k hk=>(e5 k hk).trans (by simp[World.setCell,adK,Ne.symm hk]),arr',e6,by simpa using e7,fun j =>?_⟩
  rw[e8 j,Array.getElem?_setIfInBounds]
  simp only[List.length_cons]
  by_cases h1:o+1<=j∧j<o+1+r.length
  ·rw[if_pos h1,if_pos (by omega)]
   have:j-o=(j-(o+1))+1:=by omega
   rw[this,aeB]
  ·rw[if_neg h1]
   by_cases h2:o=j
   ·subst h2
    rw[if_pos rfl,if_pos (by omega),if_pos (by omega),aeE]
    rfl
   ·rw[if_neg h2,if_neg (by omega)]
theorem vm1:type_of% (ai @IC<|ai @BO<|ai @HS<|ai @N7<|ai @N6<|ai @HQ<|ai @D6<|ai @HR<|ai @bJ<|ai @bq<|ai @s5<|ai @bW<|ai @wG<|ai @AG<|ai @D9<|ai @HP<|ai @Io<|ai @Ep<|ai @N4<|ai @HN<|ai @D3<|ai @Ip<|ai @Er<|ai @Es<|ai @AR<|ai @N5<|ai @HO<|ai @D4<|ai @Iq<|ai @Et<|ai @Eu<|ai @AS<|ai @Oo<|ai @Oz<|ai @S0<|ai @S5<|ai @DO<|ai @Av<|ai @DP<|ai @Aw<|ai @K6<|ai @Lc<|ai @K5<|ai @Lb<|ai @Cc<|ai @Cf<|ai @F5<|ai @Gd<|ai @K7<|ai @Ld<|ai @K3<|@K9):=⟨@IC,@BO,@HS,@N7,@N6,@HQ,@D6,@HR,@bJ,@bq,@s5,@bW,@wG,@AG,@D9,@HP,@Io,@Ep,@N4,@HN,@D3,@Ip,@Er,@Es,@AR,@N5,@HO,@D4,@Iq,@Et,@Eu,@AS,@Oo,@Oz,@S0,@S5,@DO,@Av,@DP,@Aw,@K6,@Lc,@K5,@Lb,@Cc,@Cf,@F5,@Gd,@K7,@Ld,@K3,@K9⟩
theorem vm2:type_of% (ai @Gb<|ai @Gj<|ai @xI<|ai @xL<|ai @we<|ai @wm<|ai @F7<|ai @Gf<|ai @wg<|ai @wo<|ai @F8<|ai @Gg<|ai @F9<|ai @Gh<|ai @F6<|ai @Ge<|ai @tP<|ai @tQ<|ai @wh<|ai @wq<|ai @F4<|ai @Gc<|ai @RS<|ai @RU<|ai @zV<|ai @zZ<|ai @zW<|ai @z6<|ai @KZ<|ai @K8<|ai @zU<|ai @zY<|ai @ND<|ai @NP<|ai @FD<|ai @zG<|ai @F0<|ai @LA<|ai @Co<|ai @Cn<|ai @C0<|ai @CZ<|ai @ep<|ai @Af<|ai @eo<|ai @so<|ai @Tp<|ai @Kd<|ai @Fu<|ai @Ft<|ai @Hl<|@GC):=⟨@Gb,@Gj,@xI,@xL,@we,@wm,@F7,@Gf,@wg,@wo,@F8,@Gg,@F9,@Gh,@F6,@Ge,@tP,@tQ,@wh,@wq,@F4,@Gc,@RS,@RU,@zV,@zZ,@zW,@z6,@KZ,@K8,@zU,@zY,@ND,@NP,@FD,@zG,@F0,@LA,@Co,@Cn,@C0,@CZ,@ep,@Af,@eo,@so,@Tp,@Kd,@Fu,@Ft,@Hl,@GC⟩
theorem vm3:type_of% (ai @GD<|ai @AL<|ai @El<|ai @Ek<|ai @AQ<|ai @uD<|ai @s7<|ai @AN<|ai @s8<|ai @AO<|ai @s9<|ai @AK<|ai @Il<|ai @wI<|ai @wJ<|ai @AM<|ai @qV<|ai @AP<|ai @Ej<|ai @wH<|ai @yA<|ai @SE<|ai @Nn<|ai @HJ<|ai @HI<|ai @GY<|ai @Rp<|ai @Ke<|ai @Rt<|ai @Vl<|ai @Rs<|ai @Vi<|ai @Rn<|ai @Ru<|ai @Vh<|ai @Bc<|ai @Rv<|ai @Ro<|ai @Fx<|ai @BJ<|ai @Rr<|ai @Fy<|ai @FQ<|ai @B4<|ai @FT<|ai @Kx<|ai @B1<|ai @zQ<|ai @B3<|ai @FP<|ai @B0<|@KI):=⟨@GD,@AL,@El,@Ek,@AQ,@uD,@s7,@AN,@s8,@AO,@s9,@AK,@Il,@wI,@wJ,@AM,@qV,@AP,@Ej,@wH,@yA,@SE,@Nn,@HJ,@HI,@GY,@Rp,@Ke,@Rt,@Vl,@Rs,@Vi,@Rn,@Ru,@Vh,@Bc,@Rv,@Ro,@Fx,@BJ,@Rr,@Fy,@FQ,@B4,@FT,@Kx,@B1,@zQ,@B3,@FP,@B0,@KI⟩
theorem vm4:type_of% (ai @KO<|ai @KE<|ai @FW<|ai @KH<|ai @RM<|ai @KA<|ai @RJ<|ai @RI<|ai @KC<|ai @KG<|ai @VK<|ai @RQ<|ai @VL<|ai @Zo<|ai @VI<|ai @VJ<|ai @KW<|ai @GA<|ai @Sb<|ai @RB<|ai @y3<|ai @FG<|ai @BX<|ai @GN<|ai @CM<|ai @LN<|ai @Sd<|ai @LO<|ai @FX<|ai @B5<|ai @Ki<|ai @N1<|ai @HM<|ai @N0<|ai @HK<|ai @NY<|ai @HL<|ai @CE<|ai @Gr<|ai @BY<|ai @za<|ai @CF<|ai @CG<|ai @Wc<|ai @R0<|ai @V6<|ai @Lm<|ai @DZ<|ai @D0<|ai @Rx<|ai @xR<|@aL):=⟨@KO,@KE,@FW,@KH,@RM,@KA,@RJ,@RI,@KC,@KG,@VK,@RQ,@VL,@Zo,@VI,@VJ,@KW,@GA,@Sb,@RB,@y3,@FG,@BX,@GN,@CM,@LN,@Sd,@LO,@FX,@B5,@Ki,@N1,@HM,@N0,@HK,@NY,@HL,@CE,@Gr,@BY,@za,@CF,@CG,@Wc,@R0,@V6,@Lm,@DZ,@D0,@Rx,@xR,@aL⟩
theorem vmk:type_of% (And.intro (@OE)<|@OF):=⟨@OE,@OF⟩
theorem vmc:type_of% (ai @true_and<|ai @and_true<|ai @aea<|ai @adG<|ai @aeo<|ai @afq<|ai @aeU<|ai @afr<|ai @afv<|ai @ad0<|ai @ad1<|ai @List.contains_nil.{0}<|ai @aff<|ai @afp<|ai @afo<|ai @adZ<|ai @aeB<|ai @decide_true<|ai @decide_false<|ai @beq_self_eq_true.{0}<|ai @List.isEmpty_nil.{0}<|ai @List.isEmpty_cons.{0}<|ai @Option.map_none.{0,0}<|ai @adI<|ai @List.all_cons.{0}<|ai @List.all_nil.{0}<|ai @afw<|ai @Bool.and_true<|ai @aeW<|ai @afx<|ai @aft<|ai @aeV<|ai @afy<|ai @and_self<|ai @aen<|ai @ad9<|ai @afm<|ai @Nat.sub_zero<|ai @adB<|ai @adA<|ai @adJ<|ai @Nat.le_zero_eq<|ai @Nat.one_ne_zero<|ai @Bool.or_self<|ai @Bool.or_true<|ai @Bool.true_or<|ai @Bool.or_false<|ai @Bool.false_or<|@afz):=⟨@true_and,@and_true,@aea,@adG,@aeo,@afq,@aeU,@afr,@afv,@ad0,@ad1,@List.contains_nil.{0},@aff,@afp,@afo,@adZ,@aeB,@decide_true,@decide_false,@beq_self_eq_true.{0},@List.isEmpty_nil.{0},@List.isEmpty_cons.{0},@Option.map_none.{0,0},@adI,@List.all_cons.{0},@List.all_nil.{0},@afw,@Bool.and_true,@aeW,@afx,@aft,@aeV,@afy,@and_self,@aen,@ad9,@afm,@Nat.sub_zero,@adB,@adA,@adJ,@Nat.le_zero_eq,@Nat.one_ne_zero,@Bool.or_self,@Bool.or_true,@Bool.true_or,@Bool.or_false,@Bool.false_or,@afz⟩
theorem vm5:type_of% (ai @D8<|ai @D7<|ai @Zm<|ai @Fz<|ai @BK<|ai @Rk<|ai @J9<|ai @Rl<|ai @U9<|ai @Ri<|ai @Rj<|ai @KK<|ai @Sa<|ai @Hh<|ai @Mu<|ai @C3<|@Mv):=⟨@D8,@D7,@Zm,@Fz,@BK,@Rk,@J9,@Rl,@U9,@Ri,@Rj,@KK,@Sa,@Hh,@Mu,@C3,@Mv⟩
theorem vmu:type_of% (ai @xd.eq_1<|ai @xd.eq_2<|ai @ev.eq_1<|ai @ev.eq_2<|ai @ev.eq_3<|ai @ev.eq_4<|ai @nJ.eq_1<|ai @nJ.eq_2<|ai @nJ.eq_3<|ai @nJ.eq_4<|ai @nJ.eq_5<|ai @nJ.eq_6<|ai @ec.eq_1<|ai @ec.eq_2<|ai @yZ.eq_1<|ai @yZ.eq_2<|ai @yZ.eq_3<|ai @kD.eq_1<|ai @kD.eq_2<|ai @kD.eq_3<|ai @fv.eq_1<|ai @fv.eq_2<|ai @fv.eq_3<|ai @fv.eq_4<|ai @fv.eq_5<|ai @fv.eq_6<|ai @fv.eq_7<|ai @fv.eq_8<|ai @fv.eq_9<|ai @fv.eq_10<|ai @fv.eq_11<|ai @fv.eq_12<|ai @fv.eq_13<|ai @fv.eq_14<|ai @fv.eq_15<|ai @fv.eq_16<|ai @Fj.eq_1<|ai @Fj.eq_2<|ai @Fj.eq_3<|ai @Fj.eq_4<|ai @Fj.eq_5<|ai @Fj.eq_6<|ai @YK.eq_1<|ai @aJ.eq_1<|ai @aJ.eq_2<|ai @dC.eq_1<|ai @dC.eq_2<|ai @dC.eq_3<|ai @di.eq_1<|ai @di.eq_2<|ai @di.eq_3<|ai @live.eq_1<|ai @lR.eq_1<|ai @lR.eq_2<|ai @Ds.pc.eq_1<|ai @Ds.pc.eq_2<|ai @Ds.pc.eq_3<|ai @ch.eq_1<|ai @ch.eq_2<|ai @ch.eq_3<|ai @ch.eq_4<|ai @ch.eq_5<|ai @ch.eq_6<|ai @fZ.eq_1<|ai @fZ.eq_2<|ai @fZ.eq_3<|ai @fZ.eq_4<|ai @fZ.eq_5<|ai @fZ.eq_6<|ai @oY.eq_1<|ai @oY.eq_2<|ai @ye.eq_1<|ai @ye.eq_2<|ai @ye.eq_3<|ai @ye.eq_4<|ai @alive.eq_1<|ai @alive.eq_2<|ai @alive.eq_3<|ai @nm.eq_1<|ai @nm.eq_2<|ai @gU.eq_1<|ai @gU.eq_2<|ai @gU.eq_3<|ai @gU.eq_4<|ai @gU.eq_5<|ai @gU.eq_6<|ai @cI.eq_1<|ai @cI.eq_2<|ai @pZ.eq_1<|ai @jt.eq_1<|ai @jt.eq_2<|ai @jt.eq_3<|ai @lJ.eq_1<|ai @lJ.eq_2<|ai @Hv.eq_1<|ai @bD.eq_1<|ai @bD.eq_2<|ai @bD.eq_3<|ai @bD.eq_4<|ai @fL.eq_1<|ai @fL.eq_2<|ai @fL.eq_3<|ai @cC.eq_1<|ai @cC.eq_2<|ai @cC.eq_3<|ai @cC.eq_4<|ai @cC.eq_5<|ai @cC.eq_6<|ai @eE.eq_1<|ai @ir.eq_1<|ai @ir.eq_2<|ai @fieldAt.eq_1<|ai @dB.eq_1<|ai @pL.eq_1<|ai @iT.eq_1<|ai @content.eq_1<|ai @content.eq_2<|ai @content.eq_3<|ai @putCells.eq_1<|ai @UQ.eq_1<|ai @UQ.eq_2<|ai @UQ.eq_3<|ai @UQ.eq_4<|ai @Pq.eq_1<|ai @Pq.eq_2<|ai @Pq.eq_3<|ai @Pq.eq_4<|ai @TV.eq_1<|ai @TV.eq_2<|ai @TV.eq_3<|ai @fc.eq_1<|ai @fc.eq_2<|ai @fc.eq_3<|ai @kindOk.eq_1<|ai @kindOk.eq_2<|ai @kindOk.eq_3<|ai @kindOk.eq_4<|ai @kp.eq_1<|ai @kp.eq_2<|ai @kp.eq_3<|ai @kp.eq_4<|ai @nF.eq_1<|ai @nF.eq_2<|ai @nF.eq_3<|ai @nF.eq_4<|ai @nF.eq_5<|ai @nF.eq_6<|ai @nF.eq_7<|ai @nF.eq_8<|ai @sK.eq_1<|ai @sK.eq_2<|ai @sK.eq_3<|ai @aV.eq_1<|ai @aV.eq_2<|ai @aV.eq_3<|ai @aV.eq_4<|ai @aV.eq_5<|ai @aV.eq_6<|ai @aV.eq_7<|ai @np.eq_1<|ai @np.eq_2<|ai @tI.eq_1<|ai @tI.eq_2<|ai @tI.eq_3<|@tI.eq_4):=⟨@xd.eq_1,@xd.eq_2,@ev.eq_1,@ev.eq_2,@ev.eq_3,@ev.eq_4,@nJ.eq_1,@nJ.eq_2,@nJ.eq_3,@nJ.eq_4,@nJ.eq_5,@nJ.eq_6,@ec.eq_1,@ec.eq_2,@yZ.eq_1,@yZ.eq_2,@yZ.eq_3,@kD.eq_1,@kD.eq_2,@kD.eq_3,@fv.eq_1,@fv.eq_2,@fv.eq_3,@fv.eq_4,@fv.eq_5,@fv.eq_6,@fv.eq_7,@fv.eq_8,@fv.eq_9,@fv.eq_10,@fv.eq_11,@fv.eq_12,@fv.eq_13,@fv.eq_14,@fv.eq_15,@fv.eq_16,@Fj.eq_1,@Fj.eq_2,@Fj.eq_3,@Fj.eq_4,@Fj.eq_5,@Fj.eq_6,@YK.eq_1,@aJ.eq_1,@aJ.eq_2,@dC.eq_1,@dC.eq_2,@dC.eq_3,@di.eq_1,@di.eq_2,@di.eq_3,@live.eq_1,@lR.eq_1,@lR.eq_2,@Ds.pc.eq_1,@Ds.pc.eq_2,@Ds.pc.eq_3,@ch.eq_1,@ch.eq_2,@ch.eq_3,@ch.eq_4,@ch.eq_5,@ch.eq_6,@fZ.eq_1,@fZ.eq_2,@fZ.eq_3,@fZ.eq_4,@fZ.eq_5,@fZ.eq_6,@oY.eq_1,@oY.eq_2,@ye.eq_1,@ye.eq_2,@ye.eq_3,@ye.eq_4,@alive.eq_1,@alive.eq_2,@alive.eq_3,@nm.eq_1,@nm.eq_2,@gU.eq_1,@gU.eq_2,@gU.eq_3,@gU.eq_4,@gU.eq_5,@gU.eq_6,@cI.eq_1,@cI.eq_2,@pZ.eq_1,@jt.eq_1,@jt.eq_2,@jt.eq_3,@lJ.eq_1,@lJ.eq_2,@Hv.eq_1,@bD.eq_1,@bD.eq_2,@bD.eq_3,@bD.eq_4,@fL.eq_1,@fL.eq_2,@fL.eq_3,@cC.eq_1,@cC.eq_2,@cC.eq_3,@cC.eq_4,@cC.eq_5,@cC.eq_6,@eE.eq_1,@ir.eq_1,@ir.eq_2,@fieldAt.eq_1,@dB.eq_1,@pL.eq_1,@iT.eq_1,@content.eq_1,@content.eq_2,@content.eq_3,@putCells.eq_1,@UQ.eq_1,@UQ.eq_2,@UQ.eq_3,@UQ.eq_4,@Pq.eq_1,@Pq.eq_2,@Pq.eq_3,@Pq.eq_4,@TV.eq_1,@TV.eq_2,@TV.eq_3,@fc.eq_1,@fc.eq_2,@fc.eq_3,@kindOk.eq_1,@kindOk.eq_2,@kindOk.eq_3,@kindOk.eq_4,@kp.eq_1,@kp.eq_2,@kp.eq_3,@kp.eq_4,@nF.eq_1,@nF.eq_2,@nF.eq_3,@nF.eq_4,@nF.eq_5,@nF.eq_6,@nF.eq_7,@nF.eq_8,@sK.eq_1,@sK.eq_2,@sK.eq_3,@aV.eq_1,@aV.eq_2,@aV.eq_3,@aV.eq_4,@aV.eq_5,@aV.eq_6,@aV.eq_7,@np.eq_1,@np.eq_2,@tI.eq_1,@tI.eq_2,@tI.eq_3,@tI.eq_4⟩
theorem aca:type_of% (ai @FJ<|ai @FH<|ai @FI<|ai @R7<|ai @Mr<|ai @Me<|ai @Ml<|ai @Hd<|ai @L8<|ai @L9<|ai @CY<|ai @Mc<|ai @Mb<|ai @GQ<|ai @MJ<|ai @MT<|ai @Rz<|ai @BP<|ai @BQ<|ai @FK<|ai @R8<|ai @Ms<|ai @Mf<|ai @He<|ai @Mm<|ai @C2<|ai @Mp<|ai @Mo<|ai @GV<|ai @RA<|@BT):=⟨@FJ,@FH,@FI,@R7,@Mr,@Me,@Ml,@Hd,@L8,@L9,@CY,@Mc,@Mb,@GQ,@MJ,@MT,@Rz,@BP,@BQ,@FK,@R8,@Ms,@Mf,@He,@Mm,@C2,@Mp,@Mo,@GV,@RA,@BT⟩
end Go.Proofs.Ytchndpjlijbplaa.Am
