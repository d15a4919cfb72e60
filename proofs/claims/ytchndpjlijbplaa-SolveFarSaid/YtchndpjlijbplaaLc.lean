/- Part of a proof, made small by a program (wip/mini.py). -/
import Derived.Test.YtchndpjlijbplaaLb
namespace Go.Proofs.Ytchndpjlijbplaa.Am
open Go.RowKit
set_option linter.unusedSimpArgs false
set_option linter.unusedVariables false
def gC (vs:Operand->D):Op->Option (D×List D)
 | .call c=>match c.callee with | .value f=>some (vs f,c.args.toList.map vs)|_=>none
 | _=>none
theorem mK {vs:Operand->D} {op:Op} {q:D} {args:List D} (hc:gC vs op=some (q,args)):∃c f,op=.call c∧c.callee=.value f∧q=vs f∧args=c.args.toList.map vs:=by
 unfold gC at hc
 split at hc<;>try (cases hc;done)
 rename_i c
 split at hc<;>try (cases hc;done)
 rename_i f hf
 simp only[adq,Prod.mk.injEq]at hc
 exact⟨c,f,rfl,hf,hc.1.symm,hc.2.symm⟩
def zQ (Γ:Env) (e:Nat) (h:Nat->Option Row):Option (D×List D)->Option bM
 | some (.fn g,args)=>p9 Γ e h g args
 | _=>none
def Cd (e d:Nat) (h:Nat->Option Row) (args:List D):Option (List D->Option (Nat×Nat×Nat×Nat×Nat×List D))->Option bM
 | some p=>Fc p e d (bk (EH h) args)
 | none=>none
def lY (Γ:Env) (e:Nat) (h:Nat->Option Row):Option Nat->Option (D×List D)->Option bM
 | some d,some (.fn g,args)=>Cd e d h args (Γ.nx.res g)
 | _,_=>none
def tz (T:Nat->Option Ty) (Γ:Env) (e:Nat) (o:Oper) (vs:Operand->D) (h:Nat->Option Row):Option bM :=
 match o.op with
 | .load ty p=>match T ty with|some τ=>nf τ h (vs p)|none=>none
 | .store ty p x=>match T ty with|some τ=>lu τ e h (vs p) (vs x)|none=>none
 | .call c=>zQ Γ e h (gC vs (.call c))
 | _=>none
def XQ (h:Nat->Option Row):Option bM->Option bM->Option bM
 | some ⟨v,hw⟩,_=>some ⟨v,jO h hw⟩
 | none,y=>y
def oX (T:Nat->Option Ty) (Γ:Env) (e:Nat) (o:Oper) (vs:Operand->D) (h:Nat->Option Row):Option bM :=
 match iP T Γ e o vs with
 | some E=>some E
 | none =>
  match lY Γ e h o.dst (gC vs o.op) with
  | some E=>some E
  | none=>XQ h (lX T Γ e o vs (EH h)) (tz T Γ e o vs h)
def bj (o:Oper) (vs:Operand->D):List Nat:=(gJ o vs).map rt
def VE (N e:Nat) (done:List Nat) (h:Nat->Option Row) (x v:Nat):Prop:=(x<N∧(v<e∨(v=e∧x∈done))) ∨
 (2*PK<=x∧v<=4*e+3∧(x % PK∉done->v<=4*e+1)∧∀r ty s nv cs,h (x % PK)=some r->r.mp=true->r.cells=[.nr ty s nv cs]->v<=nv)
def D8 (e:Nat) (done:List Nat) (h:Nat->Option Row):Prop:=∀x r ty s nv cs,h x=some r->r.mp=true->r.cells=[.nr ty s nv cs]->x<PK->nv<=4*e+3∧(x∉done->nv<=4*e+1)
def lW (e:Nat) (h h':Nat->Option Row):Prop:=∀x r' ty' s' nv' cs',h' x=some r'->r'.mp=true->r'.cells=[.nr ty' s' nv' cs']->x<PK->∃r ty s nv cs,h x=some r∧r.mp=true∧r.cells=[.nr ty s nv cs]∧(nv'=nv∨oW nv e=some nv')
theorem lW.refl (e:Nat) (h:Nat->Option Row):lW e h h:=fun x r ty s nv cs hx hm hc _=>⟨r,ty,s,nv,cs,hx,hm,hc,.inl rfl⟩
theorem H3 {nv e nv':Nat} (h:oW nv e=some nv'):nv<nv'∧(nv'=4*e+1∨(nv=4*e+2∧nv'=4*e+3)):=by
 unfold oW at h
 split at h
 ·cases h;omega
 ·split at h
  ·cases h;omega
  ·cases h
theorem D8.step {e:Nat} {done done':List Nat} {h h':Nat->Option Row} (hN:D8 e done h) (hr:lW e h h') (hd:∀x,x∈done->x∈done'):D8 e done' h':=by
 intro x r' ty' s' nv' cs' hx hm hc hp
 obtain⟨r,ty,s,nv,cs,k1,k2,k3,k4⟩:=hr x r' ty' s' nv' cs' hx hm hc hp
 obtain⟨q1,q2⟩:=hN x r ty s nv cs k1 k2 k3 hp
 rcases k4 with rfl|k4
 ·exact⟨q1,fun hn=>q2 fun h=>hn (hd x h)⟩
 ·obtain⟨b1,b2⟩:=H3 k4
  refine⟨by omega,fun hn =>?_⟩
  rcases b2 with b2|⟨b2,b3⟩
  ·omega
  ·have:=q2 fun h=>hn (hd x h)
   omega
theorem VE.step {N e:Nat} {done done':List Nat} {h h':Nat->Option Row} (hr:lW e h h') (hd:∀x,x∈done->x∈done') {x v:Nat} (hv:VE N e done h x v):VE N e done' h' x v:=by
 rcases hv with⟨h1,h2⟩|⟨h1,h2,h3,h4⟩
 ·exact .inl ⟨h1,h2.imp id fun⟨q1,q2⟩=>⟨q1,hd x q2⟩⟩
 ·refine .inr ⟨h1,h2,fun hn=>h3 fun h=>hn (hd _ h),fun r' ty' s' nv' cs' k1 k2 k3 =>?_⟩
  obtain⟨r,ty,s,nv,cs,q1,q2,q3,q4⟩:=hr _ r' ty' s' nv' cs' k1 k2 k3 (GA _)
  have:=h4 r ty s nv cs q1 q2 q3
  rcases q4 with rfl|q4
  ·exact this
  ·have:=(H3 q4).1
   omega
theorem D8.aa6 {N e:Nat} {done:List Nat} {h:Nat->Option Row} (hN:D8 e done h):VNr (VE N e done h) h:=by
 intro x r ty s nv cs hx hm hc hp o
 obtain⟨q1,q2⟩:=hN x r ty s nv cs hx hm hc hp
 refine .inr ⟨fP x o,q1,by rw[qP o hp];exact q2,fun r' ty' s' nv' cs' k1 k2 k3 =>?_⟩
 rw[qP o hp,hx]at k1
 cases k1
 rw[hc]at k3
 cases k3
 exact adh _
theorem D8.new {N e:Nat} {done:List Nat} {h:Nat->Option Row} (hN:D8 e done h) (hb:N<=PK):ZU (VE N e done h) h e:=by
 intro x r ty s nv cs nv' hx hm hc hp hbm o hv
 have hge:=fP x o
 have:=cR
 rcases hv with⟨h1,_⟩|⟨_,_,_,h4⟩
 ·omega
 ·have h5:=h4 r ty s nv cs (by rw[qP o hp];exact hx) hm hc
  have h6:=(H3 hbm).1
  omega
theorem K9 (e:Nat):∀(l:List (Nat×Option Row)) (h:Nat->Option Row),lW e h (aH h (jO h l))
 | [],h =>.refl e h
 | (k,r)::l,h=>by
  intro x r' ty' s' nv' cs' hx hm hc hp
  obtain⟨r1,ty1,s1,nv1,cs1,k1,k2,k3,k4⟩:=K9 e l (b6 h (rt k) (xS h k r)) x r' ty' s' nv' cs' hx hm hc hp
  by_cases hxk:x=rt k
  rotate_left
  ·rw[aA _ _ hxk]at k1
   exact⟨r1,ty1,s1,nv1,cs1,k1,k2,k3,k4⟩
  ·rw[hxk,ax]at k1
   unfold xS at k1
   split at k1
   ·exfalso
    obtain⟨_,h2,_⟩:=y3 (o:=0) k1
    unfold CX at k1
    split at k1
    ·split at k1
     ·split at k1
      ·cases k1
      ·rename_i hne
       simp only[adq]at k1
       subst k1
       exact hne _ _ _ _ k3
     ·rename_i hmp
      simp only[adq]at k1
      subst k1
      exact hmp k2
    ·cases k1
   ·rename_i hk2
    have hrt:rt k=k % PK:=by unfold rt;rw[if_neg hk2]
    rw[adf]at k1
    obtain⟨q,q1,q2⟩:=k1
    unfold Dn at q2
    split at q2
    ·rename_i hqm
     split at q2
     ·rename_i ty s nv cs hqc
      subst q2
      simp only at k3
      refine⟨q,ty,s,nv,cs,by rw[hxk,hrt];exact q1,hqm,hqc,?_⟩
      unfold za at k3
      split at k3<;>(simp only[adF,D.nr.injEq,and_true]at k3;obtain⟨rfl,rfl,rfl,_⟩:=k3;exact k4)
     ·subst q2
      exact⟨q,ty1,s1,nv1,cs1,by rw[hxk,hrt];exact q1,k2,k3,k4⟩
    ·subst q2
     exact⟨q,ty1,s1,nv1,cs1,by rw[hxk,hrt];exact q1,k2,k3,k4⟩
section
variable {P:Program} {T:Nat->Option Ty} {N:Nat} {M:Nat->Prop} {L:jR} {w0:World} {blk:Nat->Option (Nat×Nat)} {t:Nat->D} {h h':Nat->Option Row} {a:Act} {w:World} {e:Nat} {o:Oper} {Γ:Env} {done:List Nat}
theorem lW.set {x:Nat} {r r':Row} {ty s nv nv' ty' s':Nat} {cs cs':List D} (hx:h x=some r) (hm:r.mp=true) (hc:r.cells=[.nr ty s nv cs]) (hc':r'.cells=[.nr ty' s' nv' cs']) (hn:nv'=nv∨oW nv e=some nv'):lW e h (b6 h x (some r')):=by
 intro y r1 ty1 s1 nv1 cs1 hy hm1 hc1 hp
 by_cases hyx:y=x
 ·subst hyx
  rw[ax]at hy
  cases hy
  rw[hc']at hc1
  cases hc1
  exact⟨r,ty,s,nv,cs,hx,hm,hc,hn⟩
 ·rw[aA _ _ hyx]at hy
  exact⟨r1,ty1,s1,nv1,cs1,hy,hm1,hc1,.inl rfl⟩
theorem lW.drop {y:Nat} (hr:lW e (b6 h y none) h'):lW e h h':=by
 intro x r' ty' s' nv' cs' hx hm hc hp
 obtain⟨r,ty,s,nv,cs,k1,k⟩:=hr x r' ty' s' nv' cs' hx hm hc hp
 by_cases hxy:x=y
 ·subst hxy;rw[ax]at k1;cases k1
 ·rw[aA _ _ hxy]at k1
  exact⟨r,ty,s,nv,cs,k1,k⟩
theorem FP {τ:Ty} {d:D} {E:bM} (hE:nf τ h d=some E):E.hw=[]:=by
 unfold nf at hE
 split at hE<;>try (cases hE;done)
 split at hE<;>try (cases hE;done)
 unfold CJ at hE
 split at hE
 ·split at hE<;>try (cases hE;done)
  cases hE;rfl
 ·split at hE<;>try (cases hE;done)
  split at hE<;>try (cases hE;done)
  cases hE;rfl
 ·cases hE
theorem OX {τ:Ty} {p d:D} {E:bM} (hE:lu τ e h p d=some E):lW e h (aH h E.hw):=by
 unfold lu at hE
 split at hE<;>try (cases hE;done)
 rename_i y0 v0 c0
 split at hE<;>try (cases hE;done)
 rename_i r ty s nv cs hl
 obtain⟨hx,hv,hz,hm,hp1,hc⟩:=me hl
 split at hE<;>try (cases hE;done)
 have plain:∀ {c':Option (List D)},zf τ y0 r ty s nv cs c0 c'=some E->lW e h (aH h E.hw):=by
  intro c' hE
  unfold zf at hE
  split at hE<;>try (cases hE;done)
  split at hE<;>try (cases hE;done)
  cases hE
  exact lW.set hx hm hc rfl (.inl rfl)
 unfold vF at hE
 split at hE
 ·rename_i yq vq sq oq nq
  split at hE<;>try (cases hE;done)
  split at hE
  ·split at hE<;>try (cases hE;done)
   unfold zd at hE
   split at hE<;>try (cases hE;done)
   split at hE<;>try (cases hE;done)
   cases hE
   exact lW.set hx hm hc rfl (.inl rfl)
  ·split at hE<;>try (cases hE;done)
   split at hE<;>try (cases hE;done)
   rename_i q hlq
   split at hE<;>try (cases hE;done)
   unfold ze at hE
   split at hE<;>try (cases hE;done)
   rename_i nv' hb
   cases hE
   obtain⟨hq1,hq2⟩:=bR hlq
   refine lW.drop (y:=yq) ?_
   exact lW.set (by
    rw[aA]
    ·exact hx
    ·rintro rfl
     rw[hx]at hq1
     cases hq1
     have:=fN hlq
     rw[hm]at this
     cases this) hm hc rfl (.inr hb)
 ·exact plain hE
structure D7 (N:Nat) (M:Nat->Prop) (L:jR) (w0:World) (blk:Nat->Option (Nat×Nat)) (e:Nat) (done:List Nat) (t:Nat->D) (h:Nat->Option Row) (a:Act) (w:World):Prop where
 inv:Inv N M L w0 blk (VE N e done h) t (EH h) a w
 nv:D8 e done h
def Ok (N:Nat) (M:Nat->Prop) (L:jR) (w0:World) (t:Nat->D) (h:Nat->Option Row) (a:Act) (e:Nat) (done:List Nat) (E:bM) (v:Value) (w':World):Prop :=
 ∃blk',D7 N M L w0 blk' e done t (aH h E.hw) a w'∧RT w' (Own M (EH (aH h E.hw)) blk') (EH (aH h E.hw)) blk' (VE N e done (aH h E.hw)) E.val v
theorem OV (hT:js P T) (hΓ:bB P Γ) (hI:D7 N M L w0 blk e done t h a w) (hd:∀d:Nat,o.dst=some d->d∉done∧d<N) {E:bM} (hE:oX T Γ e o (ev t) h=some E):eB P o a w (Ok N M L w0 t h a e (o.dst.toList++done) E):=by
 have hbig:=hI.inv.big
 have hpk:=cR
 have hV:∀d:Nat,o.dst=some d->jN N (VE N e done h) d e:=by
  intro d hd'
  obtain⟨q1,q2⟩:=hd d hd'
  replace q2:(d:Nat)<N:=q2
  refine⟨fun hv =>?_,q2⟩
  rcases hv with⟨_,hv|⟨_,hv⟩⟩|⟨hv,_⟩
  ·omega
  ·exact q1 hv
  ·omega
 have hP:∀x v,VE N e done h x v->x<N∨2*PK<=x:=fun x v hv=>hv.imp (fun h=>h.1) (fun h=>h.1)
 have hsub:∀x,x∈done->x∈o.dst.toList++done:=fun x hx=>adw _ hx
 have fin:lW e h (aH h E.hw)->∀ {v:Value} {w':World},pT N M L w0 (VE N e done h) t h a e o.dst E v w'->Ok N M L w0 t h a e (o.dst.toList++done) E v w':=by
  intro hrel v w' hA
  obtain⟨blk',h1,h2⟩:=hA
  have hVV:∀x n,VE N e done h x n∨(o.dst=some x∧n=e)->VE N e (o.dst.toList++done) (aH h E.hw) x n:=by
   rintro x n (hv|⟨hx,rfl⟩)
   ·exact hv.step hrel hsub
   ·exact .inl ⟨(hd x hx).2,.inr ⟨rfl,adv _ (by rw[hx];simp)⟩⟩
  refine⟨blk',⟨h1.weaken hVV,hI.nv.step hrel hsub⟩,h2.mono ⟨fun _ h1 h2=>⟨h1,h2,rfl⟩,hVV,fun _ _ _ r' h1 h2=>⟨⟨r',h1,h2⟩,rfl,fun _ _=>rfl⟩⟩⟩
 have fin2:∀ {E0:bM} {d:Nat} {r0:Row} {ty' s:Nat} {cs0:List D},o.dst=some d->E0.hw=[(d,some r0)]->r0.mp=true->r0.cells=[.nr ty' s (4*e+2) cs0]->∀ {v:Value} {w':World},pT N M L w0 (VE N e done h) t h a e o.dst E0 v w'->Ok N M L w0 t h a e (o.dst.toList++done) E0 v w':=by
  intro E0 d r0 ty' s cs0 hdst hr0 hrm hrc v w' hA
  obtain⟨blk',h1,h2⟩:=hA
  obtain⟨hdn,hdN⟩:=hd d hdst
  have hap:aH h E0.hw=b6 h d (some r0):=by rw[hr0];rfl
  have hVV:∀x n,VE N e done h x n∨(o.dst=some x∧n=e)->VE N e (o.dst.toList++done) (aH h E0.hw) x n:=by
   rintro x n (hv|⟨hx,rfl⟩)
   ·rcases hv with⟨q1,q2⟩|⟨q1,q2,q3,q4⟩
    ·exact .inl ⟨q1,q2.imp id fun⟨p1,p2⟩=>⟨p1,hsub _ p2⟩⟩
    ·refine .inr ⟨q1,q2,fun hn=>q3 fun h=>hn (hsub _ h),fun r' ty1 s1 nv1 cs1 k1 k2 k3 =>?_⟩
     rw[hap]at k1
     by_cases hxd:x % PK=d
     ·rw[hxd,ax]at k1
      cases k1
      rw[hrc]at k3
      cases k3
      have:=q3 (by rw[hxd];exact hdn)
      omega
     ·rw[aA _ _ hxd]at k1
      exact q4 r' ty1 s1 nv1 cs1 k1 k2 k3
   ·exact .inl ⟨(hd x hx).2,.inr ⟨rfl,adv _ (by rw[hx];simp)⟩⟩
  refine⟨blk',⟨h1.weaken hVV,?_⟩,h2.mono ⟨fun _ h1 h2=>⟨h1,h2,rfl⟩,hVV,fun _ _ _ r' h1 h2=>⟨⟨r',h1,h2⟩,rfl,fun _ _=>rfl⟩⟩⟩
  intro x r' ty1 s1 nv1 cs1 k1 k2 k3 hp
  rw[hap]at k1
  by_cases hxd:x=d
  ·subst hxd
   rw[ax]at k1
   cases k1
   rw[hrc]at k3
   cases k3
   exact⟨by omega,fun hn=>absurd (adv _ (by rw[hdst];simp)) hn⟩
  ·rw[aA _ _ hxd]at k1
   obtain⟨p1,p2⟩:=hI.nv x r' ty1 s1 nv1 cs1 k1 k2 k3 hp
   exact⟨p1,fun hn=>p2 fun h=>hn (hsub _ h)⟩
 have hnk:∀d:Nat,o.dst=some d->∀o',¬VE N e done h (NK d o') (4*e+2):=by
  intro d hdst o' hv
  obtain⟨hdn,hdN⟩:=hd d hdst
  have hdp:(d:Nat)<PK:=adk hdN hbig
  rcases hv with⟨hv,_⟩|⟨_,_,hv,_⟩
  ·have:=fP d o';omega
  ·have:=hv (by rw[qP o' hdp];exact hdn)
   omega
 unfold oX at hE
 split at hE
 ·rename_i E0 hmk
  simp only[adq]at hE
  subst hE
  unfold iP at hmk
  split at hmk<;>try (cases hmk;done)
  rename_i ty l c ho
  split at hmk<;>try (cases hmk;done)
  rename_i d hdst
  split at hmk<;>try (cases hmk;done)
  rename_i ty' s f hn
  split at hmk<;>try (cases hmk;done)
  rename_i τ hτ
  obtain⟨hdn,hdN⟩:=hd d hdst
  have hA:=Vz hT hI.inv ho hdst (hV d hdst) (fun o' hv=>by
   have hdp:(d:Nat)<PK:=adk hdN hbig
   rcases hv with⟨hv,_⟩|⟨_,_,hv,_⟩
   ·have:=fP d o';omega
   ·have:=hv (by rw[qP o' hdp];exact hdn)
    omega) hτ hmk
  obtain⟨r0,hr0,hrm,hrc⟩:∃r0:Row,E0.hw=[(d,some r0)]∧r0.mp=true∧∃cs,r0.cells=[.nr ty' s (4*e+2) cs]:=by
   unfold mC at hmk
   split at hmk<;>try (cases hmk;done)
   split at hmk<;>try (cases hmk;done)
   split at hmk<;>try (cases hmk;done)
   cases hmk
   exact⟨_,rfl,rfl,_,rfl⟩
  obtain⟨cs0,hrc⟩:=hrc
  exact hA.mono fun v w' hA=>fin2 hdst hr0 hrm hrc hA
 split at hE
 ·rename_i E0 hcf
  simp only[adq]at hE
  subst hE
  unfold lY at hcf
  split at hcf<;>try (cases hcf;done)
  rename_i d g args hdst hco
  obtain⟨c,f,hop,hcc,hq,hargs⟩:=mK hco
  unfold Cd at hcf
  split at hcf<;>try (cases hcf;done)
  rename_i p hp
  obtain⟨_,ty',ti,s',S',n',cs',_,_,_,hE0⟩:=wz hcf
  subst hargs
  have hA:=BX hI.inv hop hcc hq.symm (fun vs q1 q2=>U9 hΓ hI.inv hdst (hV d hdst) (hnk d hdst) hp hcf q1 q2)
  refine hA.mono fun v w' hA =>?_
  exact fin2 (r0:=⟨e,ty',[.nr ti s' (4*e+2) cs'],false,true,true⟩) hdst (by rw[hE0]) rfl rfl hA
 ·unfold XQ at hE
  split at hE
  ·rename_i v0 hw he
   simp only[adq]at hE
   subst hE
   have hA:=Tp hT hΓ hI.inv hV hP he
   exact hA.mono fun v w' hA=>fin (K9 e hw h) (hA.le (K7 hw h))
  ·unfold tz at hE
   split at hE
   ·rename_i ty p ho
    split at hE<;>try (cases hE;done)
    rename_i τ hτ
    exact (Vx hT hI.inv hI.nv.aa6 ho hτ hE).mono fun v w' hA=>fin (by rw[FP hE];exact .refl e h) hA
   ·rename_i ty p x ho
    split at hE<;>try (cases hE;done)
    rename_i τ hτ
    exact (VB hT hI.inv (hI.nv.new hbig) ho hτ hE).mono fun v w' hA=>fin (OX hE) hA
   ·rename_i c ho
    unfold zQ at hE
    split at hE<;>try (cases hE;done)
    rename_i g args hco
    obtain⟨c',f,hop,hcc,hq,hargs⟩:=mK hco
    cases hop
    subst hargs
    refine (BX hI.inv ho hcc hq.symm (fun vs q1 q2=>Vb hΓ hI.inv (hI.nv.new hbig) (dst:=o.dst) hE q1 q2)).mono fun v w' hA=>fin ?_ hA
    obtain⟨x,v,o',rest,r,ty,s,nv,cs,p,ada,nv',d,cs',_,hl,_,_,hb,_,_,rfl⟩:=re hE
    obtain⟨hx,_,_,hm,_,hc⟩:=me hl
    exact lW.set hx hm hc rfl (.inr hb)
   ·cases hE
end
section
variable {T:Nat->Option Ty} {h h':Nat->Option Row} {e:Nat} {o:Oper} {Γ:Env}
theorem tI {x v:Nat} (hx:h x=h' x):iX h x v=iX h' x v:=by simp[iX,hx]
theorem tJ {x v:Nat} {q:Row×Nat×Nat×Nat×List D} (hl:iX h x v=some q):x<PK:=by
 obtain⟨r,ty,s,nv,cs⟩:=q
 exact (me hl).2.2.2.2.1
theorem zU:∀(l:List (Nat×Option Row)) {h h':Nat->Option Row},(∀p∈l,h (rt p.1)=h' (rt p.1))->jO h l=jO h' l
 | [],_,_,_=>rfl
 | (k,r)::l,h,h',hl=>by
  have hk:h (rt k)=h' (rt k):=hl (k,r) (by simp)
  have hp:xS h k r=xS h' k r:=by
   unfold xS
   split
   ·rfl
   ·rename_i hk2
    have:rt k=k % PK:=by unfold rt;rw[if_neg hk2]
    rw[<- this,hk]
  unfold jO
  rw[hp]
  congr 1
  refine zU l fun p hp' =>?_
  by_cases he:rt p.1=rt k
  ·rw[he,ax,ax]
  ·rw[aA _ _ he,aA _ _ he]
   exact hl p (aeI _ hp')
theorem zV:∀(l:List (Nat×Option Row)) {h:Nat->Option Row},∀p∈jO h l,∃q∈l,p.1=rt q.1
 | [],_,p,hp=>by simp[jO]at hp
 | (k,r)::l,h,p,hp=>by
  unfold jO at hp
  rcases ado.1 hp with rfl|hp
  ·exact⟨(k,r),by simp,rfl⟩
  ·obtain⟨q,h1,h2⟩:=zV l p hp
   exact⟨q,aeI _ h1,h2⟩
theorem Uh {τ:Ty} {p d:D} {E:bM} (hE:lu τ e h p d=some E):∀q∈E.hw,q.1<PK∧(q.1∈nm p∨q.1∈nm d):=by
 unfold lu at hE
 split at hE<;>try (cases hE;done)
 rename_i y0 v0 c0
 split at hE<;>try (cases hE;done)
 rename_i r ty s nv cs hl
 have hlt:=tJ hl
 split at hE<;>try (cases hE;done)
 have one:∀ {r':Option Row} (q:Nat×Option Row),q∈[(y0,r')]->q.1<PK∧(q.1∈nm (.ptr y0 v0 c0)∨q.1∈nm d):=by
  intro r' q hq
  simp only[adE]at hq
  subst hq
  exact⟨hlt,.inl (by simp[nm,gM])⟩
 have plain:∀ {c':Option (List D)},zf τ y0 r ty s nv cs c0 c'=some E->∀q∈E.hw,q.1<PK∧(q.1∈nm (.ptr y0 v0 c0)∨q.1∈nm d):=by
  intro c' hE
  unfold zf at hE
  split at hE<;>try (cases hE;done)
  split at hE<;>try (cases hE;done)
  cases hE
  exact one
 unfold vF at hE
 split at hE
 ·rename_i yq vq sq oq nq
  split at hE<;>try (cases hE;done)
  split at hE
  ·split at hE<;>try (cases hE;done)
   unfold zd at hE
   split at hE<;>try (cases hE;done)
   split at hE<;>try (cases hE;done)
   cases hE
   exact one
  ·split at hE<;>try (cases hE;done)
   rename_i hyp
   split at hE<;>try (cases hE;done)
   split at hE<;>try (cases hE;done)
   unfold ze at hE
   split at hE<;>try (cases hE;done)
   cases hE
   intro q hq
   rcases ado.1 hq with rfl|hq
   ·exact⟨hyp,.inr (by simp[nm,gM])⟩
   ·exact one q hq
 ·exact plain hE
theorem TI {τ:Ty} {d:D} (hx:∀x∈nm d,x<2*PK->h x=h' x):nf τ h d=nf τ h' d:=by
 unfold nf
 split
 ·rename_i x v o
  by_cases hp:x<2*PK
  ·rw[tI (hx x (by simp[nm,gM]) hp)]
  ·have hn:∀h:Nat->Option Row,iX h x v=none:=by
    intro h
    cases hl:iX h x v with
    | none=>rfl
    | some q=>have:=tJ hl;omega
   rw[hn,hn]
 ·rfl
theorem Ug {τ:Ty} {p d:D} (hp:∀x∈nm p,x<2*PK->h x=h' x) (hd:∀x∈nm d,x<2*PK->h x=h' x):lu τ e h p d=lu τ e h' p d:=by
 unfold lu
 split
 ·rename_i x v o
  by_cases hxp:x<2*PK
  rotate_left
  ·have hn:∀h:Nat->Option Row,iX h x v=none:=by
    intro h
    cases hl:iX h x v with
    | none=>rfl
    | some q=>have:=tJ hl;omega
   rw[hn,hn]
  rw[tI (hp x (by simp[nm,gM]) hxp)]
  split
  ·split
   ·unfold vF
    split
    ·rename_i y vy s' oy n
     by_cases hyp:y<2*PK
     ·rw[cq (hd y (by simp[nm,gM]) hyp)]
     ·split
      ·split
       ·rfl
       ·rw[if_neg (by have:=cR;omega),if_neg (by have:=cR;omega)]
      ·rfl
    ·rfl
   ·rfl
  ·rfl
 ·rfl
theorem fK {vs:Operand->D} {x:Nat} (hx:x∈gJ o vs):rt x∈bj o vs:=adg.2 ⟨x,hx,rfl⟩
theorem oV {vs:Operand->D} {y:Operand} (hy:y∈o.op.operands.toList) (h1:∀a b c,o.op ≠ .pick a b c) (h2:∀a,o.op ≠ .move a) (h3:∀a b c,o.op ≠ .makeFunc a b c) {x:Nat} (hx:x∈nm (vs y)):x∈gJ o vs:=by
 unfold gJ
 split
 ·rename_i ho;exact absurd ho (h2 _)
 ·rename_i ho;exact absurd ho (h1 _ _ _)
 ·rename_i ho;exact absurd ho (h3 _ _ _)
 ·exact adv _ (aeF.2 ⟨y,hy,hx⟩)
theorem Fg {vs:Operand->D} {q:D} {args:List D} (hc:gC vs o.op=some (q,args)) (hx:∀x∈bj o vs,h x=h' x):∀d∈args,∀x∈nm d,h (rt x)=h' (rt x):=by
 obtain⟨c,f,ho,hcc,_,hargs⟩:=mK hc
 subst hargs
 intro d hd x hxd
 obtain⟨y,hy,rfl⟩:=adg.1 hd
 exact hx _ (fK (oV (y:=y) (by simp[ho,Op.operands,Call.operands,hcc];exact .inr (by simpa using hy)) (by simp[ho]) (by simp[ho]) (by simp[ho]) hxd))
theorem JZ {g:Nat} {args:List D} (hx:∀d∈args,∀x∈nm d,h (rt x)=h' (rt x)):p9 Γ e h g args=p9 Γ e h' g args:=by
 unfold p9
 split
 ·rename_i x v c rest
  have hca:bk (EH h) rest=bk (EH h') rest:=iw fun d hd x hxd=>eK (hx d (aeI _ hd) x hxd)
  by_cases hp:x<2*PK
  ·have:=hx _ aeH x (by simp[nm,gM])
   rw[jP hp]at this
   rw[tI this,hca]
  ·have hn:∀h:Nat->Option Row,iX h x v=none:=by
    intro h
    cases hl:iX h x v with
    | none=>rfl
    | some q=>have:=tJ hl;omega
   rw[hn,hn]
 ·rfl
theorem KQ {vs:Operand->D} (hx:∀x∈bj o vs,h x=h' x):lY Γ e h o.dst (gC vs o.op)=lY Γ e h' o.dst (gC vs o.op):=by
 unfold lY
 split
 ·rename_i d g args hd hc
  unfold Cd
  split
  ·rw[iw fun d hd x hxd=>eK (Fg hc hx d hd x hxd)]
  ·rfl
 ·rfl
theorem OW {vs:Operand->D} (hx:∀x∈bj o vs,h x=h' x):tz T Γ e o vs h=tz T Γ e o vs h':=by
 unfold tz
 split
 ·rename_i ty p ho
  split
  ·exact TI fun x hxm hl=>by
    have:=hx _ (fK (oV (y:=p) (by simp[ho,Op.operands]) (by simp[ho]) (by simp[ho]) (by simp[ho]) hxm))
    rwa [jP hl]at this
  ·rfl
 ·rename_i ty p x ho
  split
  ·exact Ug (fun y hxm hl=>by
    have:=hx _ (fK (oV (y:=p) (by simp[ho,Op.operands]) (by simp[ho]) (by simp[ho]) (by simp[ho]) hxm))
    rwa [jP hl]at this) (fun y hxm hl=>by
    have:=hx _ (fK (oV (y:=x) (by simp[ho,Op.operands]) (by simp[ho]) (by simp[ho]) (by simp[ho]) hxm))
    rwa [jP hl]at this)
  ·rfl
 ·rename_i c ho
  unfold zQ
  split
  ·rename_i g args hc
   exact JZ (Fg (by rw[ho];exact hc) hx)
  ·rfl
 ·rfl
theorem OT {vs:Operand->D} (hx:∀x∈bj o vs,h x=h' x):oX T Γ e o vs h=oX T Γ e o vs h':=by
 have h1:lX T Γ e o vs (EH h)=lX T Γ e o vs (EH h'):=To fun x hxm=>eK (hx _ (fK hxm))
 unfold oX
 rw[h1,OW hx,KQ hx]
 split
 ·rfl
 split
 ·rfl
 ·cases hE:lX T Γ e o vs (EH h') with
  | none=>rfl
  | some E =>
   simp only[XQ]
   rw[zU E.hw fun p hp=>hx _ (fK (FQ hE p hp))]
theorem OU {vs:Operand->D} {E:bM} (hE:oX T Γ e o vs h=some E):∀p∈E.hw,p.1∈bj o vs:=by
 unfold oX at hE
 split at hE
 ·rename_i E0 hmk
  simp only[adq]at hE
  subst hE
  unfold iP at hmk
  split at hmk<;>try (cases hmk;done)
  rename_i ty l c ho
  split at hmk<;>try (cases hmk;done)
  rename_i d hdst
  split at hmk<;>try (cases hmk;done)
  split at hmk<;>try (cases hmk;done)
  unfold mC at hmk
  split at hmk<;>try (cases hmk;done)
  split at hmk<;>try (cases hmk;done)
  split at hmk<;>try (cases hmk;done)
  rename_i hcond
  cases hmk
  intro p hp
  simp only[adE]at hp
  subst hp
  have hd:d∈gJ o vs:=by
   unfold gJ
   rw[ho]
   exact adw _ (by rw[hdst];simp)
  have:=fK hd
  rwa [jP (by have:=hcond.2.2.2.2.2.2.1;omega)]at this
 split at hE
 ·rename_i E0 hcf
  simp only[adq]at hE
  subst hE
  unfold lY at hcf
  split at hcf<;>try (cases hcf;done)
  rename_i d g args hdst hco
  obtain⟨c,f,hop,hcc,hq,hargs⟩:=mK hco
  unfold Cd at hcf
  split at hcf<;>try (cases hcf;done)
  obtain⟨_,_,_,_,_,_,_,_,_,hdp,rfl⟩:=wz hcf
  intro p hp
  simp only[adE]at hp
  subst hp
  have hd:d∈gJ o vs:=by
   unfold gJ
   rw[hop]
   exact adw _ (by rw[hdst];simp)
  have:=fK hd
  rwa [jP (by omega)]at this
 ·unfold XQ at hE
  split at hE
  ·rename_i v0 hw he
   simp only[adq]at hE
   subst hE
   intro p hp
   obtain⟨q,h1,h2⟩:=zV hw p hp
   rw[h2]
   exact fK (FQ he q h1)
  ·unfold tz at hE
   split at hE
   ·split at hE<;>try (cases hE;done)
    rw[FP hE]
    intro p hp
    simp at hp
   ·rename_i ty p x ho
    split at hE<;>try (cases hE;done)
    intro q hq
    obtain⟨q1,q2⟩:=Uh hE q hq
    have:q.1∈gJ o vs:=by
     rcases q2 with q2|q2
     ·exact oV (y:=p) (by simp[ho,Op.operands]) (by simp[ho]) (by simp[ho]) (by simp[ho]) q2
     ·exact oV (y:=x) (by simp[ho,Op.operands]) (by simp[ho]) (by simp[ho]) (by simp[ho]) q2
    have:=fK this
    rwa [jP (by omega)]at this
   ·rename_i c ho
    unfold zQ at hE
    split at hE<;>try (cases hE;done)
    rename_i g args hco
    obtain⟨c',f,hop,hcc,hq,hargs⟩:=mK hco
    cases hop
    obtain⟨x,v,o',rest,r,ty,s,nv,cs,p,ada,nv',d,cs',hag,hl,_,_,_,_,_,rfl⟩:=re hE
    have hlt:=tJ hl
    intro q hq
    simp only[adE]at hq
    subst hq
    obtain⟨y,hy,hyx⟩:∃y∈c.args.toList,vs y=.ptr x v o':=by
     have:(.ptr x v o':D)∈c.args.toList.map vs:=by rw[<- hargs,hag];exact aeH
     obtain⟨y,h1,h2⟩:=adg.1 this
     exact⟨y,h1,h2⟩
    have:x∈gJ o vs:=oV (y:=y) (by simp[ho,Op.operands,Call.operands,hcc];exact .inr (by simpa using hy)) (by simp[ho]) (by simp[ho]) (by simp[ho]) (by rw[hyx];simp[nm,gM])
    have:=fK this
    rwa [jP (by omega)]at this
   ·cases hE
theorem X8 {vs vs':Operand->D} (hx:∀y∈o.op.operands.toList,vs y=vs' y):oX T Γ e o vs h=oX T Γ e o vs' h∧bj o vs=bj o vs':=by
 obtain⟨h1,h2⟩:=Z2 (T:=T) (Γ:=Γ) (e:=e) (h:=EH h) hx
 have h3:iP T Γ e o vs=iP T Γ e o vs':=by
  unfold iP
  split
  ·rename_i ty l c ho
   rw[hx l (by simp[ho,Op.operands]),hx c (by simp[ho,Op.operands])]
  ·rfl
 have hco:∀c,o.op=.call c->gC vs (.call c)=gC vs' (.call c):=by
  intro c ho
  unfold gC
  simp only
  split
  ·rename_i f hf
   rw[hx f (by simp[ho,Op.operands,Call.operands,hf]),aeG fun y hy=>hx y (by simp[ho,Op.operands,Call.operands,hf];exact .inr (by simpa using hy))]
  ·rfl
 have h4:tz T Γ e o vs h=tz T Γ e o vs' h:=by
  unfold tz
  split
  ·rename_i ty p ho
   rw[hx p (by simp[ho,Op.operands])]
  ·rename_i ty p x ho
   rw[hx p (by simp[ho,Op.operands]),hx x (by simp[ho,Op.operands])]
  ·rename_i c ho
   rw[hco c ho]
  ·rfl
 have h5:gC vs o.op=gC vs' o.op:=by
  by_cases hc:∃c,o.op=.call c
  ·obtain⟨c,hc⟩:=hc
   rw[hc]
   exact hco c hc
  ·unfold gC
   split
   ·rename_i c ho;exact absurd ⟨c,ho⟩ hc
   ·rfl
 unfold oX bj
 rw[h1,h2,h3,h4,h5]
 exact⟨rfl,rfl⟩
end
structure jQ where
 tc:List Nat
 q:Bool
def tH (ops:Array Oper) (t:Nat->D) (o:Oper):Option Bool :=
 match o.guard with
 | none=>some true
 | some (j,want) =>
  match (ops[j]?).bind (·.dst) with
  | some g=>match t g with | .bool b=>some (b==want) | .skp=>some false|_=>none
  | none=>none
def dR (t:Nat->D) (dst:Option Nat) (d:D):Nat->D :=
 match dst with
 | none=>t
 | some i=>b6 t i d
def fits (N:Nat) (dst:Option Nat):Bool :=
 match dst with
 | none=>true
 | some i=>decide (i<N)
def uf (T:Nat->Option Ty) (Γ:Env) (N e:Nat) (ops:Array Oper) (o:Oper) (t:Nat->D) (h:Nat->Option Row):Option ((Nat->D)×(Nat->Option Row)×jQ) :=
 if fits N o.dst then
  match tH ops t o with
  | some true =>
   match oX T Γ e o (ev t) h with
   | some E=>some (dR t o.dst E.val,aH h E.hw,⟨bj o (ev t),E.hw.isEmpty⟩)
   | none=>none
  | some false=>some (dR t o.dst .skp,h,⟨[],true⟩)
  | none=>none
 else none
section
variable {P:Program} {T:Nat->Option Ty} {N:Nat} {M:Nat->Prop} {L:jR} {w0:World} {blk:Nat->Option (Nat×Nat)} {t:Nat->D} {h:Nat->Option Row} {a:Act} {w:World} {e:Nat} {o:Oper} {Γ:Env} {ops:Array Oper}
theorem xD {V:Nat->Nat->Prop} (hI:Inv N M L w0 blk V t h a w) {b:Bool} (hg:tH ops t o=some b):Region.wanted o (yielded ops a.tmps)=b:=by
 unfold tH at hg
 split at hg
 ·rename_i ho
  simp only[adq]at hg
  subst hg
  simp[Region.wanted,ho]
 ·rename_i j want ho
  split at hg
  ·rename_i g hgd
   split at hg
   ·rename_i b' hb
    simp only[adq]at hg
    subst hg
    have hs:=hI.slots g
    rw[hb]at hs
    have hv:=ux hs
    have hget:a.tmps[g]? = some (.bool b'):=by
     simp only[adm]at hv
     cases hx:a.tmps[g]? with
     | none=>rw[hx]at hv;cases hv
     | some v=>rw[hx]at hv;simp only[Option.getD_some]at hv;rw[hv]
    have hy:yielded ops a.tmps j=some b':=by
     unfold yielded
     rw[hgd]
     simp[hget]
    simp only[Region.wanted,ho,hy]
    cases b'<;>cases want<;>rfl
   ·rename_i hb
    simp only[adq]at hg
    subst hg
    have hs:=hI.slots g
    rw[hb]at hs
    have hv:a.tmps.getD g undef=undef:=hs
    have hy:yielded ops a.tmps j=none:=by
     unfold yielded
     rw[hgd]
     simp only[adm]at hv
     cases hx:a.tmps[g]? with
     | none=>simp only[Option.bind_some,hx]
     | some v=>rw[hx]at hv;simp only[Option.getD_some]at hv;subst hv;simp only[Option.bind_some,hx];rfl
    simp only[Region.wanted,ho,hy]
    cases want<;>rfl
   ·cases hg
  ·cases hg
theorem Inv.abi {V:Nat->Nat->Prop} (hI:Inv N M L w0 blk V t h a w) (hf:fits N o.dst=true) {d:D} {v:Value} (hx:RT w (Own M h blk) h blk V d v):Inv N M L w0 blk V (dR t o.dst d) h (a.put o.dst v) w:=by
 cases hd:o.dst with
 | none=>simpa [dR,Act.put] using hI
 | some i =>
  rw[hd]at hf
  exact hI.put (by simpa [fits] using hf) hx
theorem SJ (hT:js P T) (hΓ:bB P Γ) {done:List Nat} {t':Nat->D} {h':Nat->Option Row} {f:jQ} {K:Act->World->Prop} {Q:Exit->Act->World->Prop} (hI:D7 N M L w0 blk e done t h a w)
  (hs:uf T Γ N e ops o t h=some (t',h',f)) (hd:∀d,o.dst=some d->d∉done) (hK:∀a' w' blk',D7 N M L w0 blk' e (o.dst.toList++done) t' h' a' w'->K a' w') :
  if Region.wanted o (yielded ops a.tmps) then o.wp P a w K Q∨(o.asks P a w∧LetsOut Q) else K (a.put o.dst undef) w:=by
 unfold uf at hs
 split at hs
 ·rename_i hf
  split at hs
  ·rename_i hg
   rw[xD hI.inv hg]
   simp only[if_true]
   split at hs
   ·rename_i E hE
    simp only[adq,Prod.mk.injEq]at hs
    obtain⟨rfl,rfl,_⟩:=hs
    have:=OV hT hΓ hI (fun d hd'=>⟨hd d hd',by rw[hd']at hf;simpa [fits] using hf⟩) hE
    refine .inl (this.wp fun v w' hA =>?_)
    obtain⟨blk',hI',hR⟩:=hA
    exact hK _ _ blk' ⟨hI'.inv.abi hf hR,hI'.nv⟩
   ·cases hs
  ·rename_i hg
   rw[xD hI.inv hg]
   simp only[adR,if_false]
   simp only[adq,Prod.mk.injEq]at hs
   obtain⟨rfl,rfl,_⟩:=hs
   have hsub:∀x,x∈done->x∈o.dst.toList++done:=fun x hx=>adw _ hx
   exact hK _ _ blk ⟨(hI.inv.abi hf (d := .skp) (v:=undef) rfl).weaken fun x n hx=>hx.step (.refl e h) hsub,hI.nv.step (.refl e h) hsub⟩
  ·cases hs
 ·cases hs
theorem eF {x:Nat} : ∀ {l:List (Nat×Option Row)} {h:Nat->Option Row},(∀p∈l,p.1≠x)->aH h l x=h x
 | [],_,_=>rfl
 | (y,r)::l,h,hn=>by
  simp only[aH]
  rw[eF (fun p hp=>hn p (by simp[hp]))]
  exact aA _ _ (fun e=>hn (y,r) (by simp) e.symm)
theorem yF {x:Nat} : ∀ {l:List (Nat×Option Row)} {h h':Nat->Option Row},(∃p∈l,p.1=x)->aH h l x=aH h' l x
 | [],_,_,he=>by obtain⟨p,hp,_⟩:=he;simp at hp
 | (y,r)::l,h,h',he=>by
  simp only[aH]
  by_cases hl:∃p∈l,p.1=x
  ·exact yF hl
  ·have hn:∀p∈l,p.1≠x:=fun p hp hpx=>hl ⟨p,hp,hpx⟩
   rw[eF hn,eF hn]
   obtain⟨p,hp,hpx⟩:=he
   rcases ado.1 hp with rfl|hp
   ·simp only at hpx;subst hpx;rw[ax,ax]
   ·exact absurd hpx (hn p hp)
theorem JI {l l':List (Nat×Option Row)} {h:Nat->Option Row} (hd:∀p∈l,∀q∈l',p.1≠q.1):aH (aH h l) l'=aH (aH h l') l:=by
 funext x
 by_cases h1:∃p∈l,p.1=x
 ·obtain⟨p,hp,rfl⟩:=h1
  rw[eF (fun q hq e=>hd p hp q hq e.symm)]
  exact yF ⟨p,hp,rfl⟩
 ·have hn:∀p∈l,p.1≠x:=fun p hp hpx=>h1 ⟨p,hp,hpx⟩
  rw[eF hn]
  by_cases h2:∃p∈l',p.1=x
  ·exact yF h2
  ·have hn':∀p∈l',p.1≠x:=fun p hp hpx=>h2 ⟨p,hp,hpx⟩
   rw[eF hn',eF hn',eF hn]
theorem Uc {t:Nat->D} {x y:Option Nat} {v u:D} (hne:∀d,x=some d->y≠some d):dR (dR t x v) y u=dR (dR t y u) x v:=by
 cases x with
 | none=>rfl
 | some i =>
  cases y with
  | none=>rfl
  | some j=>exact XD t v u (fun e=>hne i rfl (by rw[e]))
theorem Ss {t:Nat->D} {x:Option Nat} {v:D} {s:Nat} (hne:x≠some s):dR t x v s=t s:=by
 cases x with
 | none=>rfl
 | some i=>exact aA _ _ (fun e=>hne (by rw[e]))
theorem N6 {t t1:Nat->D} {h h1:Nat->Option Row} {f:jQ} (hs:uf T Γ N e ops o t h=some (t1,h1,f)) :
  ∃v hw,t1=dR t o.dst v∧h1=aH h hw∧(∀p∈hw,p.1∈f.tc)∧(f.q=true->hw=[]) ∧
   ∀t' h',(∀s∈o.looksAt ops,t s=t' s)->(∀x∈f.tc,h x=h' x)->uf T Γ N e ops o t' h'=some (dR t' o.dst v,aH h' hw,f):=by
 have hgd:∀t':Nat->D,(∀s∈o.looksAt ops,t s=t' s)->tH ops t o=tH ops t' o:=by
  intro t' ht
  unfold tH
  split
  ·rfl
  ·rename_i j want ho
   split
   ·rename_i g hg
    rw[ht g (by simp[Oper.looksAt,ho,hg])]
   ·rfl
 have hvs:∀t':Nat->D,(∀s∈o.looksAt ops,t s=t' s)->∀y∈o.op.operands.toList,ev t y=ev t' y:=by
  intro t' ht y hy
  cases y with
  | tmp i=>exact ht i (by unfold Oper.looksAt;exact adv _ (List.mem_filterMap.2 ⟨_,hy,rfl⟩))
  | const v=>rfl
  | global g=>rfl
  | func f=>rfl
 unfold uf at hs
 split at hs
 ·rename_i hf
  split at hs
  ·rename_i hg
   split at hs
   ·rename_i E hE
    simp only[adq,Prod.mk.injEq]at hs
    obtain⟨rfl,rfl,rfl⟩:=hs
    refine⟨E.val,E.hw,rfl,rfl,OU hE,fun hq=>by simpa using hq,fun t' h' ht hh =>?_⟩
    obtain⟨e1,e2⟩:=X8 (T:=T) (Γ:=Γ) (e:=e) (h:=h) (hvs t' ht)
    have e3:oX T Γ e o (ev t') h'=some E:=by
     rw[<- hE,e1]
     exact (OT (fun x hx=>hh x (by rw[e2];exact hx))).symm
    unfold uf
    rw[if_pos hf,<- hgd t' ht,hg]
    simp only[e3,e2]
   ·cases hs
  ·rename_i hg
   simp only[adq,Prod.mk.injEq]at hs
   obtain⟨rfl,rfl,rfl⟩:=hs
   refine⟨.skp,[],rfl,rfl,fun p hp=>by simp at hp,fun _=>rfl,fun t' h' ht hh =>?_⟩
   unfold uf
   rw[if_pos hf,<- hgd t' ht,hg]
   rfl
  ·cases hs
 ·cases hs
def Oy (T:Nat->Option Ty) (Γ:Env) (N e:Nat) (ops:Array Oper) (F:Nat->jQ):List Nat->(Nat->D)->(Nat->Option Row)->(Nat->D)->(Nat->Option Row)->Prop
 | [],t,h,t',h'=>t=t'∧h=h'
 | i::L,t,h,t',h'=>∃o t1 h1,ops[i]? = some o∧uf T Γ N e ops o t h=some (t1,h1,F i)∧Oy T Γ N e ops F L t1 h1 t' h'
def X3 (l l':List Nat):Bool:=l.all fun x => !l'.contains x
structure QK (ops:Array Oper) (F:Nat->jQ) (j i:Nat):Prop where
 apart:∀oj oi,ops[j]? = some oj->ops[i]? = some oi->oj.apart ops oi=true
 foot:((F j).q&&(F i).q||X3 (F j).tc (F i).tc)=true
theorem swap {F:Nat->jQ} {i j:Nat} {L:List Nat} {t t':Nat->D} {h h':Nat->Option Row} (hr:Oy T Γ N e ops F (j::i::L) t h t' h') (hi:QK ops F j i):Oy T Γ N e ops F (i::j::L) t h t' h':=by
 obtain⟨oj,t1,h1,hoj,hsj,oi,t2,h2,hoi,hsi,hrest⟩:=hr
 obtain⟨a1,a2,a3⟩:=Oper.apart_spec (hi.apart oj oi hoj hoi)
 obtain⟨vj,wj,rfl,rfl,nj,qj,locj⟩:=N6 hsj
 obtain⟨vi,wi,rfl,rfl,ni,qi,loci⟩:=N6 hsi
 have hfoot:=hi.foot
 simp only[aeM,adS]at hfoot
 have d1:∀x∈(F i).tc,∀p∈wj,p.1≠x:=by
  intro x hx p hp he
  rcases hfoot with⟨h1,_⟩|h1
  ·rw[qj h1]at hp;simp at hp
  ·simp only[X3,ads]at h1
   have:=h1 p.1 (nj p hp)
   rw[he]at this
   simp[hx]at this
 have d2:∀x∈(F j).tc,∀p∈wi,p.1≠x:=by
  intro x hx p hp he
  rcases hfoot with⟨_,h1⟩|h1
  ·rw[qi h1]at hp;simp at hp
  ·simp only[X3,ads]at h1
   have:=h1 x hx
   have hm:=ni p hp
   rw[he]at hm
   simp[hm]at this
 have hsi':=loci t h (fun s hs=>Ss (fun hd=>a1 s hd hs)) (fun x hx=>eF (d1 x hx))
 have hsj':=locj (dR t oi.dst vi) (aH h wi) (fun s hs=>(Ss (fun hd=>a3 s hd hs)).symm) (fun x hx=>(eF (d2 x hx)).symm)
 refine⟨oi,_,_,hoi,hsi',oj,_,_,hoj,hsj',?_⟩
 rw[Uc (x:=oi.dst) (y:=oj.dst) (fun d hd hd'=>a2 d hd' hd),JI (l:=wi) (l':=wj) (fun p hp q hq he=>d1 p.1 (ni p hp) q hq he.symm)]
 exact hrest
theorem front {F:Nat->jQ} {i:Nat} {post:List Nat} : ∀ {pre:List Nat} {t t':Nat->D} {h h':Nat->Option Row},Oy T Γ N e ops F (pre++i::post) t h t' h'->(∀j∈pre,QK ops F j i)->Oy T Γ N e ops F (i::(pre++post)) t h t' h'
 | [],_,_,_,_,hr,_=>hr
 | j::pre,t,t',h,h',hr,hi=>by
  obtain⟨oj,t1,h1,hoj,hsj,hrest⟩:=hr
  have ih:=front (pre:=pre) hrest (fun k hk=>hi k (by simp[hk]))
  exact swap ⟨oj,t1,h1,hoj,hsj,ih⟩ (hi j (by simp))
def direct (o:Oper):List Nat:=(o.after.toList.filter (Region.binds .any)).map (·.on)
def uA:List Oper->List (List Nat)->List (List Nat)
 | [],acc=>acc
 | o::l,acc=>uA l (acc++[direct o++(direct o).flatMap fun k=>acc.getD k []])
def Z0 (ops:Array Oper):List (List Nat):=uA ops.toList []
theorem BK (S:Nat->Prop):∀(l:List Oper) (acc:List (List Nat)) (k:Nat),k=acc.length->(∀i j,j∈acc.getD i []->i<k->(∀m o,ops[m]? = some o->S m->∀d∈direct o,S d)->(∀o,ops[i]? = some o->∀d∈direct o,S d)->S j) ->
  (∀j,l[j]? = ops[k+j]?)->∀i j,j∈(uA l acc).getD i []->(∀m o,ops[m]? = some o->S m->∀d∈direct o,S d)->(∀o,ops[i]? = some o->∀d∈direct o,S d)->S j
 | [],acc,k,hk,hacc,hl,i,j,hj,hS,hi=>by
  simp only[uA]at hj
  by_cases hik:i<k
  ·exact hacc i j hj hik hS hi
  ·have:acc.getD i []=[]:=by simp[List.getD,aeN (show acc.length<=i by omega)]
   rw[this]at hj
   simp at hj
 | o::l,acc,k,hk,hacc,hl,i,j,hj,hS,hi=>by
  simp only[uA]at hj
  refine BK S l _ (k+1) (by simp[hk]) ?_ (fun j=>by have:=hl (j+1);simpa [adC,Nat.add_comm 1 j] using this) i j hj hS hi
  intro i' j' hj' hik' hS' hi'
  by_cases hlt:i'<k
  ·have:(acc++[direct o++(direct o).flatMap fun k=>acc.getD k []]).getD i' []=acc.getD i' []:=by
    simp[List.getD,adV (show i'<acc.length by omega)]
   rw[this]at hj'
   exact hacc i' j' hj' hlt hS' hi'
  ·obtain rfl:i'=k:=by omega
   have:(acc++[direct o++(direct o).flatMap fun k=>acc.getD k []]).getD i' []=direct o++(direct o).flatMap fun k=>acc.getD k []:=by
    simp[List.getD,adW (show acc.length<=i' by omega),hk]
   rw[this]at hj'
   have ho:ops[i']? = some o:=by have:=hl 0;simpa using this.symm
   rcases aep.1 hj' with hd|hd
   ·exact hi' o ho j' hd
   ·obtain⟨m,hm,hmj⟩:=aeF.1 hd
    have hSm:=hi' o ho m hm
    by_cases hmk:m<i'
    ·exact hacc m j' hmj hmk hS' (fun o' ho' d hd'=>hS' m o' ho' hSm d hd')
    ·have:acc.getD m []=[]:=by simp[List.getD,aeN (show acc.length<=m by omega)]
     rw[this]at hmj
     simp at hmj
theorem X1 {S:Nat->Prop} {i j:Nat} (hj:j∈(Z0 ops).getD i []) (hS:∀m o,ops[m]? = some o->S m->∀d∈direct o,S d) (hi:∀o,ops[i]? = some o->∀d∈direct o,S d):S j :=
 BK S ops.toList [] 0 rfl (fun i j hj _ _ _=>by simp at hj) (fun j=>by simp) i j hj hS hi
def Vs (acc:List Nat):List Nat->Nat
 | []=>0
 | k::l=>(2 ^ k ||| acc.getD k 0) ||| Vs acc l
def BL:List Oper->List Nat->List Nat
 | [],acc=>acc
 | o::l,acc=>BL l (acc++[Vs acc (direct o)])
def Ro (ops:Array Oper):List Nat:=BL ops.toList []
theorem Rs {acc:List Nat} {j:Nat} : ∀ {l:List Nat},(Vs acc l).testBit j=true->j∈l∨∃k∈l,(acc.getD k 0).testBit j=true
 | [],h=>by simp[Vs]at h
 | k::l,h=>by
  simp only[Vs,Nat.testBit_or,aeM,Nat.testBit_two_pow,decide_eq_true_eq]at h
  rcases h with (rfl|h)|h
  ·exact .inl (aeH ..)
  ·exact .inr ⟨k,aeH ..,h⟩
  ·rcases Rs h with h|⟨k',h1,h2⟩
   ·exact .inl (aeI _ h)
   ·exact .inr ⟨k',aeI _ h1,h2⟩
theorem zC:∀(l:List Oper) (accM:List Nat) (acc:List (List Nat)),accM.length=acc.length->(∀i j,(accM.getD i 0).testBit j=true->j∈acc.getD i [])->∀i j,((BL l accM).getD i 0).testBit j=true->j∈(uA l acc).getD i []
 | [],_,_,_,h,i,j,hj=>h i j hj
 | o::l,accM,acc,hl,h,i,j,hj=>by
  refine zC l _ _ (by simp[hl]) (fun i' j' hj' =>?_) i j hj
  by_cases h1:i'<accM.length
  ·rw[adU,adV h1,<- adU]at hj'
   rw[adU,adV (by omega),<- adU]
   exact h i' j' hj'
  ·by_cases h2:i'=accM.length
   ·subst h2
    rw[adU,adW (adh _),ael]at hj'
    simp only[List.getElem?_cons_zero,Option.getD_some]at hj'
    rw[hl,adU,adW (adh _),ael]
    simp only[List.getElem?_cons_zero,Option.getD_some,aep,aeF]
    rcases Rs hj' with hj'|⟨k,hk,hj'⟩
    ·exact .inl hj'
    ·exact .inr ⟨k,hk,h k j' hj'⟩
   ·rw[adU,aeN (by simp;omega)]at hj'
    simp at hj'
theorem Vi {i j:Nat} (h:((Ro ops).getD i 0).testBit j=true):j∈(Z0 ops).getD i [] :=
 zC ops.toList [] [] rfl (fun i j h=>by simp at h) i j h
def QN (ops:Array Oper) (F:Nat->jQ):Prop:=∀j i,j<i->i<ops.size->j∈(Z0 ops).getD i []∨QK ops F j i
theorem Uq (hT:js P T) (hΓ:bB P Γ) {F:Nat->jQ} {Q:Exit->Act->World->Prop} {t':Nat->D} {h':Nat->Option Row} (hp:QN ops F) (hedge:∀i o,ops[i]? = some o->∀d∈direct o,d<i)
  (hdst:∀(i j:Nat) (oi oj:Oper) (d:Nat),ops[i]? = some oi->ops[j]? = some oj->oi.dst=some d->oj.dst=some d->i=j) (hQ:∀a' w' blk' done,D7 N M L w0 blk' e done t' h' a' w'->Q .normal a' w') :
  ∀(n:Nat) (LL:List Nat) (listed:Array Bool) (t:Nat->D) (h:Nat->Option Row) (a:Act) (w:World) (blk:Nat->Option (Nat×Nat)) (done:List Nat),LL.length=n->(∀i,i∈LL↔listed.getD i true=false)->LL.Pairwise (· < ·)->(∀i∈LL,i<ops.size)->listed.size=ops.size ->
   (∀i o,ops[i]? = some o->listed.getD i false=true->∀d∈direct o,listed.getD d false=true)->(∀d∈done,∃i o,ops[i]? = some o∧o.dst=some d∧listed.getD i false=true) ->
   Oy T Γ N e ops F LL t h t' h'->D7 N M L w0 blk e done t h a w->wpAny P .any ops Q n listed a w:=by
 intro n
 induction n with
 | zero =>
  intro LL listed t h a w blk done hn hL hs hlt hsz hdown hdone hr hI
  have:LL=[]:=aeq hn
  subst this
  obtain⟨rfl,rfl⟩:=hr
  refine⟨?_,hQ a w blk done hI⟩
  refine List.eq_nil_iff_forall_not_mem.2 fun i hi =>?_
  have:=(mem_ready.1 hi).1
  exact absurd ((hL i).2 this) (by simp)
 | succ n ih =>
  intro LL listed t h a w blk done hn hL hs hlt hsz hdown hdone hr hI
  refine⟨fun hempty =>?_,fun i hi =>?_⟩
  ·cases LL with
   | nil=>simp at hn
   | cons i LL =>
    obtain⟨o,t1,h1,ho,_⟩:=hr
    have hready:i∈Region.ready .any ops listed:=by
     refine mem_ready.2 ⟨(hL i).1 (by simp),o,ho,fun ed hed hb =>?_⟩
     have hd:ed.on∈direct o:=adg.2 ⟨ed,aeO.2 ⟨by simpa using hed,hb⟩,rfl⟩
     have hlt':=hedge i o ho _ hd
     by_cases hm:ed.on∈i::LL
     ·rcases ado.1 hm with hm|hm
      ·omega
      ·have:=(aeP.1 hs).1 _ hm
       omega
     ·have h1:¬listed.getD ed.on true=false:=fun hf=>hm ((hL _).2 hf)
      have h2:ed.on<listed.size:=by rw[hsz];have:=hlt i (by simp);omega
      have:listed.getD ed.on true=listed.getD ed.on false:=by simp[Array.getD,h2]
      rw[<- this]
      simpa using h1
    rw[hempty]at hready
    simp at hready
  ·obtain⟨hi0,o,ho,hneeds⟩:=mem_ready.1 hi
   have hiL:i∈LL:=(hL i).2 hi0
   obtain⟨pre,post,rfl⟩:=List.append_of_mem hiL
   have hisz:i<listed.size:=by rw[hsz];exact hlt i hiL
   have hdirect:∀d∈direct o,listed.getD d false=true:=by
    intro d hd
    obtain⟨ed,hed,rfl⟩:=adg.1 hd
    obtain⟨h1,h2⟩:=aeO.1 hed
    exact hneeds ed (by simpa using h1) h2
   have hind:∀j∈pre,QK ops F j i:=by
    intro j hj
    have hji:j<i:=by
     have:=aeQ.1 hs
     exact this.2.2 j hj i (by simp)
    rcases hp j i hji (hlt i hiL) with hc|hc
    ·have hjl:listed.getD j false=true:=X1 (S:=fun m=>listed.getD m false=true) hc (fun m om hm hSm d hd=>hdown m om hm hSm d hd) (fun o' ho' d hd=>by
      rw[ho]at ho'
      cases ho'
      exact hdirect d hd)
     have hjt:=(hL j).1 (by simp[hj])
     have hjs:j<listed.size:=by omega
     have:listed.getD j true=listed.getD j false:=by simp[Array.getD,hjs]
     rw[this,hjl]at hjt
     cases hjt
    ·exact hc
   obtain⟨o',t1,h1,ho',hstep,hrest⟩:=front hr hind
   rw[ho]at ho'
   cases ho'
   unfold wpOp
   simp only[ho]
   refine SJ hT hΓ hI hstep (fun d hd hdd =>?_) (fun a' w' blk' hI' =>?_)
   ·obtain⟨k,ok,hk,hkd,hkl⟩:=hdone d hdd
    have:=hdst i k o ok d ho hk hd hkd
    subst this
    have:listed.getD i true=listed.getD i false:=by simp[Array.getD,hisz]
    rw[this,hkl]at hi0
    cases hi0
   ·have hset:∀k,(listed.setIfInBounds i true).getD k false=true↔k=i∨listed.getD k false=true:=by
     intro k
     by_cases hki:k=i
     ·subst hki;simp[hisz]
     ·rw[getD_set_ne false (Ne.symm hki)];simp[hki]
    have hset2:∀k,(listed.setIfInBounds i true).getD k true=false↔k≠i∧listed.getD k true=false:=by
     intro k
     by_cases hki:k=i
     ·subst hki;simp[hisz]
     ·rw[getD_set_ne true (Ne.symm hki)];simp[hki]
    have hnd:(pre++i::post).Nodup:=hs.imp (fun h=>Nat.ne_of_lt h)
    refine ih (pre++post) (listed.setIfInBounds i true) t1 h1 a' w' blk' _ (by simp at hn ⊢;omega) (fun k =>?_) ?_ (fun k hk=>hlt k (by simp at hk ⊢;rcases hk with hk|hk<;>simp[hk])) (by simpa using hsz) (fun k ok hk hkl d hd =>?_) (fun d hd =>?_) hrest hI'
    ·rw[hset2]
     constructor
     ·intro hk
      have hkL:k∈pre++i::post:=by simp at hk ⊢;rcases hk with hk|hk<;>simp[hk]
      refine⟨fun e =>?_,(hL k).1 hkL⟩
      subst e
      have:=List.nodup_append.1 hnd
      simp only[aeR]at this
      rcases aep.1 hk with hk|hk
      ·exact this.2.2 k hk k (by simp) rfl
      ·exact this.2.1.1 hk
     ·rintro⟨hk,hkl⟩
      have:=(hL k).2 hkl
      simp only[aep,ado]at this ⊢
      rcases this with h|h|h
      ·exact .inl h
      ·exact absurd h hk
      ·exact .inr h
    ·refine List.Pairwise.sublist ?_ hs
     exact List.Sublist.append_left (List.sublist_cons_self _ _) _
    ·rw[hset]
     rcases (hset k).1 hkl with rfl|hkl
     ·rw[ho]at hk;cases hk;exact .inr (hdirect d hd)
     ·exact .inr (hdown k ok hk hkl d hd)
    ·rcases aep.1 hd with hd|hd
     ·exact⟨i,o,ho,by simpa using hd,(hset i).2 (.inl rfl)⟩
     ·obtain⟨k,ok,hk,hkd,hkl⟩:=hdone d hd
      exact⟨k,ok,hk,hkd,(hset k).2 (.inr hkl)⟩
end
def AO (T:Nat->Option Ty) (Γ:Env) (N e:Nat) (ops:Array Oper):List Oper->(Nat->D)->(Nat->Option Row)->Option ((Nat->D)×(Nat->Option Row)×List jQ)
 | [],t,h=>some (t,h,[])
 | o::l,t,h =>
  match uf T Γ N e ops o t h with
  | some (t1,h1,f) =>
   match AO T Γ N e ops l t1 h1 with
   | some (t2,h2,fs)=>some (t2,h2,f::fs)
   | none=>none
  | none=>none
def IX:List Nat->Bool
 | []=>true
 | x::l => !l.contains x&&IX l
def VD (ops:Array Oper):Bool:=IX (ops.toList.filterMap (·.dst))
def QY (ops:Array Oper) (j i:Nat):Bool :=
 match ops[j]?,ops[i]? with
 | some oj,some oi=>oj.apart ops oi
 | _,_=>true
def OS (ops:Array Oper):Bool :=
 (ops.toList.zipIdx.all fun p=>(direct p.1).all fun d=>decide (d<p.2)) &&
 ((List.range ops.size).all fun i=>(List.range i).all fun j=>((Ro ops).getD i 0).testBit j||QY ops j i)
def GV (ops:Array Oper):List (Nat×Nat):=(List.range ops.size).flatMap fun i=>((List.range i).filter fun j => !((Ro ops).getD i 0).testBit j).map fun j=>(j,i)
def WA (fs:List jQ) (p:Nat×Nat):Bool :=
 match fs[p.1]?,fs[p.2]? with
 | some f,some g=>f.q&&g.q||X3 f.tc g.tc
 | _,_=>false
def B5 (ops:Array Oper) (fs:List jQ):Bool:=(GV ops).all (WA fs)
inductive Ex where
 | normal
 | exit (n:Nat)
 | ret
structure St where
 t:Nat->D
 h:Nat->Option Row
 e:Nat
def iter (f:St->Option (Ex×St)):Nat->St->Option (Ex×St)
 | 0,_=>none
 | n+1,s =>
  match f s with
  | some (.normal,s1)=>iter f n s1
  | r=>r
def vv (T:Nat->Option Ty) (Γ:Env) (N:Nat) (ops:Array Oper) (draw:Bool) (s:St):Option (Ex×St) :=
 match AO T Γ N s.e ops ops.toList s.t s.h with
 | some (t,h,fs)=>if !draw||B5 ops fs then some (.normal,⟨t,h,s.e+1⟩) else none
 | none=>none
def Og (d:D) (x y:Option (Ex×St)):Option (Ex×St) :=
 match d with
 | .bool b=>if b then x else y
 | _=>none
def ab0 (r:Option (Ex×St)) (k:St->Option (Ex×St)):Option (Ex×St) :=
 match r with
 | some (.normal,s)=>k s
 | r=>r
def QB (id:Nat) (r:Option (Ex×St)):Option (Ex×St) :=
 match r with
 | some (.exit n,s)=>if n=id then some (.normal,s) else some (.exit n,s)
 | r=>r
def fT (T:Nat->Option Ty) (Γ:Env) (N F:Nat):Code->St->Option (Ex×St)
 | .skip,s=>some (.normal,s)
 | .region _ ops draw,s=>vv T Γ N ops draw s
 | .seq a b,s=>ab0 (fT T Γ N F a s) (fT T Γ N F b)
 | .cond c x y,s=>Og (ev s.t c) (fT T Γ N F x s) (fT T Γ N F y s)
 | .block id b,s=>QB id (fT T Γ N F b s)
 | .loop b,s=>iter (fT T Γ N F b) F s
 | .exit id,s=>some (.exit id,s)
 | .ret,s=>some (.ret,s)
 | _,_=>none
def codeOk:Code->Bool
 | .region _ ops draw=>VD ops&&(!draw||OS ops)
 | .seq a b=>codeOk a&&codeOk b
 | .cond _ x y=>codeOk x&&codeOk y
 | .block _ b=>codeOk b
 | .loop b=>codeOk b
 | _=>true
section
variable {P:Program} {T:Nat->Option Ty} {N:Nat} {M:Nat->Prop} {L:jR} {w0:World} {blk:Nat->Option (Nat×Nat)} {t:Nat->D} {h:Nat->Option Row} {a:Act} {w:World} {e:Nat} {o:Oper} {Γ:Env} {ops:Array Oper}
theorem GN:∀ {l:List Nat},IX l=true->l.Nodup
 | [],_=>List.nodup_nil
 | x::l,h=>by
  simp only[IX,adS,adT,List.contains_eq_mem,decide_eq_false_iff_not]at h
  exact aeR.2 ⟨h.1,GN h.2⟩
theorem Ed:∀ {l:List Oper} {done:List Nat},(l.filterMap (·.dst)).Nodup->(∀o∈l,∀d,o.dst=some d->d∉done)->∀o l',l=o::l'->(l'.filterMap (·.dst)).Nodup∧∀o'∈l',∀d,o'.dst=some d->d∉o.dst.toList++done:=by
 intro l done hn hd o l' he
 subst he
 cases ho:o.dst with
 | none =>
  rw[List.filterMap_cons_none ho]at hn
  exact⟨hn,fun o' ho' d hd'=>by simpa using hd o' (by simp[ho']) d hd'⟩
 | some x =>
  rw[List.filterMap_cons_some ho]at hn
  obtain⟨h1,h2⟩:=aeR.1 hn
  refine⟨h2,fun o' ho' d hd' hm =>?_⟩
  simp only[Option.toList_some,List.singleton_append,ado]at hm
  rcases hm with rfl|hm
  ·exact h1 (List.mem_filterMap.2 ⟨o',ho',hd'⟩)
  ·exact hd o' (by simp[ho']) d hd' hm
theorem D3 (hT:js P T) (hΓ:bB P Γ) {Q:Exit->Act->World->Prop} : ∀ {l:List Oper} {t t':Nat->D} {h h':Nat->Option Row} {fs:List jQ} {a:Act} {w:World} {blk:Nat->Option (Nat×Nat)} {done:List Nat},
  AO T Γ N e ops l t h=some (t',h',fs)->(l.filterMap (·.dst)).Nodup->(∀o∈l,∀d,o.dst=some d->d∉done)->D7 N M L w0 blk e done t h a w ->
  (∀a' w' blk' done,D7 N M L w0 blk' e done t' h' a' w'->Q .normal a' w')->wpList P ops Q l a w
 | [],t,t',h,h',fs,a,w,blk,done,hr,_,_,hI,hQ=>by
  simp only[AO,adq,Prod.mk.injEq]at hr
  obtain⟨rfl,rfl,_⟩:=hr
  exact hQ a w blk done hI
 | o::l,t,t',h,h',fs,a,w,blk,done,hr,hn,hd,hI,hQ=>by
  simp only[AO]at hr
  split at hr
  ·rename_i t1 h1 f hs
   split at hr
   ·rename_i t2 h2 fs2 hr2
    simp only[adq,Prod.mk.injEq]at hr
    obtain⟨rfl,rfl,_⟩:=hr
    obtain⟨hn',hd'⟩:=Ed hn hd o l rfl
    have:=SJ (K:=wpList P ops Q l) (Q:=Q) hT hΓ hI hs (hd o (by simp)) (fun a' w' blk' hI'=>D3 hT hΓ hr2 hn' hd' hI' hQ)
    unfold wpList
    exact this
   ·cases hr
  ·cases hr
theorem yd {F:Nat->jQ} : ∀ {l:List Oper} {k:Nat} {t t':Nat->D} {h h':Nat->Option Row} {fs:List jQ},AO T Γ N e ops l t h=some (t',h',fs)->(∀j,l[j]? = ops[k+j]?)->(∀j f,fs[j]? = some f->F (k+j)=f) ->
  fs.length=l.length∧Oy T Γ N e ops F (List.range' k l.length) t h t' h'
 | [],k,t,t',h,h',fs,hr,_,_=>by
  simp only[AO,adq,Prod.mk.injEq]at hr
  obtain⟨rfl,rfl,rfl⟩:=hr
  exact⟨rfl,rfl,rfl⟩
 | o::l,k,t,t',h,h',fs,hr,hl,hF=>by
  simp only[AO]at hr
  split at hr
  ·rename_i t1 h1 f hs
   split at hr
   ·rename_i t2 h2 fs2 hr2
    simp only[adq,Prod.mk.injEq]at hr
    obtain⟨rfl,rfl,rfl⟩:=hr
    obtain⟨i1,i2⟩:=yd (k:=k+1) hr2 (fun j=>by have:=hl (j+1);simpa [adC,Nat.add_comm 1 j] using this) (fun j f' hj=>by have:=hF (j+1) f' (by simpa using hj);rwa [show k+(j+1)=k+1+j by omega]at this)
    refine⟨by simp[i1],o,t1,h1,by have:=hl 0;simpa using this.symm,?_,i2⟩
    have:=hF 0 f rfl
    rw[adQ]at this
    rw[this]
    exact hs
   ·cases hr
  ·cases hr
def Holds (N:Nat) (M:Nat->Prop) (L:jR) (w0:World) (s:St) (a:Act) (w:World):Prop:=∃blk,D7 N M L w0 blk s.e [] s.t s.h a w
theorem EK (hT:js P T) (hΓ:bB P Γ) (hm:P.follows .mixedOrders=true) {id:Nat} {draw:Bool} {s:St} {x:Ex} {s':St} {Q:Exit->Act->World->Prop} (hr:vv T Γ N ops draw s=some (x,s')) (hok:(VD ops&&(!draw||OS ops))=true)
  (hH:Holds N M L w0 s a w) (hQ:∀a' w',Holds N M L w0 s' a' w'->Q .normal a' w'):x=.normal∧(Code.region id ops draw).wp P Q a w:=by
 unfold vv at hr
 split at hr
 ·rename_i t h fs hrun
  split at hr
  ·rename_i hdyn
   simp only[adq,Prod.mk.injEq]at hr
   obtain⟨rfl,rfl⟩:=hr
   refine⟨rfl,?_⟩
   simp only[adS]at hok
   have hnd:(ops.toList.filterMap (·.dst)).Nodup:=GN hok.1
   obtain⟨blk,hI⟩:=hH
   have hfin:∀a' w' blk' done,D7 N M L w0 blk' s.e done t h a' w'->Q .normal a' w':=by
    intro a' w' blk' done hI'
    refine hQ a' w' ⟨blk',hI'.inv.weaken fun x v hx =>?_,fun x r ty s nv cs k1 k2 k3 k4 =>?_⟩
    ·rcases hx with⟨hn,hx|⟨hx,_⟩⟩|⟨hn,h2,h3,h4⟩
     ·exact .inl ⟨hn,.inl (by simp only;omega)⟩
     ·exact .inl ⟨hn,.inl (by simp only;omega)⟩
     ·exact .inr ⟨hn,by simp only;omega,fun _=>by simp only;omega,h4⟩
    ·have:=hI'.nv x r ty s nv cs k1 k2 k3 k4
     exact⟨by simp only;omega,fun _=>by simp only;omega⟩
   cases draw with
   | false =>
    refine wp_region_list ?_
    exact D3 hT hΓ hrun hnd (done:=[]) (fun o _ d _=>by simp) hI hfin
   | true =>
    simp only[aeC,Bool.false_or]at hdyn hok
    refine wp_region_any hm ?_
    have hdr:=hok.2
    simp only[OS,adS]at hdr
    let F:Nat->jQ:=fun i=>fs.getD i ⟨[],true⟩
    obtain⟨hlen,hRun⟩:=yd (F:=F) (k:=0) hrun (fun j=>by simp) (fun j f hj=>by simp[F,List.getD,hj])
    have hedge:∀i o,ops[i]? = some o->∀d∈direct o,d<i:=by
     intro i o ho d hd
     have h1:=hdr.1
     rw[ads]at h1
     have hmem:(o,i)∈ops.toList.zipIdx:=by
      rw[List.mem_zipIdx_iff_getElem?]
      simpa using ho
     have:=h1 _ hmem
     rw[ads]at this
     simpa using this d hd
    have hdst:∀(i j:Nat) (oi oj:Oper) (d:Nat),ops[i]? = some oi->ops[j]? = some oj->oi.dst=some d->oj.dst=some d->i=j:=by
     have key:∀(l:List Oper),(l.filterMap (·.dst)).Nodup->∀(i j:Nat) (oi oj:Oper) (d:Nat),l[i]? = some oi->l[j]? = some oj->oi.dst=some d->oj.dst=some d->i=j:=by
      intro l
      induction l with
      | nil=>intro _ i j oi oj d hi;simp at hi
      | cons o l ih =>
       intro hn i j oi oj d hi hj hdi hdj
       have hn':(l.filterMap (·.dst)).Nodup:=by
        cases ho:o.dst with
        | none=>rw[List.filterMap_cons_none ho]at hn;exact hn
        | some x=>rw[List.filterMap_cons_some ho]at hn;exact (aeR.1 hn).2
       have hnot:∀(k:Nat) (ok:Oper),l[k]? = some ok->o.dst=some d->ok.dst=some d->False:=by
        intro k ok hk ho hkd
        rw[List.filterMap_cons_some ho]at hn
        exact (aeR.1 hn).1 (List.mem_filterMap.2 ⟨ok,adJ hk,hkd⟩)
       cases i with
       | zero =>
        simp only[List.getElem?_cons_zero,adq]at hi
        subst hi
        cases j with
        | zero=>rfl
        | succ j=>exact (hnot j oj (by simpa using hj) hdi hdj).elim
       | succ i =>
        cases j with
        | zero =>
         simp only[List.getElem?_cons_zero,adq]at hj
         subst hj
         exact (hnot i oi (by simpa using hi) hdj hdi).elim
        | succ j=>rw[ih hn' i j oi oj d (by simpa using hi) (by simpa using hj) hdi hdj]
     intro i j oi oj d hi hj
     exact key ops.toList hnd i j oi oj d (by simpa using hi) (by simpa using hj)
    have hpairs:QN ops F:=by
     intro j i hji hi
     by_cases hc:((Ro ops).getD i 0).testBit j=true
     ·exact .inl (Vi hc)
     ·refine .inr ⟨fun oj oi hoj hoi =>?_,?_⟩
      ·have h2:=hdr.2
       rw[ads]at h2
       have:=h2 i (aeS.2 hi)
       rw[ads]at this
       have:=this j (aeS.2 hji)
       simp only[aeM]at this
       rcases this with h'|h'
       ·exact absurd h' hc
       ·simpa [QY,hoj,hoi] using h'
      ·rw[B5,ads]at hdyn
       have hmem:(j,i)∈GV ops:=by
        refine aeF.2 ⟨i,aeS.2 hi,adg.2 ⟨j,aeO.2 ⟨aeS.2 hji,?_⟩,rfl⟩⟩
        simpa using hc
       have:=hdyn _ hmem
       have hi':i<fs.length:=by rw[hlen];simpa using hi
       have hj':j<fs.length:=by omega
       simp only[WA,adu hj',adu hi']at this
       simp only[F,adU,adu hj',adu hi',Option.getD_some]
       exact this
    rw[adX,<- List.range_eq_range']at hRun
    have hrep:∀i,(Array.replicate ops.size false).getD i false=false:=by
     intro i
     by_cases hi:i<ops.size
     ·simp[Array.getD,hi]
     ·simp[Array.getD,hi]
    have hrept:∀i,(Array.replicate ops.size false).getD i true=false↔i<ops.size:=by
     intro i
     by_cases hi:i<ops.size
     ·simp[Array.getD,hi]
     ·simp[Array.getD,hi]
    exact Uq hT hΓ hpairs hedge hdst hfin ops.size (List.range ops.size) (Array.replicate ops.size false) s.t s.h a _ blk [] (by simp) (fun i=>by rw[hrept];exact aeS) List.pairwise_lt_range (fun i hi=>aeS.1 hi) (by simp)
     (fun i o _ hl=>by rw[hrep]at hl;cases hl) (fun d hd=>by simp at hd) hRun ⟨hI.inv.drew,hI.nv⟩
  ·cases hr
 ·cases hr
def O0:Ex->Exit
 | .normal =>.normal
 | .exit n =>.exit n
 | .ret =>.ret
theorem pS (hT:js P T) (hΓ:bB P Γ) (hm:P.follows .mixedOrders=true) {F:Nat} : ∀(c:Code) (s:St) (x:Ex) (s':St) (Q:Exit->Act->World->Prop) (a:Act) (w:World),fT T Γ N F c s=some (x,s')->codeOk c=true->Holds N M L w0 s a w ->
  (∀a' w',Holds N M L w0 s' a' w'->Q (O0 x) a' w')->c.wp P Q a w:=by
 intro c
 induction c with
 | skip =>
  intro s x s' Q a w hr _ hH hQ
  simp only[fT,adq,Prod.mk.injEq]at hr
  obtain⟨rfl,rfl⟩:=hr
  exact wp_skip (hQ a w hH)
 | region id ops draw =>
  intro s x s' Q a w hr hok hH hQ
  simp only[fT]at hr
  have hx:x=.normal:=by
   unfold vv at hr
   split at hr
   ·split at hr
    ·simp only[adq,Prod.mk.injEq]at hr;exact hr.1.symm
    ·cases hr
   ·cases hr
  subst hx
  exact (EK hT hΓ hm hr hok hH hQ).2
 | seq b c ihb ihc =>
  intro s x s' Q a w hr hok hH hQ
  simp only[codeOk,adS]at hok
  simp only[fT,ab0]at hr
  refine wp_seq ?_
  split at hr
  ·rename_i s1 h1
   exact ihb s .normal s1 _ a w h1 hok.1 hH (fun a' w' hH'=>ihc s1 x s' Q a' w' hr hok.2 hH' hQ)
  ·rename_i r hne
   refine ihb s x s' _ a w hr hok.1 hH (fun a' w' hH' =>?_)
   cases x with
   | normal=>exact absurd hr (fun h=>hne s' h)
   | exit n=>exact hQ a' w' hH'
   | ret=>exact hQ a' w' hH'
 | cond c b d ihb ihd =>
  intro s x s' Q a w hr hok hH hQ
  simp only[codeOk,adS]at hok
  simp only[fT]at hr
  unfold Og at hr
  split at hr
  ·rename_i bb hb
   obtain⟨blk,hI⟩:=hH
   have hv:=hI.inv.ev c
   rw[hb]at hv
   refine wp_cond (t:=bb) (ux hv) ?_
   cases bb with
   | true=>exact ihb s x s' Q a w hr hok.1 ⟨blk,hI⟩ hQ
   | false=>exact ihd s x s' Q a w hr hok.2 ⟨blk,hI⟩ hQ
  ·cases hr
 | block id b ih =>
  intro s x s' Q a w hr hok hH hQ
  simp only[fT]at hr
  refine wp_block ?_
  unfold QB at hr
  split at hr
  ·rename_i n s1 h1
   refine ih s (.exit n) s1 _ a w h1 hok hH (fun a' w' hH' =>?_)
   split at hr
   ·rename_i hn
    simp only[adq,Prod.mk.injEq]at hr
    obtain⟨rfl,rfl⟩:=hr
    simp only[O0,Exit.inBlock,hn,if_true]
    exact hQ a' w' hH'
   ·rename_i hn
    simp only[adq,Prod.mk.injEq]at hr
    obtain⟨rfl,rfl⟩:=hr
    simp only[O0,Exit.inBlock,hn,if_false]
    exact hQ a' w' hH'
  ·rename_i r hne
   refine ih s x s' _ a w hr hok hH (fun a' w' hH' =>?_)
   cases x with
   | normal=>exact hQ a' w' hH'
   | exit n=>exact absurd hr (fun h=>hne n s' h)
   | ret=>exact hQ a' w' hH'
 | loop b ih =>
  intro s x s' Q a w hr hok hH hQ
  simp only[fT]at hr
  refine wp_loop_ghost (fun n a w=>∃s,Holds N M L w0 s a w∧iter (fT T Γ N F b) n s=some (x,s')) F ⟨s,hH,hr⟩ ?_
  intro n a w ⟨s1,hH1,h1⟩
  cases n with
  | zero=>simp[iter]at h1
  | succ n =>
   simp only[iter]at h1
   split at h1
   ·rename_i s2 h2
    exact ih s1 .normal s2 _ a w h2 hok hH1 (fun a' w' hH'=>⟨n,by omega,s2,hH',h1⟩)
   ·rename_i r hne
    refine ih s1 x s' _ a w h1 hok hH1 (fun a' w' hH' =>?_)
    cases x with
    | normal=>exact absurd h1 (fun h=>hne s' h)
    | exit n=>exact hQ a' w' hH'
    | ret=>exact hQ a' w' hH'
 | exit id =>
  intro s x s' Q a w hr _ hH hQ
  simp only[fT,adq,Prod.mk.injEq]at hr
  obtain⟨rfl,rfl⟩:=hr
  exact wp_exit (hQ a w hH)
 | ret =>
  intro s x s' Q a w hr _ hH hQ
  simp only[fT,adq,Prod.mk.injEq]at hr
  obtain⟨rfl,rfl⟩:=hr
  exact wp_ret (hQ a w hH)
 | _=>intro s x s' Q a w hr;simp[fT]at hr
end
def Nv (T:Nat->Option Ty) (s:St):ResultVar->Option (D×List Nat)
 | .tmp i=>bp s.h (s.t i)
 | .cell i ty =>
  match T ty,s.t i with
  | some τ,.ptr x v o=>match df τ s.h (.ptr x v o) with|some E=>some (fe E.val,[])|none=>none
  | _,_=>none
def tY (T:Nat->Option Ty) (s:St):List ResultVar->Option (List D×List Nat)
 | []=>some ([],[])
 | r::rs =>
  match Nv T s r with
  | some (d,fr)=>match tY T s rs with
   | some (ds,fr')=>some (d::ds,fr++fr')
   | none=>none
  | none=>none
def mm:List D->D
 | [d]=>d
 | ds =>.tup ds
inductive Mode where
 | clean|same|tight
 | fresh (ty s:Nat)
def bZ:Option (D×Row)->List D->St
 | none,args=>⟨fun i=>args.getD i .und,fun _=>none,0⟩
 | some (d0,r),args=>⟨fun i=>(d0::args).getD i .und,fun x=>if x=0 then some { r with v:=0 } else none,1⟩
def lB:Option (D×Row)->St->Option (Option Row)
 | none,_=>some none
 | some (_,r),s =>
  match s.h 0 with
  | some r1=>if r1.v=0∧r1.fz=false∧r1.ty=r.ty∧r1.mp=false then some (some r1) else none
  | none=>none
def Yu:Option (D×Row)->List Nat->Bool
 | none,_=>true
 | some _,fr => !fr.contains 0
def tD (T:Nat->Option Ty) (lent:Option (D×Row)) (rs:List ResultVar) (s:St):Option (RK×Option Row) :=
 match tY T s rs,lB lent s with
 | some (ds,fr),some o=>if Yu lent fr then some (.clean (mm ds),o) else none
 | _,_=>none
def AV (lent:Option (D×Row)) (rs:List ResultVar) (s:St):Option (RK×Option Row) :=
 match rs with
 | [.tmp i] =>
  match s.t i,lB lent s with
  | .buf 0 0 sz o n,some (some r)=>some (.same sz o n,some r)
  | _,_=>none
 | _=>none
def uG:D->Option (RK×Option Row)
 | .sl nl tg n xs=>some (.clean (.sl nl tg n xs),none)
 | _=>none
def Cm (lent:Option (D×Row)) (rs:List ResultVar) (s:St):Option (RK×Option Row) :=
 match lent,rs with
 | none,[.tmp i]=>uG (s.t i)
 | _,_=>none
def uF (ty s o n:Nat):Option Row->Option (RK×Option Row)
 | some r=>if r.fz=false∧r.ty=ty∧o+n*s<=r.cells.length then some (.fresh ty s n ((r.cells.drop o).take (n*s)),none) else none
 | none=>none
def mc (ty s:Nat) (h:Nat->Option Row):D->Option (RK×Option Row)
 | .buf x v sz o n=>if sz=s then uF ty s o n (live h x v) else none
 | .sl _ tg 0 _=>if tg=true then some (.fresh ty s 0 [],none) else none
 | _=>none
def qh (ty s:Nat) (rs:List ResultVar) (st:St):Option (RK×Option Row) :=
 match rs with
 | [.tmp i]=>mc ty s st.h (st.t i)
 | _=>none
def jd (mode:Mode) (T:Nat->Option Ty) (lent:Option (D×Row)) (rs:List ResultVar) (s:St):Option (RK×Option Row) :=
 match mode with
 | .clean=>tD T lent rs s
 | .same=>AV lent rs s
 | .tight=>Cm lent rs s
 | .fresh ty sz=>qh ty sz rs s
def ba (mode:Mode) (T:Nat->Option Ty) (Γ:Env) (F:Nat) (fn:Func) (lent:Option (D×Row)) (args:List D):Option (RK×Option Row) :=
 match fn.body with
 | some c =>
  if fn.ntmps<=PK then
   match fT T Γ fn.ntmps F c (bZ lent args) with
   | some (.exit _,_)=>none
   | some (_,s)=>jd mode T lent fn.results.toList ⟨s.t,EH s.h,s.e⟩
   | none=>none
  else none
 | none=>none
def IZ:Option (D×Row)->Bool
 | none=>true
 | some (.buf 0 0 _ _ _,_)=>true
 | some (.ptr 0 0 _,_)=>true
 | _=>false
def GB:Option (D×Row)->List D->Nat
 | none,ada=>ada.length
 | some _,ada=>ada.length+1
section
variable {P:Program} {T:Nat->Option Ty} {N:Nat} {M:Nat->Prop} {L:jR} {w0:World} {blk:Nat->Option (Nat×Nat)} {a:Act} {w:World} {Γ:Env}
theorem Inv.Zu {V:Nat->Nat->Prop} {t:Nat->D} {h:Nat->Option Row} (hI:Inv N M L w0 blk V t h a w) (fr:List Nat):ny M h blk fr M where
 le b hb := .inl hb
 no x hx r g hr hg hb:=hI.notM hr hg hb
def y9 (tm:Array Value):ResultVar->Sem Value
 | .tmp t=>pure (tm.getD t undef)
 | .cell b t=>do loadVar t (<- asAddr (tm.getD b undef))
theorem DB (fn:Func) (tm:Array Value):results fn tm=(do
  let vs <- fn.results.mapM (y9 tm)
  pure (if h:vs.size=1 then vs[0] else .tuple vs)):=by
 unfold results
 congr 1
theorem Ud (hT:js P T) {M':Nat->Prop} {ty:Nat} {τ:Ty} {g c:Nat} {xs:List D} {d:D} (hτ:T ty=some τ) (hat:At w M' g c xs) (hl:xs.length=τ.size) (hd:lC τ xs=some d) :
  ∃u,(loadVar ty ⟨g,c,none⟩).run P w=.ok u w∧RP w M' d u:=by
 obtain⟨us,h1,h2,h3,h4⟩:=hat.zg
 have hone:τ.ds.nV=false->xs.length=1∧xs=[d]:=by
  intro hf
  simp only[lC,hf,adR,if_false]at hd
  split at hd
  ·simp only[adq]at hd;subst hd;exact⟨rfl,rfl⟩
  ·cases hd
 have hrun:=jK (hT ty τ hτ) w g c us (by rw[h1,hl]) h2 (fun hf=>by rw[h1];exact (hone hf).1)
 refine⟨_,hrun,?_⟩
 cases ha:τ.ds.nV with
 | true =>
  simp only[lC,ha,if_true,adq]at hd
  subst hd
  exact .agg xs us h1 h3 h4
 | false =>
  obtain⟨_,rfl⟩:=hone ha
  exact h3 0 d rfl
theorem WJ (hT:js P T) {M':Nat->Prop} {V:Nat->Nat->Prop} {s:St} (hI:Inv N M L w0 blk V s.t s.h a w) {r:ResultVar} {d:D} {fr:List Nat} (h1:Nv T s r=some (d,fr)) (hl:ny M s.h blk fr M'):∃u,(y9 a.tmps r).run P w=.ok u w∧RP w M' d u:=by
 cases r with
 | tmp i =>
  simp only[Nv]at h1
  exact⟨a.tmps.getD i undef,rfl,hI.bp h1 hl (hI.slots i)⟩
 | cell i ty =>
  simp only[Nv]at h1
  split at h1
  ·rename_i τ x v o hτ hp
   split at h1
   ·rename_i E hE
    simp only[adq,Prod.mk.injEq]at h1
    obtain⟨rfl,_⟩:=h1
    have hsl:=hI.slots i
    rw[hp]at hsl
    simp only[df]at hE
    split at hE
    ·rename_i rr hlv
     obtain⟨hx,hv⟩:=bR hlv
     split at hE
     ·rename_i hle
      split at hE
      ·rename_i d' hd'
       simp only[adq]at hE
       subst hE
       obtain⟨g,hg,hpv⟩:=hsl.2 rr hx hv
       have hat:=((hI.rowAt hx hg (fN hlv)).drop o).take τ.size
       obtain⟨u,hu1,hu2⟩:=Ud hT hτ hat (by simp;omega) hd'
       refine⟨u,?_,(hu2.less fun b hb=>hl.le b hb).fe⟩
       simp only[y9,hpv,asAddr,adO,Sem.run_pure,Result.andThen_ok,hu1]
      ·cases hE
     ·cases hE
    ·cases hE
   ·cases h1
  ·cases h1
theorem NL (hT:js P T) {M':Nat->Prop} {V:Nat->Nat->Prop} {s:St} (hI:Inv N M L w0 blk V s.t s.h a w):∀(rs:List ResultVar) (ds:List D) (fr:List Nat),tY T s rs=some (ds,fr)->ny M s.h blk fr M' ->
  ∃us:List Value,(rs.mapM (y9 a.tmps)).run P w=.ok us w∧us.length=ds.length∧∀j d,ds[j]? = some d->RP w M' d (us.getD j undef)
 | [],ds,fr,h,_=>by
  simp only[tY,adq,Prod.mk.injEq]at h
  obtain⟨rfl,_⟩:=h
  exact⟨[],by simp,rfl,fun j d hj=>by simp at hj⟩
 | r::rs,ds,fr,h,hl=>by
  simp only[tY]at h
  split at h
  ·rename_i d fr1 h1
   split at h
   ·rename_i ds2 fr2 h2
    simp only[adq,Prod.mk.injEq]at h
    obtain⟨rfl,rfl⟩:=h
    obtain⟨us,i1,i2,i3⟩:=NL hT hI rs ds2 fr2 h2 hl.right
    obtain⟨u,hu1,hu2⟩:=WJ (P:=P) hT hI h1 hl.left
    refine⟨u::us,?_,by simp[i2],fun j d hj =>?_⟩
    ·simp only[List.mapM_cons,adO,hu1,Result.andThen_ok,i1,Sem.run_pure]
    ·cases j with
     | zero=>simp only[List.getElem?_cons_zero,adq]at hj;subst hj;simpa using hu2
     | succ j=>simpa using i3 j d (by simpa using hj)
   ·cases h
  ·cases h
theorem ub (hT:js P T) {M':Nat->Prop} {V:Nat->Nat->Prop} {s:St} (hI:Inv N M L w0 blk V s.t s.h a w) {fn:Func} {ds:List D} {fr:List Nat} (h:tY T s fn.results.toList=some (ds,fr)) (hl:ny M s.h blk fr M') :
  ∃v,(results fn a.tmps).run P w=.ok v w∧RP w M' (mm ds) v:=by
 obtain⟨us,i1,i2,i3⟩:=NL (P:=P) hT hI _ ds fr h hl
 have hm:(fn.results.mapM (y9 a.tmps)).run P w=.ok us.toArray w:=by
  rw[ad8,Sem.run_map,i1]
  rfl
 rw[DB]
 simp only[adO,hm,Result.andThen_ok,Sem.run_pure]
 refine⟨_,rfl,?_⟩
 match us,ds,i2,i3 with
 | [u],[d],_,i3=>simpa [mm] using i3 0 d rfl
 | [],[],_,_=>exact .tup [] [] rfl (fun j x hj=>by simp at hj)
 | u1::u2::us,d1::d2::ds,i2,i3 =>
  have:¬(u1::u2::us).toArray.size=1:=by simp
  rw[dif_neg this]
  exact .tup _ _ (by simpa using i2) i3
theorem kU {fn:Func} {tm:Array Value} {i:Nat} (h:fn.results.toList=[.tmp i]):(results fn tm).run P w=.ok (tm.getD i undef) w:=by
 have he:fn.results = #[.tmp i]:=by rw[<- h]
 rw[DB,he]
 simp[y9]
theorem Inv.qh {V:Nat->Nat->Prop} {s:St} {ty0 s0:Nat} (hI:Inv N M L w0 blk V s.t s.h a w) {fn:Func} {rk:RK} {out:Option Row} (he:Am.qh ty0 s0 fn.results.toList s=some (rk,out)) :
  out=none∧∃v ty sz n cells,rk=.fresh ty sz n cells∧(results fn a.tmps).run P w=.ok v w∧A6 w0 w M (LB L) v rk:=by
 unfold Am.qh at he
 split at he
 ·rename_i i hrs
  have hsl:=hI.slots i
  unfold mc at he
  split at he
  ·rename_i x v sz o n ht
   rw[ht]at hsl
   split at he
   ·rename_i hsz
    subst hsz
    unfold uF at he
    split at he
    ·rename_i r hlv
     split at he
     ·rename_i hcond
      obtain⟨hz,hty,hle⟩:=hcond
      simp only[adq,Prod.mk.injEq]at he
      obtain⟨rfl,rfl⟩:=he
      refine⟨rfl,a.tmps.getD i undef,_,_,_,_,rfl,kU hrs,?_⟩
      obtain⟨hx,hv⟩:=bR hlv
      have hol:((r.cells.drop o).take (n*sz)).length=n*sz:=by simp;omega
      rcases hI.xf hlv hsl with⟨g,o',c,cs,g0,g1,g2,g3,g4,g5,g7,g8⟩|⟨g0,rfl,g2,A,g3⟩
      ·by_cases hc:0<c∨o=0
       ·obtain⟨k1,k2⟩:=g5 hc
        subst k1
        refine .inl ⟨(g.1,g.2+o),c,cs,g1,(show w0.heap.size<=g.1∨LB L g.1 from hI.base hx g0),by rw[<- hty];exact g4,g2,g3,k2,by rw[hol];simp only;omega,fun j d hj =>?_⟩
        rw[cd]at hj
        split at hj
        ·rw[adC]
         refine⟨(g8 _ _ hj).1,(g8 _ _ hj).2.less fun b hb =>?_⟩
         rcases hb with hb|rfl
         ·exact .inl hb
         ·exact .inr ⟨x,r,g,hx,hz,g0,rfl⟩
        ·cases hj
       ·have hn:n=0:=by omega
        have hc0:c=0:=by omega
        subst hn hc0
        exact .inr ⟨rfl,by simp,_,g1⟩
      ·exact .inr ⟨rfl,by simp,A,g3⟩
     ·cases he
    ·cases he
   ·cases he
  ·rename_i nl tg xs ht
   rw[ht]at hsl
   split at he
   ·rename_i hnt
    simp only[adq,Prod.mk.injEq]at he
    obtain⟨rfl,rfl⟩:=he
    refine⟨rfl,a.tmps.getD i undef,_,_,_,_,rfl,kU hrs,.inr ⟨rfl,rfl,?_⟩⟩
    have hr:RP w (Own M s.h blk) (.sl nl tg 0 xs) (a.tmps.getD i undef):=hsl
    generalize a.tmps.getD i undef=u at *
    cases hr with
    | sl A c nl tight n xs us h1 h2 h3 h4 h5 h6 h7 h8 =>
     have hc:c=0:=by
      exact h5 hnt
     subst hc
     exact⟨A,rfl⟩
   ·cases he
  ·cases he
 ·cases he
theorem yf {args:List D} {vs:Array Value} {n i:Nat} (hs:vs.size=args.length):(vs++Array.replicate (n-vs.size) undef).getD i undef=vs.getD i undef∨args.getD i .und=.und:=by
 by_cases hi:i<args.length
 ·left
  have:i<vs.size:=by omega
  simp[adm,aeT this]
 ·right
  simp[List.getD,aeN (aeU hi)]
theorem A3 {h:Nat->Option Row} (hp:∀k r,h k=some r->k<2*PK∧r.mp=false):EH h=h:=by
 funext k
 by_cases hk:k<2*PK
 ·rw[sX hk]
  cases hh:h k with
  | none=>rfl
  | some r =>
   simp only[Option.map_some,A1,(hp k r hh).2]
   rfl
 ·have h1:h k=none:=by
   cases hh:h k with
   | none=>rfl
   | some r=>exact absurd (hp k r hh).1 hk
  rw[h1]
  unfold EH
  rw[if_neg hk]
  cases hh:h (k % PK) with
  | none=>rfl
  | some r =>
   simp only[Option.bind_some,qn,(hp _ r hh).2]
   rfl
theorem kX (hT:js P T) (hΓ:bB P Γ) (hm:P.follows .mixedOrders=true) {mode:Mode} {f:FuncId} {fn:Func} {F:Nat} {lent:Option (D×Row)} {args:List D} {rk:RK} {out:Option Row} (hf:P.funcs[f]? = some fn)
  (hok:(match fn.body with|some c=>codeOk c|none=>true)=true) (hn:GB lent args<=fn.ntmps) (hlo:IZ lent=true)
  (hr:ba mode T Γ F fn lent args=some (rk,out)):n7 P f lent args rk out:=by
 unfold ba at hr
 split at hr<;>try (cases hr;done)
 rename_i c hc
 rw[hc]at hok
 simp only at hok
 split at hr<;>try (cases hr;done)
 rename_i hbig
 split at hr<;>try (cases hr;done)
 rename_i x s hne hv
 cases lent with
 | none =>
  intro w M vs hM hargs
  have hI:Inv fn.ntmps M none w (fun _=>none) (fun x v=>x<fn.ntmps∧v<0) (bZ none args).t (bZ none args).h { tmps:=vs++Array.replicate (fn.ntmps-vs.size) undef,defers:=[] } w:={
   tab:=fun b hb=>(hargs.tab b hb).less fun b hb=>by
    rcases hb with hb|⟨x,r,g,hx,_⟩
    ·exact hb
    ·cases hx
   below:=dj.refl _ _
   mlt:=hM
   lent:=fun b hb=>absurd hb qO
   pin:=fun go hg=>by cases hg
   defers:=rfl
   tsz:=by have:=hargs.1;simp only[GB]at hn;simp;omega
   slots:=fun i=>by
    simp only[bZ]
    rcases yf (n:=fn.ntmps) (i:=i) hargs.1 with he|he
    ·rw[he]
     by_cases hi:i<args.length
     ·have h1:=hargs.2 i _ (adu hi)
      have e1:args.getD i .und=args[i]:=by simp[List.getD,hi]
      rw[e1]
      exact bD (h1.less fun b hb=>by
       rcases hb with hb|⟨x,r,g,hx,_⟩
       ·exact hb
       ·cases hx)
     ·have e1:args.getD i .und=.und:=by simp[List.getD,aeN (aeU hi)]
      rw[e1]
      trivial
    ·rw[he];trivial
   rows:=fun x r hx=>by cases hx
   inj:=fun x y r s g g' hx=>by cases hx
   big:=hbig
   pha:=fun y r g hy=>by cases hy
   ali:=fun y r g hy=>by cases hy }
  refine calls_of_wp hf hc ?_
  refine pS hT hΓ hm c (bZ none args) x s _ _ _ hv hok ⟨_,⟨(by rw[A3 (fun k r hk=>by cases hk)];exact hI.weaken fun x v hx=>absurd hx.2 (Nat.not_lt_zero _)),fun x r ty s nv cs hx=>by cases hx⟩⟩ (fun a' w' hH =>?_)
  obtain⟨blk',hIE⟩:=hH
  obtain⟨sE,hsE⟩:∃sE:St,sE=⟨s.t,EH s.h,s.e⟩:=⟨_,rfl⟩
  have hI':Inv fn.ntmps M none w blk' (VE fn.ntmps s.e [] s.h) sE.t sE.h a' w':=by rw[hsE];exact hIE.inv
  rw[<- hsE]at hr
  have hbel:Below w.heap.size w w':=hI'.below.below (fun b hb=>absurd hb qO)
  have hpost:a'.defers=[]∧∃v,(results fn a'.tmps).run P w'=.ok v w'∧(∃v',Ending.returned v=.returned v'∧Below w.heap.size w w'∧A6 w w' M (fun _=>False) v' rk):=by
   refine⟨hI'.defers,?_⟩
   cases mode with
   | clean =>
    simp only[jd,tD,lB]at hr
    split at hr<;>try (cases hr;done)
    rename_i ds fr o hres ho
    split at hr<;>try (cases hr;done)
    simp only[adq,Prod.mk.injEq]at hr
    obtain⟨rfl,_⟩:=hr
    obtain⟨v,hv1,hv2⟩:=ub (P:=P) hT hI' hres (hI'.Zu fr)
    exact⟨v,hv1,v,rfl,hbel,hv2⟩
   | same =>
    simp only[jd,AV,lB]at hr
    split at hr<;>try (cases hr;done)
    split at hr
    ·rename_i hq;cases hq
    ·cases hr
   | tight =>
    simp only[jd,Cm]at hr
    split at hr<;>try (cases hr;done)
    rename_i i _ hrs
    have hsl:=hI'.slots i
    generalize sE.t i=dd at *
    unfold uG at hr
    split at hr<;>try (cases hr;done)
    rename_i nl tg n xs
    simp only[adq,Prod.mk.injEq]at hr
    obtain⟨rfl,_⟩:=hr
    have hsl':RP w' (Own M sE.h blk') (.sl nl tg n xs) (a'.tmps.getD i undef):=hsl
    exact⟨a'.tmps.getD i undef,kU hrs,_,rfl,hbel,hsl'.less fun b hb =>.inl hb⟩
   | fresh ty0 s0 =>
    obtain⟨rfl,v,ty,sz,n,cells,rfl,hv1,hv2⟩:=hI'.qh (P:=P) hr
    refine⟨v,hv1,v,rfl,hbel,?_⟩
    rcases hv2 with⟨g,k1,cs,k2,k3,k4⟩|hv2
    ·exact .inl ⟨g,k1,cs,k2,k3.imp id (fun hb=>absurd hb qO),k4⟩
    ·exact .inr hv2
  cases x with
  | normal=>exact hpost
  | ret=>exact hpost
  | exit n=>exact (hne n rfl).elim
 | some p =>
  obtain⟨d0,r⟩:=p
  intro w M go u0 vs hM hgoM hz hmp hrow hlv hargs
  have hown:∀b,Own M (bZ (some (d0,r)) args).h (fun x=>if x=0 then go else none) b↔(M b∨sO go b):=by
   intro b
   constructor
   ·rintro (hb|⟨x,r',g,hx,_,hg,he⟩)
    ·exact .inl hb
    ·simp only[bZ]at hx
     split at hx
     ·rename_i h0
      subst h0
      simp only[if_true]at hg
      exact .inr ⟨g,hg,he.symm⟩
     ·cases hx
   ·rintro (hb|⟨g,hg,he⟩)
    ·exact .inl hb
    ·exact .inr ⟨0,{ r with v:=0 },g,rfl,hz,by simpa using hg,he.symm⟩
  have hI:Inv fn.ntmps M (IF go) w (fun x=>if x=0 then go else none) (fun x v=>x<fn.ntmps∧v<1) (bZ (some (d0,r)) args).t (bZ (some (d0,r)) args).h { tmps:=(#[u0]++vs)++Array.replicate (fn.ntmps-(#[u0]++vs).size) undef,defers:=[] } w:={
   tab:=fun b hb=>(hargs.tab b hb).less fun b hb=>(hown b).1 hb
   below:=dj.refl _ _
   mlt:=hM
   lent:=fun b hb=>hgoM b (HX.1 hb)
   pin:=fun go' hg=>by
    cases hg
    exact⟨⟨by simp only[GB]at hn;omega,aeV⟩,fun r' _ _=>⟨rfl,fun g _=>rfl⟩⟩
   defers:=rfl
   tsz:=by have:=hargs.1;simp only[GB]at hn;simp;omega
   slots:=fun i=>by
    simp only[bZ]
    rcases yf (args:=d0::args) (vs:=#[u0]++vs) (n:=fn.ntmps) (i:=i) (by simp[hargs.1];omega) with he|he
    ·rw[he]
     cases i with
     | zero =>
      have e1:(#[u0]++vs).getD 0 undef=u0:=by simp[Array.getElem?_append]
      rw[e1]
      simp only[aer]
      cases d0 with
      | buf x v sz o n =>
       have hxv:x=0∧v=0:=by
        simp only[IZ]at hlo
        split at hlo<;>simp_all
       obtain⟨rfl,rfl⟩:=hxv
       exact⟨⟨by simp only[GB]at hn;omega,aeV⟩,fun r' h1 h2=>by simpa using hlv.2 ⟨0,0,[],false,false,false⟩ rfl rfl⟩
      | ptr x v o =>
       have hxv:x=0∧v=0:=by
        simp only[IZ]at hlo
        split at hlo<;>simp_all
       obtain⟨rfl,rfl⟩:=hxv
       exact⟨⟨by simp only[GB]at hn;omega,aeV⟩,fun r' h1 h2=>by simpa using hlv.2 ⟨0,0,[],false,false,false⟩ rfl rfl⟩
      | _=>simp[IZ]at hlo
     | succ i =>
      have e1:(#[u0]++vs).getD (i+1) undef=vs.getD i undef:=by
       simp only[adm]
       rw[Array.getElem?_append_right (by simp)]
       simp
      rw[e1]
      simp only[List.getD_cons_succ]
      by_cases hi:i<args.length
      ·have h1:=hargs.2 i _ (adu hi)
       have e1:args.getD i .und=args[i]:=by simp[List.getD,hi]
       rw[e1]
       exact bD (h1.less fun b hb=>(hown b).1 hb)
      ·have e1:args.getD i .und=.und:=by simp[List.getD,aeN (aeU hi)]
       rw[e1]
       trivial
    ·rw[he];trivial
   rows:=fun x r' hx=>by
    simp only[bZ]at hx
    split at hx
    ·rename_i h0
     subst h0
     simp only[adq]at hx
     subst hx
     refine⟨fun hn=>⟨hn,aeV⟩,?_⟩
     simp only[if_true]
     cases go with
     | none=>exact hrow
     | some g =>
      obtain⟨cs,k1,k2,k3⟩:=hrow
      refine⟨.inr (HX.2 ⟨g,rfl,rfl⟩),?_⟩
      unfold dI
      simp only[hmp]
      exact⟨cs,k1,k2,fun j d hj=>⟨(k3 j d hj).1,(k3 j d hj).2.less fun b hb=>(hown b).1 hb⟩⟩
    ·cases hx
   inj:=fun x y r1 r2 g g' hx hy _ _ _=>by
    simp only[bZ]at hx hy
    split at hx
    ·split at hy
     ·omega
     ·cases hy
    ·cases hx
   big:=hbig
   pha:=fun y r1 g hy hm=>by
    simp only[bZ]at hy
    split at hy
    ·simp only[adq]at hy
     subst hy
     simp_all
    ·cases hy
   ali:=fun y r1 g hy hz1=>by
    simp only[bZ]at hy
    split at hy
    ·simp only[adq]at hy
     subst hy
     simp_all
    ·cases hy }
  have hplain:EH (bZ (some (d0,r)) args).h=(bZ (some (d0,r)) args).h:=by
   refine A3 fun k r' hk =>?_
   simp only[bZ]at hk
   split at hk
   ·rename_i h0
    subst h0
    simp only[adq]at hk
    subst hk
    exact⟨(by have:=cR;omega),hmp⟩
   ·cases hk
  have hnv0:D8 (bZ (some (d0,r)) args).e [] (bZ (some (d0,r)) args).h:=by
   intro x r' ty s nv cs hx hm'
   simp only[bZ]at hx
   split at hx
   ·simp only[adq]at hx
    subst hx
    simp only[hmp]at hm'
    cases hm'
   ·cases hx
  refine calls_of_wp hf hc ?_
  refine pS hT hΓ hm c (bZ (some (d0,r)) args) x s _ _ _ hv hok ⟨_,⟨(by rw[hplain];exact hI.weaken fun x v hx =>.inl ⟨hx.1,.inl hx.2⟩),hnv0⟩⟩ (fun a' w' hH =>?_)
  obtain⟨blk',hIE⟩:=hH
  obtain⟨sE,hsE⟩:∃sE:St,sE=⟨s.t,EH s.h,s.e⟩:=⟨_,rfl⟩
  have hI':Inv fn.ntmps M (IF go) w blk' (VE fn.ntmps s.e [] s.h) sE.t sE.h a' w':=by rw[hsE];exact hIE.inv
  rw[<- hsE]at hr
  have hbel:dj (sO go) w w':=⟨hI'.below.os,hI'.below.tape,hI'.below.output,hI'.below.size,fun k hk hn=>hI'.below.block k hk (fun hb=>hn (HX.1 hb))⟩
  have hlast:∀r1,lB (some (d0,r)) sE=some (some r1)->sE.h 0=some r1∧r1.v=0∧r1.fz=false∧(r1.ty=r.ty∧r1.mp=false)∧blk' 0=go∧(∀g,go=some g->w'.shape? g.1=w.shape? g.1)∧(∀b,(M b∨sO go b)->Own M sE.h blk' b):=by
   intro r1 hl
   simp only[lB]at hl
   split at hl<;>try (cases hl;done)
   rename_i r2 h2
   split at hl<;>try (cases hl;done)
   rename_i hcond
   simp only[adq]at hl
   subst hl
   obtain⟨c1,c2,c3⟩:=hcond
   obtain⟨_,k2⟩:=hI'.pin _ rfl
   obtain⟨k3,k4⟩:=k2 r2 h2 c1
   refine⟨h2,c1,c2,c3,k3,k4,?_⟩
   rintro b (hb|⟨g,hg,he⟩)
   ·exact .inl hb
   ·exact .inr ⟨0,r2,g,h2,c2,k3.trans hg,he.symm⟩
  have hrowin:∀r1,lB (some (d0,r)) sE=some (some r1)->QO w' (fun b=>M b∨sO go b) go r1:=by
   intro r1 hl
   obtain⟨h1,_,_,h4,h5,_,h7⟩:=hlast r1 hl
   have:=(hI'.rows 0 r1 h1).2
   rw[h5]at this
   cases go with
   | none=>exact this
   | some g =>
    have this:=this.2
    unfold dI at this
    rw[h4.2]at this
    obtain⟨cs,k1,k2,k3⟩:=this
    exact⟨cs,k1,k2,fun j d hj=>⟨(k3 j d hj).1,(k3 j d hj).2.less h7⟩⟩
  have hpost:a'.defers=[]∧∃v,(results fn a'.tmps).run P w'=.ok v w'∧(∃v',Ending.returned v=.returned v'∧dj (sO go) w w'∧YV w w' M go r out∧YX w w' M go v' rk):=by
   refine⟨hI'.defers,?_⟩
   cases mode with
   | clean =>
    simp only[jd,tD]at hr
    split at hr<;>try (cases hr;done)
    rename_i ds fr o hres ho
    split at hr<;>try (cases hr;done)
    rename_i hfr
    simp only[Yu,adT,List.contains_eq_mem,decide_eq_false_iff_not]at hfr
    simp only[adq,Prod.mk.injEq]at hr
    obtain⟨rfl,rfl⟩:=hr
    cases o with
    | none =>
     simp only[lB]at ho
     split at ho<;>try (cases ho;done)
     split at ho<;>cases ho
    | some r1 =>
     obtain⟨h1,h2,h3,h4,h5,h6,h7⟩:=hlast r1 ho
     have hless:ny M sE.h blk' fr (fun b=>M b∨sO go b):=by
      refine⟨h7,fun x hx r' g hx' hg hb =>?_⟩
      rcases hb with hb|⟨g',hg',he⟩
      ·exact hI'.notM hx' hg hb
      ·have:x=0:=hI'.inj x 0 r' r1 g g' hx' h1 hg (h5.trans hg') he
       subst this
       exact hfr hx
     obtain⟨v,hv1,hv2⟩:=ub (P:=P) hT hI' hres hless
     exact⟨v,hv1,v,rfl,hbel,⟨h4.1,h3,h4.2,h6,hrowin r1 ho⟩,hv2⟩
   | same =>
    simp only[jd,AV]at hr
    split at hr<;>try (cases hr;done)
    rename_i i hrs
    split at hr<;>try (cases hr;done)
    rename_i sz o n r1 ht ho
    simp only[adq,Prod.mk.injEq]at hr
    obtain⟨rfl,rfl⟩:=hr
    obtain⟨h1,h2,h3,h4,h5,h6,h7⟩:=hlast r1 ho
    refine⟨a'.tmps.getD i undef,kU hrs,_,rfl,hbel,⟨h4.1,h3,h4.2,h6,hrowin r1 ho⟩,?_⟩
    have hsl:=hI'.slots i
    rw[ht]at hsl
    refine⟨trivial,fun r' _ _ =>?_⟩
    have:=hsl.2 r1 h1 h2
    rw[h5]at this
    exact this
   | tight =>
    simp only[jd,Cm]at hr
    cases hr
   | fresh ty0 s0 =>
    obtain⟨rfl,v,ty,sz,n,cells,rfl,hv1,hv2⟩:=hI'.qh (P:=P) hr
    refine⟨v,hv1,v,rfl,hbel,trivial,?_⟩
    rcases hv2 with⟨g,k1,cs,k2,k3,k4⟩|hv2
    ·exact .inl ⟨g,k1,cs,k2,k3.imp id (fun hb=>HX.1 hb),k4⟩
    ·exact .inr hv2
  cases x with
  | normal=>exact hpost
  | ret=>exact hpost
  | exit n=>exact (hne n rfl).elim
def ext (Γ:Env) (f:Nat) (l:Bool) (G:Option (D×Row)->List D->Option (RK×Option Row)):Env:=⟨fun g=>if g=f then l else Γ.lends g,fun g lent ada=>if g=f then G lent ada else Γ.sem g lent ada,Γ.own,Γ.hint,Γ.ins,Γ.grw,Γ.nst,Γ.nx⟩
theorem bB.ext (hΓ:bB P Γ) {f:Nat} {l:Bool} {G:Option (D×Row)->List D->Option (RK×Option Row)} (hG:∀lent ada rk out,G lent ada=some (rk,out)->n7 P f lent ada rk out) (hc:dq P f):bB P (Am.ext Γ f l G):=by
 refine⟨fun g lent ada rk out h =>?_,hΓ.ins,hΓ.grw,hΓ.lnd,hΓ.res⟩
 simp only[Am.ext]at h
 split at h
 ·rename_i he;subst he;exact⟨hG lent ada rk out h,hc⟩
 ·exact hΓ.calls g lent ada rk out h
def a7:Env:=⟨fun _=>false,fun _ _ _=>none,fun _=>true,fun _=>none,fun _=>none,fun _=>none,fun _=>none,{}⟩
theorem bB.none:bB P a7:=⟨fun f lent args rk out h=>(by cases h),fun f p h=>(by cases h),fun f p h=>(by cases h),fun f p h=>(by cases h),fun f p h=>(by cases h)⟩
def keep (d:Nat) (Γ:Env):Env:=⟨Γ.lends,Γ.sem,fun i=>i != d&&Γ.own i,Γ.hint,Γ.ins,Γ.grw,Γ.nst,Γ.nx⟩
theorem bB.keep (hΓ:bB P Γ) (d:Nat):bB P (Am.keep d Γ):=⟨hΓ.calls,hΓ.ins,hΓ.grw,hΓ.lnd,hΓ.res⟩
def vU (d y:Nat) (Γ:Env):Env:=⟨Γ.lends,Γ.sem,Γ.own,fun i=>if i=d then some y else Γ.hint i,Γ.ins,Γ.grw,Γ.nst,Γ.nx⟩
theorem bB.vU (hΓ:bB P Γ) (d y:Nat):bB P (Am.vU d y Γ):=⟨hΓ.calls,hΓ.ins,hΓ.grw,hΓ.lnd,hΓ.res⟩
def yS (f:Nat) (p:Nat×Nat×Nat) (Γ:Env):Env:=⟨Γ.lends,Γ.sem,Γ.own,Γ.hint,fun g=>if g=f then some p else Γ.ins g,Γ.grw,Γ.nst,Γ.nx⟩
theorem bB.yS (hΓ:bB P Γ) {f:Nat} {p:Nat×Nat×Nat} (hi:UA P f p):bB P (Am.yS f p Γ):=⟨hΓ.calls,fun g q h=>by
 simp only[Am.yS]at h
 split at h
 ·rename_i he;subst he;cases h;exact hi
 ·exact hΓ.ins g q h,hΓ.grw,hΓ.lnd,hΓ.res⟩
def xO (d:Nat) (p:Nat×Nat×Nat) (Γ:Env):Env:=⟨Γ.lends,Γ.sem,Γ.own,Γ.hint,Γ.ins,Γ.grw,fun i=>if i=d then some p else Γ.nst i,Γ.nx⟩
theorem bB.xO (hΓ:bB P Γ) (d:Nat) (p:Nat×Nat×Nat):bB P (Am.xO d p Γ):=⟨hΓ.calls,hΓ.ins,hΓ.grw,hΓ.lnd,hΓ.res⟩
def nM (f:Nat) (p:Nat×(Nat->Nat->Nat->Nat->List D->List D->Option (D×List D))) (Γ:Env):Env:=⟨Γ.lends,Γ.sem,Γ.own,Γ.hint,Γ.ins,Γ.grw,Γ.nst,⟨fun g=>if g=f then some p else Γ.nx.lnd g,Γ.nx.res⟩⟩
theorem bB.nM (hΓ:bB P Γ) {f:Nat} {p:Nat×(Nat->Nat->Nat->Nat->List D->List D->Option (D×List D))} (hc:dq P f) (hi:∀ty t s o cs args d cs',p.2 ty t s o cs args=some (d,cs')->HV P f ty t s o cs args d cs'):bB P (Am.nM f p Γ):=⟨hΓ.calls,hΓ.ins,hΓ.grw,fun g q h=>by
 simp only[Am.nM]at h
 split at h
 ·rename_i he;subst he;cases h;exact⟨hc,hi⟩
 ·exact hΓ.lnd g q h,hΓ.res⟩
def xN (f:Nat) (p:List D->Option (Nat×Nat×Nat×Nat×Nat×List D)) (Γ:Env):Env:=⟨Γ.lends,Γ.sem,Γ.own,Γ.hint,Γ.ins,Γ.grw,Γ.nst,⟨Γ.nx.lnd,fun g=>if g=f then some p else Γ.nx.res g⟩⟩
theorem bB.xN (hΓ:bB P Γ) {f:Nat} {p:List D->Option (Nat×Nat×Nat×Nat×Nat×List D)} (hc:dq P f) (hi:∀args ty t s S n cs,p args=some (ty,t,s,S,n,cs)->HU P f args ty t s S n cs):bB P (Am.xN f p Γ):=⟨hΓ.calls,hΓ.ins,hΓ.grw,hΓ.lnd,fun g q h=>by
 simp only[Am.xN]at h
 split at h
 ·rename_i he;subst he;cases h;exact⟨hc,hi⟩
 ·exact hΓ.res g q h⟩
def CA (f:Nat) (p:Grow) (Γ:Env):Env:=⟨Γ.lends,Γ.sem,Γ.own,Γ.hint,Γ.ins,fun g=>if g=f then some p else Γ.grw g,Γ.nst,Γ.nx⟩
theorem bB.CA (hΓ:bB P Γ) {f:Nat} {p:Grow} (hi:Uz P f p):bB P (Am.CA f p Γ):=⟨hΓ.calls,hΓ.ins,fun g q h=>by
 simp only[Am.CA]at h
 split at h
 ·rename_i he;subst he;cases h;exact hi
 ·exact hΓ.grw g q h,hΓ.lnd,hΓ.res⟩
end
def oS (ty t s o:Nat) (cs args:List D):St:=⟨fun i=>(.ptr 0 0 o::args).getD i .und,lQ (gr ty t s 0 cs),1⟩
def VN (t s:Nat) (ds:List D):List D->Option (D×List D)
 | [.nr t' s' _ cs']=>if t'=t∧s'=s then some (mm ds,cs') else none
 | _=>none
def KW (ty t s:Nat):Option (List D×List Nat)->Option Row->Option (D×List D)
 | some (ds,fr),some r=>if r.v=0∧r.fz=false∧r.ty=ty∧r.mp=true∧fr.all (fun k=>rt k != 0)=true then VN t s ds r.cells else none
 | _,_=>none
def Tt (T:Nat->Option Ty) (ty t s:Nat) (rs:List ResultVar) (st:St):Option (D×List D):=KW ty t s (tY T ⟨st.t,EH st.h,st.e⟩ rs) (st.h 0)
def ss (T:Nat->Option Ty) (Γ:Env) (F:Nat) (fn:Func) (ty t s o:Nat) (cs args:List D):Option (D×List D) :=
 match fn.body with
 | some c =>
  if fn.ntmps<=PK then
   match fT T Γ fn.ntmps F c (oS ty t s o cs args) with
   | some (.exit _,_)=>none
   | some (_,st)=>Tt T ty t s fn.results.toList st
   | none=>none
  else none
 | none=>none
def VM (x S n:Nat) (ty:Nat):List D->Option (Nat×Nat×Nat×Nat×Nat×List D)
 | [.nr t s _ cs]=>if x<PK then some (ty,t,s,S,n,cs) else none
 | _=>none
def KU (x v S n:Nat):Option Row->Option (Nat×Nat×Nat×Nat×Nat×List D)
 | some r=>if r.v=v∧r.fz=false∧r.mp=true then VM x S n r.ty r.cells else none
 | none=>none
def RB (h:Nat->Option Row):D->Option (Nat×Nat×Nat×Nat×Nat×List D)
 | .buf x v S 0 n=>KU x v S n (h x)
 | _=>none
def Ts (rs:List ResultVar) (st:St):Option (Nat×Nat×Nat×Nat×Nat×List D) :=
 match rs with
 | [.tmp i]=>RB st.h (st.t i)
 | _=>none
def sr (T:Nat->Option Ty) (Γ:Env) (F:Nat) (fn:Func) (args:List D):Option (Nat×Nat×Nat×Nat×Nat×List D) :=
 match fn.body with
 | some c =>
  if fn.ntmps<=PK then
   match fT T Γ fn.ntmps F c (bZ none args) with
   | some (.exit _,_)=>none
   | some (_,st)=>Ts fn.results.toList st
   | none=>none
  else none
 | none=>none
def VO (T:Nat->Option Ty):Option (Nat×Nat×Nat×Nat×Nat×List D)->Option D
 | some (_,_,s,S,n,cs)=>if n*S<=cs.length∧cs.all (vE s)=true then some (.sl false false n ((cs.map D1).take (n*S))) else none
 | none=>none
def QC (T:Nat->Option Ty) (Γ:Env) (F:Nat) (fn:Func) (args:List D):Option D:=VO T (sr T Γ F fn args)
section
variable {P:Program} {T:Nat->Option Ty} {N:Nat} {M:Nat->Prop} {L:jR} {w0:World} {blk:Nat->Option (Nat×Nat)} {a:Act} {w:World} {Γ:Env}
theorem Jt (hT:js P T) (hΓ:bB P Γ) (hm:P.follows .mixedOrders=true) {f:FuncId} {fn:Func} {F:Nat} {ty t s o:Nat} {cs args cs':List D} {d:D} (hf:P.funcs[f]? = some fn)
  (hok:(match fn.body with|some c=>codeOk c|none=>true)=true) (hn:args.length+1<=fn.ntmps)
  (hr:ss T Γ F fn ty t s o cs args=some (d,cs')):HV P f ty t s o cs args d cs':=by
 unfold ss at hr
 split at hr<;>try (cases hr;done)
 rename_i c hc
 rw[hc]at hok
 simp only at hok
 split at hr<;>try (cases hr;done)
 rename_i hbig
 split at hr<;>try (cases hr;done)
 rename_i x st hne hv
 intro w M blk h0 h1 g0 vs hh0 hh1 hM hdis hg0 hR hargs
 have hpk:=cR
 have hfz:∀k r,h0 k=some r->r.fz=false:=by
  intro k r hk
  rw[hh0]at hk
  rcases ir hk with⟨_,rfl⟩|⟨_,_,_,_,_,rfl⟩<;>rfl
 have hown:∀b,Own M h0 blk b↔(M b∨uw blk h0 b):=by
  intro b
  constructor
  ·rintro (hb|⟨k,r,g,h1,_,h2,h3⟩)
   ·exact .inl hb
   ·exact .inr ⟨k,r,g,h1,h2,h3⟩
  ·rintro (hb|⟨k,r,g,h1,h2,h3⟩)
   ·exact .inl hb
   ·exact .inr ⟨k,r,g,h1,hfz k r h1,h2,h3⟩
 have hrow0:h0 0=some ⟨0,ty,cs.mapIdx (pQ 0 s),false,true,true⟩:=by rw[hh0];exact tZ
 obtain⟨LL,hLL⟩:∃LL:jR,LL=some (some g0,uw blk h0):=⟨_,rfl⟩
 have hLB:∀b,LB LL b↔uw blk h0 b:=by
  intro b
  subst hLL
  constructor
  ·rintro⟨p,hp,h⟩
   cases hp
   rcases h with⟨g,hg,rfl⟩|h
   ·cases hg;exact⟨0,_,g0,hrow0,hg0,rfl⟩
   ·exact h
  ·exact fun h=>⟨_,rfl,.inr h⟩
 have hI:Inv fn.ntmps M LL w blk (fun x v=>x<fn.ntmps∧v<1) (oS ty t s o cs args).t h0 { tmps:=(#[Value.pointer (some ⟨g0.1,g0.2+o,none⟩)]++vs)++Array.replicate (fn.ntmps-(#[Value.pointer (some ⟨g0.1,g0.2+o,none⟩)]++vs).size) undef,defers:=[] } w:={
  tab:=fun b hb=>(hargs.tab b hb).less fun b hb=>(hown b).1 hb
  below:=dj.refl _ _
  mlt:=hM
  lent:=fun b hb=>hdis b ((hLB b).1 hb)
  pin:=fun p hp=>by
   subst hLL
   cases hp
   exact⟨⟨by omega,aeV⟩,fun r' _ _=>⟨hg0,fun g _=>rfl⟩⟩
  defers:=rfl
  tsz:=by have:=hargs.1;simp;omega
  slots:=fun i=>by
   simp only[oS]
   rcases yf (args := .ptr 0 0 o::args) (vs:=#[.pointer (some ⟨g0.1,g0.2+o,none⟩)]++vs) (n:=fn.ntmps) (i:=i) (by simp[hargs.1];omega) with he|he
   ·rw[he]
    cases i with
    | zero =>
     have e1:(#[Value.pointer (some ⟨g0.1,g0.2+o,none⟩)]++vs).getD 0 undef=.pointer (some ⟨g0.1,g0.2+o,none⟩):=by simp[Array.getElem?_append]
     rw[e1]
     simp only[aer]
     exact⟨⟨by omega,aeV⟩,fun r' _ _=>⟨g0,hg0,rfl⟩⟩
    | succ i =>
     have e1:(#[Value.pointer (some ⟨g0.1,g0.2+o,none⟩)]++vs).getD (i+1) undef=vs.getD i undef:=by
      simp only[adm]
      rw[Array.getElem?_append_right (by simp)]
      simp
     rw[e1]
     simp only[List.getD_cons_succ]
     by_cases hi:i<args.length
     ·have h1:=hargs.2 i _ (adu hi)
      have e1:args.getD i .und=args[i]:=by simp[List.getD,hi]
      rw[e1]
      exact bD (h1.less fun b hb=>(hown b).1 hb)
     ·have e1:args.getD i .und=.und:=by simp[List.getD,aeN (aeU hi)]
      rw[e1]
      trivial
   ·rw[he];trivial
  rows:=fun k r hk=>by
   refine⟨fun hn =>?_,?_⟩
   ·rw[hh0]at hk
    rcases ir hk with⟨rfl,rfl⟩|⟨o',_,_,rfl,_,rfl⟩
    ·exact⟨hn,aeV⟩
    ·have:=fP 0 o';omega
   ·have:=hR.rows k r hk
    cases hg:blk k with
    | none=>rw[hg]at this;exact this
    | some g =>
     rw[hg]at this
     exact⟨.inr ((hLB g.1).2 ⟨k,r,g,hk,hg,rfl⟩),this.keep rfl rfl rfl rfl fun b q1 q2=>⟨q1,fun hb=>q2 ((hown b).1 hb),rfl⟩⟩
  inj:=hR.inj
  big:=hbig
  pha:=hR.pha
  ali:=fun y r g hy hz=>by rw[hfz y r hy]at hz;cases hz }
 have hnv0:D8 (oS ty t s o cs args).e [] (oS ty t s o cs args).h:=by
  intro k r' ty' s' nv' cs1 hx hm' hcc
  simp only[oS,lQ]at hx
  split at hx
  ·simp only[adq]at hx
   subst hx
   simp only[gr,adF,D.nr.injEq,and_true]at hcc
   obtain⟨_,_,rfl,_⟩:=hcc
   exact fun _=>⟨by simp[oS],fun _=>by simp[oS]⟩
  ·cases hx
 have hEH:EH (oS ty t s o cs args).h=h0:=hh0.symm
 refine calls_of_wp hf hc ?_
 refine pS hT hΓ hm c (oS ty t s o cs args) x st _ _ _ hv hok ⟨_,⟨(by rw[hEH];exact hI.weaken fun x v hx=>Or.inl ⟨hx.1,Or.inl hx.2⟩),hnv0⟩⟩ (fun a' w' hH =>?_)
 obtain⟨blk',hIE⟩:=hH
 have hI':=hIE.inv
 unfold Tt KW at hr
 split at hr<;>try (cases hr;done)
 rename_i ds fr r1 hres hr1
 split at hr<;>try (cases hr;done)
 rename_i hcond
 obtain⟨c1,c2,c3,c4,c5⟩:=hcond
 unfold VN at hr
 split at hr<;>try (cases hr;done)
 rename_i t' s' nv' cs1 hcells
 split at hr<;>try (cases hr;done)
 rename_i hts
 obtain⟨rfl,rfl⟩:=hts
 simp only[adq,Prod.mk.injEq]at hr
 obtain⟨rfl,rfl⟩:=hr
 have hE0:=fC hr1 c4 hcells l5
 obtain⟨p1,p2⟩:=(hI'.pin (some g0,uw blk h0) hLL).2 _ hE0 c1
 have hIB:=HW (blk:=blk') hr1 c4 hcells l5
 rw[c3]at hIB
 have hQ:∀b,(M b∨uw (oY blk' 0) h1 b)->Own M (EH st.h) blk' b:=by
  rintro b (hb|hb)
  ·exact .inl hb
  ·rw[hh1]at hb
   obtain⟨k,r',g',q0,q1,q2,q3⟩:=(hIB b).1 hb
   refine .inr ⟨k,r',g',q1,?_,q2,q3⟩
   rcases dH hr1 c4 hcells l5 q0 q1 with⟨_,rfl⟩|⟨_,_,_,_,_,rfl⟩<;>exact c2
 have hless:ny M (EH st.h) blk' fr (fun b=>M b∨uw (oY blk' 0) h1 b):=by
  refine⟨hQ,fun k hk r' g hk1 hg hb =>?_⟩
  rcases hb with hb|hb
  ·exact hI'.notM hk1 hg hb
  ·rw[hh1]at hb
   obtain⟨l,r2,g',q0,q1,q2,q3⟩:=(hIB _).1 hb
   have:=hI'.inj k l r' r2 g g' hk1 q1 hg q2 q3.symm
   subst this
   have:=ads.1 c5 _ hk
   simp[q0]at this
 obtain⟨v,hv1,hv2⟩:=ub (P:=P) (s:=⟨st.t,EH st.h,st.e⟩) hT hI' hres hless
 have hlend:=hI'.aag hr1 c4 hcells c2 l5 hQ
 rw[c3,<- hh1]at hlend
 have hpost:a'.defers=[]∧∃v,(results fn a'.tmps).run P w'=.ok v w'∧(∃v' blk1,Ending.returned v=.returned v'∧dj (uw blk h0) w w'∧blk1 0=some g0∧w'.shape? g0.1=w.shape? g0.1∧(∀b,uw blk1 h1 b->w.heap.size<=b∨uw blk h0 b)∧EP w' (fun b=>M b∨uw blk1 h1 b) blk1 h1∧RP w' (fun b=>M b∨uw blk1 h1 b) (mm ds) v'):=by
  refine⟨hI'.defers,v,hv1,v,oY blk' 0,rfl,⟨hI'.below.os,hI'.below.tape,hI'.below.output,hI'.below.size,fun k hk hn=>hI'.below.block k hk fun hb=>hn ((hLB k).1 hb)⟩,by rw[oY,p6];exact p1,p2 g0 rfl,fun b hb =>?_,hlend,hv2⟩
  rw[hh1]at hb
  obtain⟨k,r',g',q0,q1,q2,q3⟩:=(hIB b).1 hb
  rcases hI'.base q1 q2 with q|q
  ·exact .inl (by omega)
  ·exact .inr (by rw[<- q3];exact (hLB _).1 q)
 cases x with
 | normal=>exact hpost
 | ret=>exact hpost
 | exit n=>exact (hne n rfl).elim
theorem abm (hT:js P T) (hΓ:bB P Γ) (hm:P.follows .mixedOrders=true) {f:FuncId} {fn:Func} {F:Nat} {args:List D} {c:Code} {x:Ex} {st:St} (hf:P.funcs[f]? = some fn) (hc:fn.body=some c) (hok:codeOk c=true) (hn:args.length<=fn.ntmps) (hbig:fn.ntmps<=PK)
  (hv:fT T Γ fn.ntmps F c (bZ none args)=some (x,st)) (hne:∀n,x ≠ .exit n) {w:World} {M:Nat->Prop} {vs:Array Value} (hM:∀b,M b->b<w.heap.size) (hargs:zl w M args vs) {Φ:Ending->World->Prop}
  (hk:∀a' w' blk',Inv fn.ntmps M none w blk' (VE fn.ntmps st.e [] st.h) st.t (EH st.h) a' w'->∃v,(results fn a'.tmps).run P w'=.ok v w'∧Φ (.returned v) w'):Calls P f vs w Φ:=by
 have hI:Inv fn.ntmps M none w (fun _=>none) (fun x v=>x<fn.ntmps∧v<0) (bZ none args).t (bZ none args).h { tmps:=vs++Array.replicate (fn.ntmps-vs.size) undef,defers:=[] } w:={
  tab:=fun b hb=>(hargs.tab b hb).less fun b hb=>by
   rcases hb with hb|⟨x,r,g,hx,_⟩
   ·exact hb
   ·cases hx
  below:=dj.refl _ _
  mlt:=hM
  lent:=fun b hb=>absurd hb qO
  pin:=fun go hg=>by cases hg
  defers:=rfl
  tsz:=by have:=hargs.1;simp;omega
  slots:=fun i=>by
   simp only[bZ]
   rcases yf (n:=fn.ntmps) (i:=i) hargs.1 with he|he
   ·rw[he]
    by_cases hi:i<args.length
    ·have h1:=hargs.2 i _ (adu hi)
     have e1:args.getD i .und=args[i]:=by simp[List.getD,hi]
     rw[e1]
     exact bD (h1.less fun b hb=>by
      rcases hb with hb|⟨x,r,g,hx,_⟩
      ·exact hb
      ·cases hx)
    ·have e1:args.getD i .und=.und:=by simp[List.getD,aeN (aeU hi)]
     rw[e1]
     trivial
   ·rw[he];trivial
  rows:=fun x r hx=>by cases hx
  inj:=fun x y r s g g' hx=>by cases hx
  big:=hbig
  pha:=fun y r g hy=>by cases hy
  ali:=fun y r g hy=>by cases hy }
 refine calls_of_wp hf hc ?_
 refine pS hT hΓ hm c (bZ none args) x st _ _ _ hv hok ⟨_,⟨(by rw[A3 (fun k r hk=>by cases hk)];exact hI.weaken fun x v hx=>absurd hx.2 (Nat.not_lt_zero _)),fun x r ty s nv cs hx=>by cases hx⟩⟩ (fun a' w' hH =>?_)
 obtain⟨blk',hIE⟩:=hH
 obtain⟨v,h1,h2⟩:=hk a' w' blk' hIE.inv
 have hpost:a'.defers=[]∧∃v,(results fn a'.tmps).run P w'=.ok v w'∧Φ (.returned v) w':=⟨hIE.inv.defers,v,h1,h2⟩
 cases x with
 | normal=>exact hpost
 | ret=>exact hpost
 | exit n=>exact (hne n rfl).elim
theorem AA {F:Nat} {fn:Func} {args:List D} {ty t s S n:Nat} {cs:List D} (hr:sr T Γ F fn args=some (ty,t,s,S,n,cs)) :
  ∃c x st i k v r nv,fn.body=some c∧fn.ntmps<=PK∧fT T Γ fn.ntmps F c (bZ none args)=some (x,st)∧(∀m,x ≠ .exit m)∧fn.results.toList=[.tmp i]∧st.t i=.buf k v S 0 n∧st.h k=some r∧r.v=v∧r.fz=false∧r.mp=true∧k<PK∧r.ty=ty∧r.cells=[.nr t s nv cs]:=by
 unfold sr at hr
 split at hr<;>try (cases hr;done)
 rename_i c hc
 split at hr<;>try (cases hr;done)
 rename_i hbig
 split at hr<;>try (cases hr;done)
 rename_i x st hne hv
 unfold Ts at hr
 split at hr<;>try (cases hr;done)
 rename_i i hrs
 unfold RB at hr
 split at hr<;>try (cases hr;done)
 rename_i k v S' n' ht
 unfold KU at hr
 split at hr<;>try (cases hr;done)
 rename_i r hh
 split at hr<;>try (cases hr;done)
 rename_i hcond
 unfold VM at hr
 split at hr<;>try (cases hr;done)
 rename_i t' s' nv cs' hcells
 split at hr<;>try (cases hr;done)
 rename_i hk
 simp only[adq,Prod.mk.injEq]at hr
 obtain⟨h1,h2,h3,h4,h5,h6⟩:=hr
 subst h2 h3 h4 h5 h6
 exact⟨c,x,st,i,k,v,r,nv,hc,hbig,hv,fun m hm=>hne m hm,hrs,ht,hh,hcond.1,hcond.2.1,hcond.2.2,hk,h1,hcells⟩
theorem Js (hT:js P T) (hΓ:bB P Γ) (hm:P.follows .mixedOrders=true) {f:FuncId} {fn:Func} {F:Nat} {args:List D} {ty t s S n:Nat} {cs:List D} (hf:P.funcs[f]? = some fn)
  (hok:(match fn.body with|some c=>codeOk c|none=>true)=true) (hn:args.length<=fn.ntmps)
  (hr:sr T Γ F fn args=some (ty,t,s,S,n,cs)):HU P f args ty t s S n cs:=by
 obtain⟨c,x,st,i,k,v,r,nv,hc,hbig,hv,hne,hrs,ht,hh,c1,c2,c3,hk,hty,hcells⟩:=AA hr
 rw[hc]at hok
 simp only at hok
 intro w M h vs hh0 hM hargs
 refine abm hT hΓ hm hf hc hok hn hbig hv hne hM hargs fun a' w' blk' hI' =>?_
 have hIB:=HW (blk:=blk') hh c3 hcells hk
 rw[hty,<- hh0]at hIB
 have hbel:Below w.heap.size w w':=hI'.below.below (fun b hb=>absurd hb qO)
 have hQ:∀b,(M b∨uw (oY blk' k) h b)->Own M (EH st.h) blk' b:=by
  rintro b (hb|hb)
  ·exact .inl hb
  ·obtain⟨l,r',g',q0,q1,q2,q3⟩:=(hIB b).1 hb
   refine .inr ⟨l,r',g',q1,?_,q2,q3⟩
   rcases dH hh c3 hcells hk q0 q1 with⟨_,rfl⟩|⟨_,_,_,_,_,rfl⟩<;>exact c2
 have hlend:=hI'.aag hh c3 hcells c2 hk hQ
 rw[hty,<- hh0]at hlend
 have hsl:=hI'.slots i
 rw[ht]at hsl
 refine⟨_,kU hrs,_,oY blk' k,rfl,hbel,fun b hb =>?_,hlend,trivial,fun r' _ _ =>?_⟩
 ·obtain⟨l,r',g',q0,q1,q2,q3⟩:=(hIB b).1 hb
  rcases hI'.base q1 q2 with q|q
  ·omega
  ·exact absurd q qO
 ·rw[oY,p6]
  exact hsl.2 _ (fC hh c3 hcells hk) c1
theorem XC {s:Nat} {d:D} (h:vE s d=true):fb (D1 d)=true:=by
 cases d<;>first|rfl|exact h
theorem Ju (hT:js P T) (hΓ:bB P Γ) (hm:P.follows .mixedOrders=true) {f:FuncId} {fn:Func} {F:Nat} {args:List D} {d:D} (hf:P.funcs[f]? = some fn)
  (hok:(match fn.body with|some c=>codeOk c|none=>true)=true) (hn:args.length<=fn.ntmps)
  (hr:QC T Γ F fn args=some d):n7 P f none args (.clean d) none:=by
 unfold QC VO at hr
 split at hr<;>try (cases hr;done)
 rename_i ty t s S n cs hF
 split at hr<;>try (cases hr;done)
 rename_i hcond
 simp only[adq]at hr
 subst hr
 obtain⟨hle,hall⟩:=hcond
 obtain⟨c,x,st,i,k,v,r,nv,hc,hbig,hv,hne,hrs,ht,hh,c1,c2,c3,hk,hty,hcells⟩:=AA hF
 rw[hc]at hok
 simp only at hok
 intro w M vs hM hargs
 refine abm hT hΓ hm hf hc hok hn hbig hv hne hM hargs fun a' w' blk' hI' =>?_
 have hbel:Below w.heap.size w w':=hI'.below.below (fun b hb=>absurd hb qO)
 obtain⟨k1,_⟩:=hI'.aab (o:=0) hh c3 hcells c2 hk cs.length (by rw[aeB,afg];exact hall)
 have hw:qz cs.length 0 cs=cs.map D1:=by
  apply afh
  intro j
  rw[su,ade]
  cases hj:cs[j]? with
  | none=>rfl
  | some d =>
   have:=(adK.1 hj).1
   simp only[Option.map_some]
   rw[if_pos (by omega)]
 rw[hw]at k1
 generalize hh2:b6 st.h k (some (⟨r.v,r.ty,[.nr t s nv (cs.map D1)],false,r.lst,true⟩:Row))=h2 at k1
 have hx2:h2 k=some ⟨r.v,r.ty,[.nr t s nv (cs.map D1)],false,r.lst,true⟩:=by rw[<- hh2,ax]
 have hEk:=fC hx2 rfl rfl hk
 have k2:=k1.lO (x:=k) (r:=⟨r.v,r.ty,(cs.map D1).mapIdx (pQ k s),false,r.lst,true⟩) (r0:=⟨r.v,r.ty,cs.map D1,false,r.lst,false⟩) (w':=w') hEk rfl rfl rfl rfl rfl (adh _) (fun _ _ _=>rfl) (by
  cases hg:blk' k with
  | none =>
   have:=(k1.rows k _ hEk).2
   rw[hg]at this
   have h1:(cs.map D1).mapIdx (pQ k s)=[]:=this
   have h2:(cs.map D1).length=0:=by
    have:=congrArg List.length h1
    simpa using this
   exact aeq h2
  | some g =>
   obtain⟨arr,a1,a2,a3⟩:=k1.CZ hx2 rfl rfl hk hg
   refine⟨rfl,arr,a1,a2,fun j d hj =>?_⟩
   have hd:fb d=true:=by
    have:=hj
    simp only[ade,adf]at this
    obtain⟨d0,hd0,rfl⟩:=this
    exact XC (ads.1 hall d0 (adJ hd0))
   exact⟨(gj hd).1,a3 j d hj hd⟩) (fun h=>by cases h)
 have hlive:live (b6 (EH h2) k (some ⟨r.v,r.ty,cs.map D1,false,r.lst,false⟩)) k v=some ⟨r.v,r.ty,cs.map D1,false,r.lst,false⟩:=by
  unfold live
  rw[ax]
  simp[c1]
 have hcl:Am.bp (b6 (EH h2) k (some ⟨r.v,r.ty,cs.map D1,false,r.lst,false⟩)) (.buf k v S 0 n)=some (.sl false false n ((cs.map D1).take (n*S)),[k]):=by
  simp only[Am.bp,Am.aN,Am.cU,hlive,ad4,aeB]
  rw[if_pos (by rw[adL];exact hle)]
  rfl
 have hsl:=k2.slots i
 rw[ht]at hsl
 exact⟨_,kU hrs,_,rfl,hbel,k2.bp hcl (k2.Zu [k]) hsl⟩
end
def tab (t:Nat):Option Ty :=
 match t with
 | 2=>some ⟨.int .i64,1,8,[.int .i64 0],false⟩
 | 3=>some ⟨.int .i64,1,8,[.int .i64 0],false⟩
 | 4=>some ⟨.bool,1,1,[.bool false],false⟩
 | 5=>some ⟨.int .u8,1,1,[.int .u8 0],false⟩
 | 9=>some ⟨.str,1,16,[.string ⟨#[]⟩],false⟩
 | 12=>some ⟨.int .u64,1,8,[.int .u64 0],false⟩
 | 21=>some ⟨.int .i32,1,4,[.int .i32 0],false⟩
 | 22=>some ⟨.slice 46,1,24,[.slice none 0 0],false⟩
 | 23=>some ⟨.struct [(3,0),(22,1)],2,32,[.int .i64 0,.slice none 0 0],false⟩
 | 24=>some ⟨.struct [(3,0),(22,1)],2,32,[.int .i64 0,.slice none 0 0],false⟩
 | 25=>some ⟨.slice 41,1,24,[.slice none 0 0],false⟩
 | 30=>some ⟨.int .i64,1,8,[.int .i64 0],false⟩
 | 33=>some ⟨.slice 3,1,24,[.slice none 0 0],false⟩
 | 37=>some ⟨.slice 4,1,24,[.slice none 0 0],false⟩
 | 38=>some ⟨.struct [(3,0),(33,1)],2,32,[.int .i64 0,.slice none 0 0],false⟩
 | 39=>some ⟨.struct [(3,0),(33,1)],2,32,[.int .i64 0,.slice none 0 0],false⟩
 | 40=>some ⟨.struct [(39,0),(39,2)],4,64,[.int .i64 0,.slice none 0 0,.int .i64 0,.slice none 0 0],false⟩
 | 41=>some ⟨.struct [(39,0),(39,2)],4,64,[.int .i64 0,.slice none 0 0,.int .i64 0,.slice none 0 0],false⟩
 | 45=>some ⟨.struct [(3,0),(3,1),(41,2)],6,80,[.int .i64 0,.int .i64 0,.int .i64 0,.slice none 0 0,.int .i64 0,.slice none 0 0],false⟩
 | 46=>some ⟨.struct [(3,0),(3,1),(41,2)],6,80,[.int .i64 0,.int .i64 0,.int .i64 0,.slice none 0 0,.int .i64 0,.slice none 0 0],false⟩
 | 55=>some ⟨.slice 5,1,24,[.slice none 0 0],false⟩
 | 65=>some ⟨.slice 69,1,24,[.slice none 0 0],false⟩
 | 67=>some ⟨.slice 74,1,24,[.slice none 0 0],false⟩
 | 68=>some ⟨.struct [(41,0),(67,4)],5,88,[.int .i64 0,.slice none 0 0,.int .i64 0,.slice none 0 0,.slice none 0 0],false⟩
 | 69=>some ⟨.struct [(41,0),(67,4)],5,88,[.int .i64 0,.slice none 0 0,.int .i64 0,.slice none 0 0,.slice none 0 0],false⟩
 | 73=>some ⟨.struct [(3,0),(41,1)],5,72,[.int .i64 0,.int .i64 0,.slice none 0 0,.int .i64 0,.slice none 0 0],false⟩
 | 74=>some ⟨.struct [(3,0),(41,1)],5,72,[.int .i64 0,.int .i64 0,.slice none 0 0,.int .i64 0,.slice none 0 0],false⟩
 | 97=>some ⟨.slice 33,1,24,[.slice none 0 0],false⟩
 | 111=>some ⟨.int .u64,1,8,[.int .u64 0],false⟩
 | 117=>some ⟨.int .u64,1,8,[.int .u64 0],false⟩
 | 123=>some ⟨.int .u32,1,4,[.int .u32 0],false⟩
 | _=>none
theorem ZJ:tab 2=some ⟨.int .i64,1,8,[.int .i64 0],false⟩:=rfl
theorem SX:tab 3=some ⟨.int .i64,1,8,[.int .i64 0],false⟩:=rfl
theorem ZK:tab 4=some ⟨.bool,1,1,[.bool false],false⟩:=rfl
theorem Xf:tab 5=some ⟨.int .u8,1,1,[.int .u8 0],false⟩:=rfl
theorem ZL:tab 9=some ⟨.str,1,16,[.string ⟨#[]⟩],false⟩:=rfl
theorem W7:tab 12=some ⟨.int .u64,1,8,[.int .u64 0],false⟩:=rfl
theorem W8:tab 21=some ⟨.int .i32,1,4,[.int .i32 0],false⟩:=rfl
theorem Qg:tab 22=some ⟨.slice 46,1,24,[.slice none 0 0],false⟩:=rfl
theorem W9:tab 23=some ⟨.struct [(3,0),(22,1)],2,32,[.int .i64 0,.slice none 0 0],false⟩:=rfl
theorem Jl:tab 24=some ⟨.struct [(3,0),(22,1)],2,32,[.int .i64 0,.slice none 0 0],false⟩:=rfl
theorem Jm:tab 25=some ⟨.slice 41,1,24,[.slice none 0 0],false⟩:=rfl
theorem Xa:tab 30=some ⟨.int .i64,1,8,[.int .i64 0],false⟩:=rfl
theorem Jn:tab 33=some ⟨.slice 3,1,24,[.slice none 0 0],false⟩:=rfl
theorem Xb:tab 37=some ⟨.slice 4,1,24,[.slice none 0 0],false⟩:=rfl
theorem Xc:tab 38=some ⟨.struct [(3,0),(33,1)],2,32,[.int .i64 0,.slice none 0 0],false⟩:=rfl
theorem Qh:tab 39=some ⟨.struct [(3,0),(33,1)],2,32,[.int .i64 0,.slice none 0 0],false⟩:=rfl
theorem Xd:tab 40=some ⟨.struct [(39,0),(39,2)],4,64,[.int .i64 0,.slice none 0 0,.int .i64 0,.slice none 0 0],false⟩:=rfl
theorem DR:tab 41=some ⟨.struct [(39,0),(39,2)],4,64,[.int .i64 0,.slice none 0 0,.int .i64 0,.slice none 0 0],false⟩:=rfl
theorem Xe:tab 45=some ⟨.struct [(3,0),(3,1),(41,2)],6,80,[.int .i64 0,.int .i64 0,.int .i64 0,.slice none 0 0,.int .i64 0,.slice none 0 0],false⟩:=rfl
theorem Jo:tab 46=some ⟨.struct [(3,0),(3,1),(41,2)],6,80,[.int .i64 0,.int .i64 0,.int .i64 0,.slice none 0 0,.int .i64 0,.slice none 0 0],false⟩:=rfl
theorem Xg:tab 55=some ⟨.slice 5,1,24,[.slice none 0 0],false⟩:=rfl
theorem Xh:tab 65=some ⟨.slice 69,1,24,[.slice none 0 0],false⟩:=rfl
theorem Xi:tab 67=some ⟨.slice 74,1,24,[.slice none 0 0],false⟩:=rfl
theorem Xj:tab 68=some ⟨.struct [(41,0),(67,4)],5,88,[.int .i64 0,.slice none 0 0,.int .i64 0,.slice none 0 0,.slice none 0 0],false⟩:=rfl
theorem Qi:tab 69=some ⟨.struct [(41,0),(67,4)],5,88,[.int .i64 0,.slice none 0 0,.int .i64 0,.slice none 0 0,.slice none 0 0],false⟩:=rfl
theorem Xk:tab 73=some ⟨.struct [(3,0),(41,1)],5,72,[.int .i64 0,.int .i64 0,.slice none 0 0,.int .i64 0,.slice none 0 0],false⟩:=rfl
theorem Xl:tab 74=some ⟨.struct [(3,0),(41,1)],5,72,[.int .i64 0,.int .i64 0,.slice none 0 0,.int .i64 0,.slice none 0 0],false⟩:=rfl
theorem Xm:tab 97=some ⟨.slice 33,1,24,[.slice none 0 0],false⟩:=rfl
theorem SU:tab 111=some ⟨.int .u64,1,8,[.int .u64 0],false⟩:=rfl
theorem SV:tab 117=some ⟨.int .u64,1,8,[.int .u64 0],false⟩:=rfl
theorem SW:tab 123=some ⟨.int .u32,1,4,[.int .u32 0],false⟩:=rfl
theorem acC:fU Try.prog 2 ⟨.int .i64,1,8,[.int .i64 0],false⟩:=⟨by kernel_rfl,by kernel_rfl,by kernel_rfl,fun h=>by cases h⟩
theorem acD:fU Try.prog 3 ⟨.int .i64,1,8,[.int .i64 0],false⟩:=⟨by kernel_rfl,by kernel_rfl,by kernel_rfl,fun h=>by cases h⟩
theorem acE:fU Try.prog 4 ⟨.bool,1,1,[.bool false],false⟩:=⟨by kernel_rfl,by kernel_rfl,by kernel_rfl,fun h=>by cases h⟩
theorem acF:fU Try.prog 5 ⟨.int .u8,1,1,[.int .u8 0],false⟩:=⟨by kernel_rfl,by kernel_rfl,by kernel_rfl,fun h=>by cases h⟩
theorem acG:fU Try.prog 9 ⟨.str,1,16,[.string ⟨#[]⟩],false⟩:=⟨by kernel_rfl,by kernel_rfl,by kernel_rfl,fun h=>by cases h⟩
theorem abv:fU Try.prog 12 ⟨.int .u64,1,8,[.int .u64 0],false⟩:=⟨by kernel_rfl,by kernel_rfl,by kernel_rfl,fun h=>by cases h⟩
theorem abw:fU Try.prog 21 ⟨.int .i32,1,4,[.int .i32 0],false⟩:=⟨by kernel_rfl,by kernel_rfl,by kernel_rfl,fun h=>by cases h⟩
theorem abx:fU Try.prog 22 ⟨.slice 46,1,24,[.slice none 0 0],false⟩:=⟨by kernel_rfl,by kernel_rfl,by kernel_rfl,fun h=>by cases h⟩
theorem aby:fU Try.prog 23 ⟨.struct [(3,0),(22,1)],2,32,[.int .i64 0,.slice none 0 0],false⟩:=⟨by kernel_rfl,by kernel_rfl,by kernel_rfl,fun h=>by cases h⟩
theorem abz:fU Try.prog 24 ⟨.struct [(3,0),(22,1)],2,32,[.int .i64 0,.slice none 0 0],false⟩:=⟨by kernel_rfl,by kernel_rfl,by kernel_rfl,fun h=>by cases h⟩
theorem abA:fU Try.prog 25 ⟨.slice 41,1,24,[.slice none 0 0],false⟩:=⟨by kernel_rfl,by kernel_rfl,by kernel_rfl,fun h=>by cases h⟩
theorem abB:fU Try.prog 30 ⟨.int .i64,1,8,[.int .i64 0],false⟩:=⟨by kernel_rfl,by kernel_rfl,by kernel_rfl,fun h=>by cases h⟩
theorem abC:fU Try.prog 33 ⟨.slice 3,1,24,[.slice none 0 0],false⟩:=⟨by kernel_rfl,by kernel_rfl,by kernel_rfl,fun h=>by cases h⟩
theorem abD:fU Try.prog 37 ⟨.slice 4,1,24,[.slice none 0 0],false⟩:=⟨by kernel_rfl,by kernel_rfl,by kernel_rfl,fun h=>by cases h⟩
theorem abE:fU Try.prog 38 ⟨.struct [(3,0),(33,1)],2,32,[.int .i64 0,.slice none 0 0],false⟩:=⟨by kernel_rfl,by kernel_rfl,by kernel_rfl,fun h=>by cases h⟩
theorem abF:fU Try.prog 39 ⟨.struct [(3,0),(33,1)],2,32,[.int .i64 0,.slice none 0 0],false⟩:=⟨by kernel_rfl,by kernel_rfl,by kernel_rfl,fun h=>by cases h⟩
theorem abG:fU Try.prog 40 ⟨.struct [(39,0),(39,2)],4,64,[.int .i64 0,.slice none 0 0,.int .i64 0,.slice none 0 0],false⟩:=⟨by kernel_rfl,by kernel_rfl,by kernel_rfl,fun h=>by cases h⟩
theorem abH:fU Try.prog 41 ⟨.struct [(39,0),(39,2)],4,64,[.int .i64 0,.slice none 0 0,.int .i64 0,.slice none 0 0],false⟩:=⟨by kernel_rfl,by kernel_rfl,by kernel_rfl,fun h=>by cases h⟩
theorem abI:fU Try.prog 45 ⟨.struct [(3,0),(3,1),(41,2)],6,80,[.int .i64 0,.int .i64 0,.int .i64 0,.slice none 0 0,.int .i64 0,.slice none 0 0],false⟩:=⟨by kernel_rfl,by kernel_rfl,by kernel_rfl,fun h=>by cases h⟩
theorem abJ:fU Try.prog 46 ⟨.struct [(3,0),(3,1),(41,2)],6,80,[.int .i64 0,.int .i64 0,.int .i64 0,.slice none 0 0,.int .i64 0,.slice none 0 0],false⟩:=⟨by kernel_rfl,by kernel_rfl,by kernel_rfl,fun h=>by cases h⟩
theorem abK:fU Try.prog 55 ⟨.slice 5,1,24,[.slice none 0 0],false⟩:=⟨by kernel_rfl,by kernel_rfl,by kernel_rfl,fun h=>by cases h⟩
theorem abL:fU Try.prog 65 ⟨.slice 69,1,24,[.slice none 0 0],false⟩:=⟨by kernel_rfl,by kernel_rfl,by kernel_rfl,fun h=>by cases h⟩
theorem abM:fU Try.prog 67 ⟨.slice 74,1,24,[.slice none 0 0],false⟩:=⟨by kernel_rfl,by kernel_rfl,by kernel_rfl,fun h=>by cases h⟩
theorem abN:fU Try.prog 68 ⟨.struct [(41,0),(67,4)],5,88,[.int .i64 0,.slice none 0 0,.int .i64 0,.slice none 0 0,.slice none 0 0],false⟩:=⟨by kernel_rfl,by kernel_rfl,by kernel_rfl,fun h=>by cases h⟩
theorem abO:fU Try.prog 69 ⟨.struct [(41,0),(67,4)],5,88,[.int .i64 0,.slice none 0 0,.int .i64 0,.slice none 0 0,.slice none 0 0],false⟩:=⟨by kernel_rfl,by kernel_rfl,by kernel_rfl,fun h=>by cases h⟩
theorem abP:fU Try.prog 73 ⟨.struct [(3,0),(41,1)],5,72,[.int .i64 0,.int .i64 0,.slice none 0 0,.int .i64 0,.slice none 0 0],false⟩:=⟨by kernel_rfl,by kernel_rfl,by kernel_rfl,fun h=>by cases h⟩
theorem abQ:fU Try.prog 74 ⟨.struct [(3,0),(41,1)],5,72,[.int .i64 0,.int .i64 0,.slice none 0 0,.int .i64 0,.slice none 0 0],false⟩:=⟨by kernel_rfl,by kernel_rfl,by kernel_rfl,fun h=>by cases h⟩
theorem abR:fU Try.prog 97 ⟨.slice 33,1,24,[.slice none 0 0],false⟩:=⟨by kernel_rfl,by kernel_rfl,by kernel_rfl,fun h=>by cases h⟩
theorem aaC:fU Try.prog 111 ⟨.int .u64,1,8,[.int .u64 0],false⟩:=⟨by kernel_rfl,by kernel_rfl,by kernel_rfl,fun h=>by cases h⟩
theorem aaD:fU Try.prog 117 ⟨.int .u64,1,8,[.int .u64 0],false⟩:=⟨by kernel_rfl,by kernel_rfl,by kernel_rfl,fun h=>by cases h⟩
theorem aaE:fU Try.prog 123 ⟨.int .u32,1,4,[.int .u32 0],false⟩:=⟨by kernel_rfl,by kernel_rfl,by kernel_rfl,fun h=>by cases h⟩
theorem tok:js Try.prog tab:=by
 intro t τ h
 unfold tab at h
 split at h
 ·cases h;exact acC
 ·cases h;exact acD
 ·cases h;exact acE
 ·cases h;exact acF
 ·cases h;exact acG
 ·cases h;exact abv
 ·cases h;exact abw
 ·cases h;exact abx
 ·cases h;exact aby
 ·cases h;exact abz
 ·cases h;exact abA
 ·cases h;exact abB
 ·cases h;exact abC
 ·cases h;exact abD
 ·cases h;exact abE
 ·cases h;exact abF
 ·cases h;exact abG
 ·cases h;exact abH
 ·cases h;exact abI
 ·cases h;exact abJ
 ·cases h;exact abK
 ·cases h;exact abL
 ·cases h;exact abM
 ·cases h;exact abN
 ·cases h;exact abO
 ·cases h;exact abP
 ·cases h;exact abQ
 ·cases h;exact abR
 ·cases h;exact aaC
 ·cases h;exact aaD
 ·cases h;exact aaE
 ·cases h
theorem mixed:Try.prog.follows .mixedOrders=true:=by kernel_rfl
def oL {α:Type} (x:Option α) (K:α->Prop):Prop :=
 match x with
 | some a=>K a
 | none=>False
def br (b:Bool) (A B:Prop):Prop:=(b=true->A)∧(b=false->B)
def QD (d:D) (t:Nat->D) (g:Nat) (A B:(Nat->D)->Prop):Prop :=
 match d with
 | .bool b=>br b (A (b6 t g (.bool b))) (B (b6 t g (.bool b)))
 | _=>False
def wpS (d:D) (t:Nat->D) (g:Nat) (A B S:(Nat->D)->Prop):Prop :=
 match d with
 | .skp=>S t
 | d=>QD d t g A B
theorem ym {t:Nat->D} {g:Nat} {b:Bool} {A B S:(Nat->D)->Prop} : wpS (.bool b) t g A B S=br b (A (b6 t g (.bool b))) (B (b6 t g (.bool b))):=rfl
def XJ (ops:List Oper) (t:Nat->D) (gd:Option (Nat×Bool)) (A B:(Nat->D)->Prop):Prop :=
 match gd with
 | none=>A t
 | some (j,want)=>oL ((ops[j]?).bind (·.dst)) fun g=>wpS (t g) t g (if want then A else B) (if want then B else A) B
def QG (T:Nat->Option Ty) (Γ:Env) (e:Nat) (o:Oper) (t:Nat->D) (h:Nat->Option Row) (K:(Nat->D)->bM->Prop):Prop :=
 match o.op with
 | .pick (.tmp c) a b=>QD (t c) t c (fun t=>K t ⟨ev t a,[]⟩) (fun t=>K t ⟨ev t b,[]⟩)
 | _=>oL (oX T Γ e o (ev t) h) (K t)
def DF (T:Nat->Option Ty) (Γ:Env) (N e:Nat) (ops:List Oper):List Oper->(Nat->D)->(Nat->Option Row)->((Nat->D)->(Nat->Option Row)->Prop)->Prop
 | [],t,h,K=>K t h
 | o::l,t,h,K=>fits N o.dst=true∧XJ ops t o.guard (fun t=>QG T Γ e o t h fun t E=>DF T Γ N e ops l (dR t o.dst E.val) (aH h E.hw) K) (fun t=>DF T Γ N e ops l (dR t o.dst .skp) h K)
def runK (T:Nat->Option Ty) (Γ:Env) (N e:Nat) (ops:List Oper):List Oper->(Nat->D)->(Nat->Option Row)->List jQ->((Nat->D)->(Nat->Option Row)->List jQ->Prop)->Prop
 | [],t,h,fs,K=>K t h fs
 | o::l,t,h,fs,K=>fits N o.dst=true∧XJ ops t o.guard (fun t=>QG T Γ e o t h fun t E=>runK T Γ N e ops l (dR t o.dst E.val) (aH h E.hw) (fs++[⟨bj o (ev t),E.hw.isEmpty⟩]) K) (fun t=>runK T Γ N e ops l (dR t o.dst .skp) h (fs++[⟨[],true⟩]) K)
abbrev Kt:=Ex->(Nat->D)->(Nat->Option Row)->Nat->Prop
def abp (x:Ex) (A:Prop) (B:Prop):Prop :=
 match x with
 | .normal=>A
 | _=>B
def U1 (id:Nat) (x:Ex) (t:Nat->D) (h:Nat->Option Row) (e:Nat) (K:Kt):Prop :=
 match x with
 | .exit n=>if n=id then K .normal t h e else K (.exit n) t h e
 | x=>K x t h e
def wpR (T:Nat->Option Ty) (Γ:Env) (N:Nat) (ops:Array Oper) (draw:Bool) (t:Nat->D) (h:Nat->Option Row) (e:Nat) (K:(Nat->D)->(Nat->Option Row)->Prop):Prop :=
 match draw with
 | true=>runK T Γ N e ops.toList ops.toList t h [] fun t h fs=>B5 ops fs=true∧K t h
 | false=>DF T Γ N e ops.toList ops.toList t h K
def JA (T:Nat->Option Ty) (Γ:Env) (N F:Nat):Code->(Nat->D)->(Nat->Option Row)->Nat->Kt->Prop
 | .skip,t,h,e,K=>K .normal t h e
 | .region _ ops draw,t,h,e,K=>wpR T Γ N ops draw t h e fun t h=>K .normal t h (e+1)
 | .seq a b,t,h,e,K=>JA T Γ N F a t h e fun x t h e=>abp x (JA T Γ N F b t h e K) (K x t h e)
 | .cond c x y,t,h,e,K =>
  match c with
  | .tmp g=>QD (t g) t g (fun t=>JA T Γ N F x t h e K) (fun t=>JA T Γ N F y t h e K)
  | .const (.bool true)=>JA T Γ N F x t h e K
  | .const (.bool false)=>JA T Γ N F y t h e K
  | _=>False
 | .block id b,t,h,e,K=>JA T Γ N F b t h e fun x t h e=>U1 id x t h e K
 | .loop b,t,h,e,K=>∃x s,iter (fT T Γ N F b) F ⟨t,h,e⟩=some (x,s)∧K x s.t s.h s.e
 | .exit id,t,h,e,K=>K (.exit id) t h e
 | .ret,t,h,e,K=>K .ret t h e
 | _,_,_,_,_=>False
def Z4 (mode:Mode) (T:Nat->Option Ty) (lent:Option (D×Row)) (rs:List ResultVar) (x:Ex) (t:Nat->D) (h:Nat->Option Row) (e:Nat) (r:RK×Option Row):Prop :=
 match x with
 | .exit _=>False
 | _=>jd mode T lent rs ⟨t,EH h,e⟩=some r
def wpf (mode:Mode) (T:Nat->Option Ty) (Γ:Env) (F:Nat) (fn:Func) (lent:Option (D×Row)) (args:List D) (r:RK×Option Row):Prop :=
 oL fn.body fun c=>JA T Γ fn.ntmps F c (bZ lent args).t (bZ lent args).h (bZ lent args).e fun x t h e=>Z4 mode T lent fn.results.toList x t h e r
theorem rR {α:Type} (a:α) (K:α->Prop):oL (some a) K=K a:=rfl
theorem C3 {α:Type} {x:Option α} {K:α->Prop} (h:oL x K):∃a,x=some a∧K a:=by
 cases x with
 | none=>exact h.elim
 | some a=>exact⟨a,rfl,h⟩
theorem Qz {t:Nat->D} {g:Nat} {d:D} (h:t g=d):b6 t g d=t:=by
 funext j
 unfold b6
 split
 ·rename_i e;subst e;exact h.symm
 ·rfl
theorem H2 (A B:Prop):br true A B=A:=by simp[br]
theorem Bq (A B:Prop):br false A B=B:=by simp[br]
theorem XX {b:Bool} {A B:Prop} (h:br b A B):if b then A else B:=by
 cases b with
 | true=>exact h.1 rfl
 | false=>exact h.2 rfl
theorem XH {t:Nat->D} {g:Nat} {b:Bool} {A B:(Nat->D)->Prop} : QD (.bool b) t g A B=br b (A (b6 t g (.bool b))) (B (b6 t g (.bool b))):=rfl
theorem yk {t:Nat->D} {g:Nat} {A B:(Nat->D)->Prop} (h:t g=.bool true):QD (.bool true) t g A B=A t:=by simp[QD,Qz h,H2]
theorem vw {t:Nat->D} {g:Nat} {A B:(Nat->D)->Prop} (h:t g=.bool false):QD (.bool false) t g A B=B t:=by simp[QD,Qz h,Bq]
theorem yn {t:Nat->D} {g:Nat} {A B S:(Nat->D)->Prop} (h:t g=.bool true):wpS (.bool true) t g A B S=A t:=yk h
theorem vx {t:Nat->D} {g:Nat} {A B S:(Nat->D)->Prop} (h:t g=.bool false):wpS (.bool false) t g A B S=B t:=vw h
theorem QF {t:Nat->D} {g:Nat} {A B:(Nat->D)->Prop} (h:QD (t g) t g A B):∃b,t g=.bool b∧(if b then A t else B t):=by
 unfold QD at h
 split at h
 ·rename_i b hb
  rw[Qz hb]at h
  exact⟨b,hb,XX h⟩
 ·exact h.elim
section
variable {T:Nat->Option Ty} {Γ:Env} {N F e:Nat}
theorem XK {ops:Array Oper} {t:Nat->D} {o:Oper} {A B:(Nat->D)->Prop} (h:XJ ops.toList t o.guard A B):∃b,tH ops t o=some b∧(if b then A t else B t):=by
 unfold XJ at h
 unfold tH
 split at h
 ·rename_i hg
  try rw[hg]
  exact⟨true,rfl,by simpa using h⟩
 ·rename_i j want hg
  try rw[hg]
  obtain⟨g,h1,h2⟩:=C3 h
  rw[ad7]at h1
  unfold wpS at h2
  split at h2
  ·rename_i hs
   simp only[h1,hs]
   exact⟨false,rfl,h2⟩
  ·obtain⟨b,h3,h4⟩:=QF h2
   simp only[h1,h3]
   refine⟨_,rfl,?_⟩
   cases b<;>cases want<;>simpa using h4
theorem XI {o:Oper} {t:Nat->D} {h:Nat->Option Row} {K:(Nat->D)->bM->Prop} (hw:QG T Γ e o t h K):∃E,oX T Γ e o (ev t) h=some E∧K t E:=by
 unfold QG at hw
 split at hw
 ·rename_i c a b ho
  obtain⟨v,h1,h2⟩:=QF hw
  have hq:lY Γ e h o.dst none=none:=by cases o.dst<;>rfl
  cases v with
  | true=>exact⟨⟨ev t a,[]⟩,by unfold oX iP lX;rw[ho];simp only[ev,h1,XQ,jO,gC,hq],by simpa only[if_true] using h2⟩
  | false=>exact⟨⟨ev t b,[]⟩,by unfold oX iP lX;rw[ho];simp only[ev,h1,XQ,jO,gC,hq],by simpa only[adR,if_false] using h2⟩
 ·obtain⟨E,h1,h2⟩:=C3 hw
  exact⟨E,h1,h2⟩
theorem Jd {ops:Array Oper} {K:(Nat->D)->(Nat->Option Row)->Prop} : ∀(l:List Oper) (t:Nat->D) (h:Nat->Option Row),DF T Γ N e ops.toList l t h K->∃t' h' fs,AO T Γ N e ops l t h=some (t',h',fs)∧K t' h'
 | [],t,h,hk=>⟨t,h,[],rfl,hk⟩
 | o::l,t,h,hk=>by
  unfold DF at hk
  obtain⟨hf,hg⟩:=hk
  obtain⟨b,h1,h2⟩:=XK hg
  unfold AO uf
  rw[if_pos hf,h1]
  cases b with
  | true =>
   obtain⟨E,h3,h4⟩:=XI (by simpa using h2)
   obtain⟨t',h',fs,h5,h6⟩:=Jd l _ _ h4
   simp only[h3,h5]
   exact⟨_,_,_,rfl,h6⟩
  | false =>
   obtain⟨t',h',fs,h5,h6⟩:=Jd l _ _ (by simpa using h2)
   simp only[h5]
   exact⟨_,_,_,rfl,h6⟩
theorem Jc {ops:Array Oper} {K:(Nat->D)->(Nat->Option Row)->List jQ->Prop} : ∀(l:List Oper) (t:Nat->D) (h:Nat->Option Row) (f0:List jQ),runK T Γ N e ops.toList l t h f0 K->∃t' h' fs,AO T Γ N e ops l t h=some (t',h',fs)∧K t' h' (f0++fs)
 | [],t,h,f0,hk=>⟨t,h,[],rfl,by unfold runK at hk;simpa using hk⟩
 | o::l,t,h,f0,hk=>by
  unfold runK at hk
  obtain⟨hf,hg⟩:=hk
  obtain⟨b,h1,h2⟩:=XK hg
  unfold AO uf
  rw[if_pos hf,h1]
  cases b with
  | true =>
   obtain⟨E,h3,h4⟩:=XI (by simpa using h2)
   obtain⟨t',h',fs,h5,h6⟩:=Jc l _ _ _ h4
   simp only[h3,h5]
   exact⟨_,_,_,rfl,by simpa using h6⟩
  | false =>
   obtain⟨t',h',fs,h5,h6⟩:=Jc l _ _ _ (by simpa using h2)
   simp only[h5]
   exact⟨_,_,_,rfl,by simpa using h6⟩
theorem aaG {ops:Array Oper} {draw:Bool} {t:Nat->D} {h:Nat->Option Row} {K:(Nat->D)->(Nat->Option Row)->Prop} (hk:wpR T Γ N ops draw t h e K):∃t' h',vv T Γ N ops draw ⟨t,h,e⟩=some (.normal,⟨t',h',e+1⟩)∧K t' h':=by
 unfold vv
 cases draw with
 | false =>
  obtain⟨t',h',fs,h1,h2⟩:=Jd _ _ _ hk
  simp only[h1]
  exact⟨t',h',by simp,h2⟩
 | true =>
  obtain⟨t',h',fs,h1,h2,h3⟩:=Jc _ _ _ _ hk
  simp only[h1]
  exact⟨t',h',by rw[aeW]at h2;simp[h2],h3⟩
theorem Jv:∀(c:Code) (t:Nat->D) (h:Nat->Option Row) (e:Nat) (K:Kt),JA T Γ N F c t h e K->∃x s,fT T Γ N F c ⟨t,h,e⟩=some (x,s)∧K x s.t s.h s.e:=by
 intro c
 induction c with
 | skip=>intro t h e K hk;exact⟨_,_,rfl,hk⟩
 | region i ops draw =>
  intro t h e K hk
  obtain⟨t',h',h1,h2⟩:=aaG hk
  exact⟨_,_,h1,h2⟩
 | seq a b iha ihb =>
  intro t h e K hk
  obtain⟨x,s,h1,h2⟩:=iha _ _ _ _ hk
  simp only[fT,h1]
  cases x with
  | normal =>
   obtain⟨x2,s2,h3,h4⟩:=ihb _ _ _ _ h2
   exact⟨x2,s2,h3,h4⟩
  | exit n=>exact⟨_,_,rfl,h2⟩
  | ret=>exact⟨_,_,rfl,h2⟩
 | cond c x y ihx ihy =>
  intro t h e K hk
  unfold JA at hk
  split at hk
  ·rename_i g
   obtain⟨b,h1,h2⟩:=QF hk
   simp only[fT,ev,h1,Og]
   cases b with
   | true=>exact ihx _ _ _ _ (by simpa using h2)
   | false=>exact ihy _ _ _ _ (by simpa using h2)
  ·simpa only[fT,ev,nh,Og,if_true] using ihx _ _ _ _ hk
  ·simpa only[fT,ev,nh,Og,adR,if_false] using ihy _ _ _ _ hk
  ·exact hk.elim
 | block id b ih =>
  intro t h e K hk
  obtain⟨x,s,h1,h2⟩:=ih _ _ _ _ hk
  simp only[fT,h1]
  cases x with
  | normal=>exact⟨_,_,rfl,h2⟩
  | ret=>exact⟨_,_,rfl,h2⟩
  | exit n =>
   simp only[QB]
   unfold U1 at h2
   simp only at h2
   split at h2
   ·rename_i hn;rw[if_pos hn];exact⟨_,_,rfl,h2⟩
   ·rename_i hn;rw[if_neg hn];exact⟨_,_,rfl,h2⟩
 | loop b ih=>intro t h e K hk;exact hk
 | exit id=>intro t h e K hk;exact⟨_,_,rfl,hk⟩
 | ret=>intro t h e K hk;exact⟨_,_,rfl,hk⟩
 | _=>intro t h e K hk;exact hk.elim
theorem XM {mode:Mode} {fn:Func} {lent:Option (D×Row)} {args:List D} {r:RK×Option Row} (h:wpf mode T Γ F fn lent args r) (hN:fn.ntmps<=PK):ba mode T Γ F fn lent args=some r:=by
 obtain⟨c,h1,h2⟩:=C3 h
 obtain⟨x,s,h3,h4⟩:=Jv _ _ _ _ _ h2
 unfold ba
 simp only[h1]
 rw[if_pos hN]
 have e0:bZ lent args=⟨(bZ lent args).t,(bZ lent args).h,(bZ lent args).e⟩:=rfl
 rw[e0,h3]
 unfold Z4 at h4
 split at h4
 ·exact h4.elim
 ·rename_i hx
  split
  ·rename_i n _ he;cases he;exact (hx n rfl).elim
  ·rename_i _ x' s' _ he
   cases he
   exact h4
  ·rename_i he;cases he
theorem S1 {α:Type} (f:Nat->α) (i:Nat) (v:α) (j:Nat):b6 f i v j=if j=i then v else f j:=af4
def yG (args:List D) (i:Nat):D:=args.getD i .und
theorem JJ (i:Nat):yG [] i=.und:=by simp[yG]
theorem EU (d:D) (l:List D):yG (d::l) 0=d:=af4
theorem ET (d:D) (l:List D) (i:Nat):yG (d::l) (i+1)=yG l i:=af4
def MT (_:Nat):Option Row:=none
theorem GM (i:Nat):MT i=none:=af4
end
inductive W where
 | code (c:Code)
 | blk (id:Nat)
section
variable (T:Nat->Option Ty) (Γ:Env) (N F:Nat)
def cD:List W->Kt->Kt
 | [],Q=>Q
 | .code c::ws,Q=>fun x t h e=>abp x (JA T Γ N F c t h e (cD ws Q)) (cD ws Q x t h e)
 | .blk id::ws,Q=>fun x t h e=>U1 id x t h e (cD ws Q)
def kz (ops l:List Oper) (ws:List W) (Q:Kt) (t:Nat->D) (h:Nat->Option Row) (e:Nat):Prop :=
 DF T Γ N e ops l t h fun t h=>cD T Γ N F ws Q .normal t h (e+1)
def kC (ops l:List Oper) (ws:List W) (Q:Kt) (t:Nat->D) (h:Nat->Option Row) (e:Nat) (fs:List jQ):Prop :=
 runK T Γ N e ops l t h fs fun t h fs=>B5 ops.toArray fs=true∧cD T Γ N F ws Q .normal t h (e+1)
def ou (o:Oper) (ops l:List Oper) (ws:List W) (Q:Kt) (t:Nat->D) (h:Nat->Option Row) (e:Nat):Prop :=
 QG T Γ e o t h fun t E=>kz T Γ N F ops l ws Q (dR t o.dst E.val) (aH h E.hw) e
def ov (o:Oper) (ops l:List Oper) (ws:List W) (Q:Kt) (t:Nat->D) (h:Nat->Option Row) (e:Nat) (fs:List jQ):Prop :=
 QG T Γ e o t h fun t E=>kC T Γ N F ops l ws Q (dR t o.dst E.val) (aH h E.hw) e (fs++[⟨bj o (ev t),E.hw.isEmpty⟩])
def vG (d:D) (g:Nat) (want:Bool) (o:Oper) (ops l:List Oper) (ws:List W) (Q:Kt) (t:Nat->D) (h:Nat->Option Row) (e:Nat):Prop :=
 wpS d t g (fun t=>if want then ou T Γ N F o ops l ws Q t h e else kz T Γ N F ops l ws Q (dR t o.dst .skp) h e) (fun t=>if want then kz T Γ N F ops l ws Q (dR t o.dst .skp) h e else ou T Γ N F o ops l ws Q t h e) (fun t=>kz T Γ N F ops l ws Q (dR t o.dst .skp) h e)
def vH (d:D) (g:Nat) (want:Bool) (o:Oper) (ops l:List Oper) (ws:List W) (Q:Kt) (t:Nat->D) (h:Nat->Option Row) (e:Nat) (fs:List jQ):Prop :=
 wpS d t g (fun t=>if want then ov T Γ N F o ops l ws Q t h e fs else kC T Γ N F ops l ws Q (dR t o.dst .skp) h e (fs++[⟨[],true⟩])) (fun t=>if want then kC T Γ N F ops l ws Q (dR t o.dst .skp) h e (fs++[⟨[],true⟩]) else ov T Γ N F o ops l ws Q t h e fs) (fun t=>kC T Γ N F ops l ws Q (dR t o.dst .skp) h e (fs++[⟨[],true⟩]))
def DN (x y:Option bM) (dst:Option Nat) (ops l:List Oper) (ws:List W) (Q:Kt) (t:Nat->D) (h:Nat->Option Row) (e:Nat):Prop :=
 oL (XQ h x y) fun E=>kz T Γ N F ops l ws Q (dR t dst E.val) (aH h E.hw) e
def DO (x y:Option bM) (dst:Option Nat) (ft:List Nat) (ops l:List Oper) (ws:List W) (Q:Kt) (t:Nat->D) (h:Nat->Option Row) (e:Nat) (fs:List jQ):Prop :=
 oL (XQ h x y) fun E=>kC T Γ N F ops l ws Q (dR t dst E.val) (aH h E.hw) e (fs++[⟨ft,E.hw.isEmpty⟩])
def w4 (x:Option bM) (dst:Option Nat) (ops l:List Oper) (ws:List W) (Q:Kt) (t:Nat->D) (h:Nat->Option Row) (e:Nat):Prop:=DN T Γ N F x none dst ops l ws Q t h e
def w5 (x:Option bM) (dst:Option Nat) (ft:List Nat) (ops l:List Oper) (ws:List W) (Q:Kt) (t:Nat->D) (h:Nat->Option Row) (e:Nat) (fs:List jQ):Prop:=DO T Γ N F x none dst ft ops l ws Q t h e fs
def EG (y:Option bM) (dst:Option Nat) (ops l:List Oper) (ws:List W) (Q:Kt) (t:Nat->D) (h:Nat->Option Row) (e:Nat):Prop :=
 oL y fun E=>kz T Γ N F ops l ws Q (dR t dst E.val) (aH h E.hw) e
def EI (y:Option bM) (dst:Option Nat) (ft:List Nat) (ops l:List Oper) (ws:List W) (Q:Kt) (t:Nat->D) (h:Nat->Option Row) (e:Nat) (fs:List jQ):Prop :=
 oL y fun E=>kC T Γ N F ops l ws Q (dR t dst E.val) (aH h E.hw) e (fs++[⟨ft,E.hw.isEmpty⟩])
def Jq (d:D) (g:Nat) (x y:Code) (ws:List W) (Q:Kt) (t:Nat->D) (h:Nat->Option Row) (e:Nat):Prop :=
 QD d t g (fun t=>cD T Γ N F (.code x::ws) Q .normal t h e) (fun t=>cD T Γ N F (.code y::ws) Q .normal t h e)
def WB (d:D) (g:Nat) (a b:Operand) (dst:Option Nat) (ops l:List Oper) (ws:List W) (Q:Kt) (t:Nat->D) (h:Nat->Option Row) (e:Nat):Prop :=
 QD d t g (fun t=>kz T Γ N F ops l ws Q (dR t dst (ev t a)) h e) (fun t=>kz T Γ N F ops l ws Q (dR t dst (ev t b)) h e)
def WC (d:D) (g:Nat) (a b:Operand) (dst:Option Nat) (ops l:List Oper) (ws:List W) (Q:Kt) (t:Nat->D) (h:Nat->Option Row) (e:Nat) (fs:List jQ):Prop :=
 QD d t g (fun t=>kC T Γ N F ops l ws Q (dR t dst (ev t a)) h e (fs++[⟨[],true⟩])) (fun t=>kC T Γ N F ops l ws Q (dR t dst (ev t b)) h e (fs++[⟨[],true⟩]))
def Sx (b:Code) (ws:List W) (Q:Kt) (t:Nat->D) (h:Nat->Option Row) (e:Nat):Prop:=JA T Γ N F (.loop b) t h e (cD T Γ N F ws Q)
end
theorem Gp {n:Nat} (h:n<=1000000):n<=maxLen:=adj h (by decide)
theorem Hc {z:List D} : ml 0 z=[]:=af4
theorem Hb {n:Nat} {z:List D} : ml (n+1) z=z++ml n z:=by simp[ml,List.replicate_succ]
theorem F4 {N:Nat} : fits N none=true:=af4
theorem F5 {N i:Nat} : fits N (some i)=decide (i<N):=af4
def tw:List Oper->Nat->Nat
 | [],_=>0
 | o::_,0=>o.dst.getD 0
 | _::l,j+1=>tw l j
def xE:List Oper->Nat->Bool
 | [],_=>false
 | o::_,0=>o.dst.isSome
 | _::l,j+1=>xE l j
theorem B1:∀(l:List Oper) (j:Nat),xE l j=true->(l[j]?).bind (·.dst)=some (tw l j)
 | [],j,h=>by simp[xE]at h
 | o::l,0,h=>by
  simp only[xE]at h
  simp only[List.getElem?_cons_zero,Option.bind_some,tw]
  cases hd:o.dst with
  | none=>rw[hd]at h;cases h
  | some d=>rfl
 | o::l,j+1,h=>by simpa [tw] using B1 l j h
theorem B3 {d:Nat} {op:Op} {ty:Nat} {pos:String} {af:Array Edge} {gd:Option (Nat×Bool)} {l:List Oper} : tw (⟨some d,op,ty,pos,af,gd⟩::l) 0=d:=af4
theorem B2 {o:Oper} {l:List Oper} {j:Nat} : tw (o::l) (j+1)=tw l j:=af4
theorem CD {d:Nat} {op:Op} {ty:Nat} {pos:String} {af:Array Edge} {gd:Option (Nat×Bool)} {l:List Oper} : xE (⟨some d,op,ty,pos,af,gd⟩::l) 0=true:=af4
theorem CC {o:Oper} {l:List Oper} {j:Nat} : xE (o::l) (j+1)=xE l j:=af4
section
variable {dst:Option Nat} {ty:Nat} {pos:String} {af:Array Edge} {gd:Option (Nat×Bool)} {vs:Operand->D}
def xL (vs:Operand->D):List Operand->List Nat
 | []=>[]
 | x::l=>nm (vs x)++xL vs l
theorem eY (vs:Operand->D):∀l:List Operand,(l.flatMap fun x=>nm (vs x))=xL vs l
 | []=>Eq.trans rfl rfl
 | x::l=>by rw[List.flatMap_cons,eY vs l];exact Eq.trans rfl rfl
theorem Si:xL vs []=[]:=af4
theorem MR {x:Operand} {l:List Operand} : xL vs (x::l)=nm (vs x)++xL vs l:=af4
theorem Ar {o:BinOp} {tt z:Nat} {x y:Operand} : bj ⟨dst,.binOp o tt x y z,ty,pos,af,gd⟩ vs=(xL vs [x,y]++dst.toList).map rt:=by rw[<- eY];rfl
theorem DU {o:UnOp} {tt:Nat} {x:Operand} : bj ⟨dst,.unOp o tt x,ty,pos,af,gd⟩ vs=(xL vs [x]++dst.toList).map rt:=by rw[<- eY];rfl
theorem yg {x:Operand} : bj ⟨dst,.assign x,ty,pos,af,gd⟩ vs=(xL vs [x]++dst.toList).map rt:=by rw[<- eY];rfl
theorem DT {tt:Nat} {x:Operand} : bj ⟨dst,.load tt x,ty,pos,af,gd⟩ vs=(xL vs [x]++dst.toList).map rt:=by rw[<- eY];rfl
theorem Ax {tt:Nat} {x y:Operand} : bj ⟨dst,.store tt x y,ty,pos,af,gd⟩ vs=(xL vs [x,y]++dst.toList).map rt:=by rw[<- eY];rfl
theorem ug {x:Operand} : bj ⟨dst,.nilCheck x,ty,pos,af,gd⟩ vs=(xL vs [x]++dst.toList).map rt:=by rw[<- eY];rfl
theorem sJ {tt i:Nat} {x:Operand} : bj ⟨dst,.fieldAddr tt x i,ty,pos,af,gd⟩ vs=(xL vs [x]++dst.toList).map rt:=by rw[<- eY];rfl
theorem Au {tt i:Nat} {x:Operand} : bj ⟨dst,.field tt x i,ty,pos,af,gd⟩ vs=(xL vs [x]++dst.toList).map rt:=by rw[<- eY];rfl
theorem sK {tt:Nat} {x i:Operand} : bj ⟨dst,.indexAddr tt x i,ty,pos,af,gd⟩ vs=(xL vs [x,i]++dst.toList).map rt:=by rw[<- eY];rfl
theorem Av {tt:Nat} {x i:Operand} : bj ⟨dst,.index tt x i,ty,pos,af,gd⟩ vs=(xL vs [x,i]++dst.toList).map rt:=by rw[<- eY];rfl
theorem sL {tt:Nat} {x y:Operand} : bj ⟨dst,.makeSlice tt x y,ty,pos,af,gd⟩ vs=(xL vs [x,y]++dst.toList).map rt:=by rw[<- eY];rfl
theorem Aq {tt:Nat} : bj ⟨dst,.alloc tt,ty,pos,af,gd⟩ vs=(xL vs []++dst.toList).map rt:=by rw[<- eY];rfl
theorem HN {tt:Nat} {x:Operand} : bj ⟨dst,.box tt x,ty,pos,af,gd⟩ vs=(xL vs [x]++dst.toList).map rt:=by rw[<- eY];rfl
theorem wb {tt:Nat} : bj ⟨dst,.makeMap tt none,ty,pos,af,gd⟩ vs=(xL vs []++dst.toList).map rt:=by rw[<- eY];rfl
theorem yi {tt:Nat} {m i:Operand} {ok:Bool} : bj ⟨dst,.lookup tt m i ok,ty,pos,af,gd⟩ vs=(xL vs [m,i]++dst.toList).map rt:=by rw[<- eY];rfl
theorem sM {tt:Nat} {m i x:Operand} : bj ⟨dst,.mapUpdate tt m i x,ty,pos,af,gd⟩ vs=(xL vs [m,i,x]++dst.toList).map rt:=by rw[<- eY];rfl
theorem yh {tt:Nat} {m i x:Operand} : bj ⟨dst,.insert tt m i x,ty,pos,af,gd⟩ vs=(xL vs [m,i,x]++dst.toList).map rt:=by rw[<- eY];rfl
theorem v8 {a b:Nat} {x:Operand} : bj ⟨dst,.convert a b x,ty,pos,af,gd⟩ vs=(xL vs [x]++dst.toList).map rt:=by rw[<- eY];rfl
theorem wa {x:Operand} {i:Nat} : bj ⟨dst,.extract x i,ty,pos,af,gd⟩ vs=(xL vs [x]++dst.toList).map rt:=by rw[<- eY];rfl
theorem As {tt:Nat} {ps:List (Nat×Operand)} : bj ⟨dst,.build tt ps.toArray,ty,pos,af,gd⟩ vs=(xL vs (ps.map (·.2))++dst.toList).map rt:=by rw[<- eY];rfl
theorem qy {tt len:Nat} {ps:List (Nat×Operand)} : bj ⟨dst,.buildSlice tt len ps.toArray,ty,pos,af,gd⟩ vs=(xL vs (ps.map (·.2))++dst.toList).map rt:=by rw[<- eY];rfl
theorem Aw {tt:Nat} {x:Operand} {lo hi mx:Option Operand} : bj ⟨dst,.slice tt x lo hi mx,ty,pos,af,gd⟩ vs=(xL vs (x::(lo.toList++(hi.toList++mx.toList)))++dst.toList).map rt:=by
 rw[<- eY];cases lo<;>cases hi<;>cases mx<;>rfl
theorem DS {x:Operand} {l:List Operand} {tys:Array Nat} : bj ⟨dst,.call ⟨.value x,l.toArray,tys⟩,ty,pos,af,gd⟩ vs=(xL vs (x::l)++dst.toList).map rt:=by
 rw[<- eY];simp[bj,gJ,Op.operands,Call.operands]
theorem v7 {x:Builtin} {l:List Operand} {tys:Array Nat} : bj ⟨dst,.call ⟨.builtin x,l.toArray,tys⟩,ty,pos,af,gd⟩ vs=(xL vs l++dst.toList).map rt:=by
 rw[<- eY];simp[bj,gJ,Op.operands,Call.operands]
end
section
variable {T:Nat->Option Ty} {ty e:Nat} {dst:Option Nat} {h:Nat->Option Row}
theorem Q1 {k:IntKind} {n:Int} : bH T ty e dst h (.int k n)=some ⟨.int k n,[]⟩:=af4
theorem JK {b:Bool} : bH T ty e dst h (.bool b)=some ⟨.bool b,[]⟩:=af4
theorem Q6 {b:ByteArray} : bH T ty e dst h (.str b)=some ⟨.str b,[]⟩:=af4
theorem UY {tg:Bool} {n:Nat} {xs:List D} : bH T ty e dst h (.sl false tg n xs)=some ⟨.sl false tg n xs,[]⟩:=af4
theorem Q5 {x v o:Nat} : bH T ty e dst h (.ptr x v o)=some ⟨.ptr x v o,[]⟩:=af4
theorem UU {xs:List D} : bH T ty e dst h (.ip xs)=some ⟨.ip xs,[]⟩:=af4
theorem QZ {xs:List D} : bH T ty e dst h (.agg xs)=some ⟨.agg xs,[]⟩:=af4
theorem Q7 {xs:List D} : bH T ty e dst h (.tup xs)=some ⟨.tup xs,[]⟩:=af4
theorem UT {f:Nat} : bH T ty e dst h (.fn f)=some ⟨.fn f,[]⟩:=af4
theorem UW {x v:Nat} : bH T ty e dst h (.mp x v)=some ⟨.mp x v,[]⟩:=af4
theorem Q3 {ks:List Int} {vs:List D} : bH T ty e dst h (.mpc ks vs)=some ⟨.mpc ks vs,[]⟩:=af4
theorem UX {x v y:Nat} : bH T ty e dst h (.pm x v y)=some ⟨.pm x v y,[]⟩:=af4
theorem AR {f kk:Nat} {xs:List D} : bH T ty e dst h (.clo f kk xs)=some ⟨.clo f kk xs,[]⟩:=af4
def ZW (b:Bool) (T:Nat->Option Ty) (ty e d:Nat) (h:Nat->Option Row) (x:D):Option bM:=if b then bH T ty e (some d) h x else gR h x
theorem EZ {d:Nat} {x:D} : ZW true T ty e d h x=bH T ty e (some d) h x:=af4
theorem Bm {d:Nat} {x:D} : ZW false T ty e d h x=gR h x:=af4
theorem Y1 {q:Nat->Bool} {d:Nat} {x:D} : pZ T q ty e (some d) h x=ZW (q d) T ty e d h x:=af4
theorem QW {k:IntKind} {n:Int} : gR h (.int k n)=some ⟨.int k n,[]⟩:=af4
theorem JF {b:Bool} : gR h (.bool b)=some ⟨.bool b,[]⟩:=af4
theorem QX {b:ByteArray} : gR h (.str b)=some ⟨.str b,[]⟩:=af4
theorem QU {xs:List D} : gR h (.agg xs)=some ⟨.agg (xs.map canon),[]⟩:=af4
theorem UL {a b:Bool} {n:Nat} {xs:List D} : gR h (.sl a b n xs)=some ⟨.sl false false n xs,[]⟩:=af4
theorem Q8:bH T ty e dst h .und=some ⟨.und,[]⟩:=af4
def XV (e d y s o n:Nat) (r:Row):Bool->Option bM
 | true=>some ⟨.buf y r.v s o n,[]⟩
 | false=>some ⟨.buf d e s o n,[(y,none),(d,some { r with v:=e })]⟩
theorem Bl {d y s o n:Nat} {r:Row} : XV e d y s o n r false=some ⟨.buf d e s o n,[(y,none),(d,some { r with v:=e })]⟩:=af4
def ZV (y v s o n:Nat):Option Row->Option bM
 | some _=>some ⟨.buf y v s o n,[]⟩
 | none=>some ⟨.und,[]⟩
theorem EV {y v s o n:Nat} {r:Row} : ZV y v s o n (some r)=some ⟨.buf y v s o n,[]⟩:=af4
def US (e:Nat) (dst:Option Nat) (y s o n:Nat) (w:Option bM):Option Row->Option bM
 | some r=>match dst with|some d=>XV e d y s o n r r.fz|none=>w
 | none=>w
theorem EX {d y s o n:Nat} {r:Row} {w:Option bM} : US e (some d) y s o n w (some r)=XV e d y s o n r r.fz:=af4
theorem EW {d y s o n:Nat} {w:Option bM} : US e (some d) y s o n w none=w:=af4
theorem Q0 {d y v s o n:Nat} : bH T ty e (some d) h (.buf y v s o n)=US e (some d) y s o n (ZV y v s o n (mS h y v)) (live h y v):=by
 simp only[bH]
 cases hl:live h y v with
 | none=>simp only[US];cases mS h y v<;>simp[ZV]
 | some r =>
  obtain⟨_,hv⟩:=bR hl
  simp only[US]
  cases hz:r.fz<;>simp[XV,hv,hz]
def XW (e:Nat) (dst:Option Nat) (T:Nat->Option Ty):Option Ty->Option bM
 | some τ =>
  match dst with
  | some d=>match τ.ds with
   | .slice el=>match T el with|some φ=>some ⟨.buf d e φ.size 0 0,[(d,some ⟨e,el,[],false,true,false⟩)]⟩|none=>none
   | _=>none
  | none=>none
 | none=>none
theorem EY {d el b c:Nat} {z:List Value} {q:Bool} {φ:Ty} (hφ:T el=some φ):XW e (some d) T (some ⟨.slice el,b,c,z,q⟩)=some ⟨.buf d e φ.size 0 0,[(d,some ⟨e,el,[],false,true,false⟩)]⟩:=by simp only[XW,hφ]
theorem Q4:bH T ty e dst h (.sl true true 0 [])=XW e dst T (T ty):=by
 unfold bH XW
 cases dst<;>cases T ty<;>rfl
end
def ZC (x:Option D):Option bM:=match x with|some d=>some ⟨d,[]⟩|none=>none
theorem M9 (d:D):ZC (some d)=some ⟨d,[]⟩:=af4
def wO (x:Option Ty) (f:Ty->Option bM):Option bM:=match x with|some τ=>f τ|none=>none
theorem Nl (τ:Ty) (f:Ty->Option bM):wO (some τ) f=f τ:=af4
def ZX (x:Option (List D×List Nat)) (h:Nat->Option Row) (ty d e:Nat):Option bM :=
 match x with
 | some (cs,fr)=>if fr.contains d=false then some ⟨.ptr d e 0,iz h fr++[(d,some ⟨e,ty,cs,false,false,false⟩)]⟩ else none
 | none=>none
theorem E4 (cs:List D) (fr:List Nat) (h:Nat->Option Row) (ty d e:Nat):ZX (some (cs,fr)) h ty d e=if fr.contains d=false then some ⟨.ptr d e 0,iz h fr++[(d,some ⟨e,ty,cs,false,false,false⟩)]⟩ else none:=af4
def Yw (d e:Nat):Option Nat->D
 | some y =>.pm d e y
 | none =>.ptr d e 0
theorem G0 {d e y:Nat} : Yw d e (some y)=.pm d e y:=af4
theorem GZ {d e:Nat} : Yw d e none=.ptr d e 0:=af4
def Bj (x:Option Ty) (ty d e:Nat) (y:Option Nat):Option bM :=
 match x with
 | some τ=>if (τ.zero.map nh).all aV then some ⟨Yw d e y,[(d,some ⟨e,ty,τ.zero.map nh,false,false,false⟩)]⟩ else none
 | none=>none
theorem zn (τ:Ty) (ty d e:Nat) (y:Option Nat):Bj (some τ) ty d e y=if (τ.zero.map nh).all aV then some ⟨Yw d e y,[(d,some ⟨e,ty,τ.zero.map nh,false,false,false⟩)]⟩ else none:=af4
def aba (T:Nat->Option Ty) (x:Option Ty) (ty e d:Nat):Option bM:=match x with|some τ=>oB T ty τ e d|none=>none
def Vj (x y:Option Ty) (d:D):Option bM :=
 match x,y,d with
 | some τ,some _,.int _ n=>(match τ.ds with | .int k=>some ⟨.int k (k.wrap n),[]⟩|_=>none)
 | _,_,_=>none
theorem Fs (k:IntKind) (b c:Nat) (z:List Value) (q:Bool) (σ:Ty) (k':IntKind) (n:Int):Vj (some ⟨.int k,b,c,z,q⟩) (some σ) (.int k' n)=some ⟨.int k (k.wrap n),[]⟩:=af4
def Yb (d:D) (i:Nat):Option bM:=match d with | .tup xs=>(match xs[i]? with|some d=>some ⟨d,[]⟩|none=>none)|_=>none
theorem K4 (xs:List D) (i:Nat):Yb (.tup xs) i=ZC xs[i]?:=by simp only[Yb,ZC]
section
variable {T:Nat->Option Ty} {Γ:Env} {N F e:Nat} {ws:List W} {Q:Kt} {t:Nat->D} {h:Nat->Option Row}
theorem ey {x:Ex} : cD T Γ N F [] Q x t h e=Q x t h e:=af4
theorem Hm:cD T Γ N F (.code .skip::ws) Q .normal t h e=cD T Γ N F ws Q .normal t h e:=af4
theorem ND {a b:Code} : cD T Γ N F (.code (.seq a b)::ws) Q .normal t h e=cD T Γ N F (.code a :: .code b::ws) Q .normal t h e:=af4
theorem NC:cD T Γ N F (.code .ret::ws) Q .normal t h e=cD T Γ N F ws Q .ret t h e:=af4
theorem Hk {id:Nat} : cD T Γ N F (.code (.exit id)::ws) Q .normal t h e=cD T Γ N F ws Q (.exit id) t h e:=af4
theorem DG {id:Nat} {b:Code} : cD T Γ N F (.code (.block id b)::ws) Q .normal t h e=cD T Γ N F (.code b :: .blk id::ws) Q .normal t h e:=af4
theorem Hl {b:Code} : cD T Γ N F (.code (.loop b)::ws) Q .normal t h e=Sx T Γ N F b ws Q t h e:=af4
theorem bO {c:Code} : cD T Γ N F (.code c::ws) Q .ret t h e=cD T Γ N F ws Q .ret t h e:=af4
theorem bE {c:Code} {n:Nat} : cD T Γ N F (.code c::ws) Q (.exit n) t h e=cD T Γ N F ws Q (.exit n) t h e:=af4
theorem sH {id:Nat} : cD T Γ N F (.blk id::ws) Q .normal t h e=cD T Γ N F ws Q .normal t h e:=af4
theorem bV {id:Nat} : cD T Γ N F (.blk id::ws) Q .ret t h e=cD T Γ N F ws Q .ret t h e:=af4
theorem v5 {id n:Nat} : cD T Γ N F (.blk id::ws) Q (.exit n) t h e=if n=id then cD T Γ N F ws Q .normal t h e else cD T Γ N F ws Q (.exit n) t h e:=af4
theorem Ap {i:Nat} {ops:List Oper} : cD T Γ N F (.code (.region i ops.toArray false)::ws) Q .normal t h e=kz T Γ N F ops ops ws Q t h e:=af4
theorem DJ {i:Nat} {ops:List Oper} : cD T Γ N F (.code (.region i ops.toArray true)::ws) Q .normal t h e=kC T Γ N F ops ops ws Q t h e []:=af4
theorem Hj {g:Nat} {x y:Code} : cD T Γ N F (.code (.cond (.tmp g) x y)::ws) Q .normal t h e=Jq T Γ N F (t g) g x y ws Q t h e:=af4
theorem DI {x y:Code} : cD T Γ N F (.code (.cond (.const (.bool true)) x y)::ws) Q .normal t h e=cD T Γ N F (.code x::ws) Q .normal t h e:=af4
theorem DH {x y:Code} : cD T Γ N F (.code (.cond (.const (.bool false)) x y)::ws) Q .normal t h e=cD T Γ N F (.code y::ws) Q .normal t h e:=af4
theorem HP {g:Nat} {x y:Code} (hg:t g=.bool true):Jq T Γ N F (.bool true) g x y ws Q t h e=cD T Γ N F (.code x::ws) Q .normal t h e:=yk hg
theorem DW {g:Nat} {x y:Code} (hg:t g=.bool false):Jq T Γ N F (.bool false) g x y ws Q t h e=cD T Γ N F (.code y::ws) Q .normal t h e:=vw hg
theorem Uj {b:Bool} {g:Nat} {x y:Code} : Jq T Γ N F (.bool b) g x y ws Q t h e=br b (cD T Γ N F (.code x::ws) Q .normal (b6 t g (.bool true)) h e) (cD T Γ N F (.code y::ws) Q .normal (b6 t g (.bool false)) h e):=by
 unfold Jq;rw[XH];cases b<;>simp[br]
variable {ops l:List Oper} {dst:Option Nat} {op:Op} {ty:Nat} {pos:String} {af:Array Edge} {gd:Option (Nat×Bool)} {fs:List jQ}
theorem NA:kz T Γ N F ops [] ws Q t h e=cD T Γ N F ws Q .normal t h (e+1):=af4
theorem Hh (hf:fits N dst=true):kz T Γ N F ops (⟨dst,op,ty,pos,af,none⟩::l) ws Q t h e=ou T Γ N F ⟨dst,op,ty,pos,af,none⟩ ops l ws Q t h e:=by
 simp only[kz,DF,XJ,hf,true_and,ou]
theorem DD {j:Nat} {want:Bool} (hf:fits N dst=true) (hj:xE ops j=true):kz T Γ N F ops (⟨dst,op,ty,pos,af,some (j,want)⟩::l) ws Q t h e=vG T Γ N F (t (tw ops j)) (tw ops j) want ⟨dst,op,ty,pos,af,none⟩ ops l ws Q t h e:=by
 simp only[kz,DF,XJ,hf,true_and,B1 ops j hj,rR,vG]
 cases want<;>rfl
theorem Ob {g:Nat} {want:Bool} {o:Oper} : vG T Γ N F .skp g want o ops l ws Q t h e=kz T Γ N F ops l ws Q (dR t o.dst .skp) h e:=af4
theorem HQ {g:Nat} {o:Oper} (hg:t g=.bool true):vG T Γ N F (.bool true) g true o ops l ws Q t h e=ou T Γ N F o ops l ws Q t h e:=(yn hg).trans (if_pos rfl)
theorem DX {g:Nat} {o:Oper} (hg:t g=.bool false):vG T Γ N F (.bool false) g true o ops l ws Q t h e=kz T Γ N F ops l ws Q (dR t o.dst .skp) h e:=(vx hg).trans (if_pos rfl)
theorem DY {g:Nat} {o:Oper} (hg:t g=.bool true):vG T Γ N F (.bool true) g false o ops l ws Q t h e=kz T Γ N F ops l ws Q (dR t o.dst .skp) h e:=(yn hg).trans (if_neg (by decide))
theorem Ay {g:Nat} {o:Oper} (hg:t g=.bool false):vG T Γ N F (.bool false) g false o ops l ws Q t h e=ou T Γ N F o ops l ws Q t h e:=(vx hg).trans (if_neg (by decide))
theorem Uk {b:Bool} {g:Nat} {o:Oper} : vG T Γ N F (.bool b) g true o ops l ws Q t h e=br b (ou T Γ N F o ops l ws Q (b6 t g (.bool true)) h e) (kz T Γ N F ops l ws Q (dR (b6 t g (.bool false)) o.dst .skp) h e):=by
 unfold vG;rw[ym];cases b<;>simp[br]
theorem Qw {b:Bool} {g:Nat} {o:Oper} : vG T Γ N F (.bool b) g false o ops l ws Q t h e=br b (kz T Γ N F ops l ws Q (dR (b6 t g (.bool true)) o.dst .skp) h e) (ou T Γ N F o ops l ws Q (b6 t g (.bool false)) h e):=by
 unfold vG;rw[ym];cases b<;>simp[br]
theorem NB:kC T Γ N F ops [] ws Q t h e fs=(B5 ops.toArray fs=true∧cD T Γ N F ws Q .normal t h (e+1)):=af4
theorem Hi (hf:fits N dst=true):kC T Γ N F ops (⟨dst,op,ty,pos,af,none⟩::l) ws Q t h e fs=ov T Γ N F ⟨dst,op,ty,pos,af,none⟩ ops l ws Q t h e fs:=by
 simp only[kC,runK,XJ,hf,true_and,ov]
theorem DE {j:Nat} {want:Bool} (hf:fits N dst=true) (hj:xE ops j=true):kC T Γ N F ops (⟨dst,op,ty,pos,af,some (j,want)⟩::l) ws Q t h e fs=vH T Γ N F (t (tw ops j)) (tw ops j) want ⟨dst,op,ty,pos,af,none⟩ ops l ws Q t h e fs:=by
 simp only[kC,runK,XJ,hf,true_and,B1 ops j hj,rR,vH]
 cases want<;>rfl
theorem Oc {g:Nat} {want:Bool} {o:Oper} : vH T Γ N F .skp g want o ops l ws Q t h e fs=kC T Γ N F ops l ws Q (dR t o.dst .skp) h e (fs++[⟨[],true⟩]):=af4
theorem HR {g:Nat} {o:Oper} (hg:t g=.bool true):vH T Γ N F (.bool true) g true o ops l ws Q t h e fs=ov T Γ N F o ops l ws Q t h e fs:=(yn hg).trans (if_pos rfl)
theorem DZ {g:Nat} {o:Oper} (hg:t g=.bool false):vH T Γ N F (.bool false) g true o ops l ws Q t h e fs=kC T Γ N F ops l ws Q (dR t o.dst .skp) h e (fs++[⟨[],true⟩]):=(vx hg).trans (if_pos rfl)
theorem D0 {g:Nat} {o:Oper} (hg:t g=.bool true):vH T Γ N F (.bool true) g false o ops l ws Q t h e fs=kC T Γ N F ops l ws Q (dR t o.dst .skp) h e (fs++[⟨[],true⟩]):=(yn hg).trans (if_neg (by decide))
theorem Az {g:Nat} {o:Oper} (hg:t g=.bool false):vH T Γ N F (.bool false) g false o ops l ws Q t h e fs=ov T Γ N F o ops l ws Q t h e fs:=(vx hg).trans (if_neg (by decide))
theorem Ul {b:Bool} {g:Nat} {o:Oper} : vH T Γ N F (.bool b) g true o ops l ws Q t h e fs=br b (ov T Γ N F o ops l ws Q (b6 t g (.bool true)) h e fs) (kC T Γ N F ops l ws Q (dR (b6 t g (.bool false)) o.dst .skp) h e (fs++[⟨[],true⟩])):=by
 unfold vH;rw[ym];cases b<;>simp[br]
theorem Qx {b:Bool} {g:Nat} {o:Oper} : vH T Γ N F (.bool b) g false o ops l ws Q t h e fs=br b (kC T Γ N F ops l ws Q (dR (b6 t g (.bool true)) o.dst .skp) h e (fs++[⟨[],true⟩])) (ov T Γ N F o ops l ws Q (b6 t g (.bool false)) h e fs):=by
 unfold vH;rw[ym];cases b<;>simp[br]
theorem NW {d:D} {hw:List (Nat×Option Row)} : w4 T Γ N F (some ⟨d,hw⟩) dst ops l ws Q t h e=kz T Γ N F ops l ws Q (dR t dst d) (aH h (jO h hw)) e:=af4
theorem N4 {d:D} {hw:List (Nat×Option Row)} {ft:List Nat} : w5 T Γ N F (some ⟨d,hw⟩) dst ft ops l ws Q t h e fs=kC T Γ N F ops l ws Q (dR t dst d) (aH h (jO h hw)) e (fs++[⟨ft,(jO h hw).isEmpty⟩]):=af4
theorem SD {c:Prop} [Decidable c] {E:bM} : w4 T Γ N F (if c then some E else none) dst ops l ws Q t h e=(c∧w4 T Γ N F (some E) dst ops l ws Q t h e):=by
 by_cases hc:c<;>simp[hc,w4,DN,XQ,oL]
theorem SI {c:Prop} [Decidable c] {E:bM} {ft:List Nat} : w5 T Γ N F (if c then some E else none) dst ft ops l ws Q t h e fs=(c∧w5 T Γ N F (some E) dst ft ops l ws Q t h e fs):=by
 by_cases hc:c<;>simp[hc,w5,DO,XQ,oL]
theorem Hw {E:bM} {y:Option bM} : DN T Γ N F (some E) y dst ops l ws Q t h e=w4 T Γ N F (some E) dst ops l ws Q t h e:=af4
theorem HH {E:bM} {y:Option bM} {ft:List Nat} : DO T Γ N F (some E) y dst ft ops l ws Q t h e fs=w5 T Γ N F (some E) dst ft ops l ws Q t h e fs:=af4
theorem Hv {y:Option bM} : DN T Γ N F none y dst ops l ws Q t h e=EG T Γ N F y dst ops l ws Q t h e:=af4
theorem HG {y:Option bM} {ft:List Nat} : DO T Γ N F none y dst ft ops l ws Q t h e fs=EI T Γ N F y dst ft ops l ws Q t h e fs:=af4
theorem SC {x:Option bM} : DN T Γ N F x none dst ops l ws Q t h e=w4 T Γ N F x dst ops l ws Q t h e:=af4
theorem SH {x:Option bM} {ft:List Nat} : DO T Γ N F x none dst ft ops l ws Q t h e fs=w5 T Γ N F x dst ft ops l ws Q t h e fs:=af4
theorem Hy {d:D} {hw:List (Nat×Option Row)} : EG T Γ N F (some ⟨d,hw⟩) dst ops l ws Q t h e=kz T Γ N F ops l ws Q (dR t dst d) (aH h hw) e:=af4
theorem HI {d:D} {hw:List (Nat×Option Row)} {ft:List Nat} : EI T Γ N F (some ⟨d,hw⟩) dst ft ops l ws Q t h e fs=kC T Γ N F ops l ws Q (dR t dst d) (aH h hw) e (fs++[⟨ft,hw.isEmpty⟩]):=af4
theorem NV {c:Prop} [Decidable c] {E:bM} : EG T Γ N F (if c then some E else none) dst ops l ws Q t h e=(c∧EG T Γ N F (some E) dst ops l ws Q t h e):=by
 by_cases hc:c<;>simp[hc,EG,oL]
theorem N3 {c:Prop} [Decidable c] {E:bM} {ft:List Nat} : EI T Γ N F (if c then some E else none) dst ft ops l ws Q t h e fs=(c∧EI T Γ N F (some E) dst ft ops l ws Q t h e fs):=by
 by_cases hc:c<;>simp[hc,EI,oL]
theorem Dk {g:Nat} {a b:Operand} (hg:t g=.bool true):WB T Γ N F (.bool true) g a b dst ops l ws Q t h e=kz T Γ N F ops l ws Q (dR t dst (ev t a)) h e:=yk hg
theorem Ad {g:Nat} {a b:Operand} (hg:t g=.bool false):WB T Γ N F (.bool false) g a b dst ops l ws Q t h e=kz T Γ N F ops l ws Q (dR t dst (ev t b)) h e:=vw hg
theorem Dl {g:Nat} {a b:Operand} (hg:t g=.bool true):WC T Γ N F (.bool true) g a b dst ops l ws Q t h e fs=kC T Γ N F ops l ws Q (dR t dst (ev t a)) h e (fs++[⟨[],true⟩]):=yk hg
theorem Ae {g:Nat} {a b:Operand} (hg:t g=.bool false):WC T Γ N F (.bool false) g a b dst ops l ws Q t h e fs=kC T Γ N F ops l ws Q (dR t dst (ev t b)) h e (fs++[⟨[],true⟩]):=vw hg
theorem Kz {c:Nat} {a b:Operand} : ou T Γ N F ⟨dst,.pick (.tmp c) a b,ty,pos,af,gd⟩ ops l ws Q t h e=WB T Γ N F (t c) c a b dst ops l ws Q t h e:=af4
theorem KF {c:Nat} {a b:Operand} : ov T Γ N F ⟨dst,.pick (.tmp c) a b,ty,pos,af,gd⟩ ops l ws Q t h e fs=WC T Γ N F (t c) c a b dst ops l ws Q t h e fs:=af4
theorem xl {x y:Option bM} (hp:∀c a b,op ≠ .pick c a b) (hm:iP T Γ e ⟨dst,op,ty,pos,af,gd⟩ (ev t)=none) (hcf:lY Γ e h dst (gC (ev t) op)=none) (hx:lX T Γ e ⟨dst,op,ty,pos,af,gd⟩ (ev t) (EH h)=x) (hy:tz T Γ e ⟨dst,op,ty,pos,af,gd⟩ (ev t) h=y):ou T Γ N F ⟨dst,op,ty,pos,af,gd⟩ ops l ws Q t h e=DN T Γ N F x y dst ops l ws Q t h e:=by
 subst hx
 subst hy
 unfold ou DN QG oX
 rw[hm]
 simp only
 rw[hcf]
 cases op<;>first|rfl|exact absurd rfl (hp _ _ _)
theorem xo {x y:Option bM} (hp:∀c a b,op ≠ .pick c a b) (hm:iP T Γ e ⟨dst,op,ty,pos,af,gd⟩ (ev t)=none) (hcf:lY Γ e h dst (gC (ev t) op)=none) (hx:lX T Γ e ⟨dst,op,ty,pos,af,gd⟩ (ev t) (EH h)=x) (hy:tz T Γ e ⟨dst,op,ty,pos,af,gd⟩ (ev t) h=y):ov T Γ N F ⟨dst,op,ty,pos,af,gd⟩ ops l ws Q t h e fs=DO T Γ N F x y dst (bj ⟨dst,op,ty,pos,af,gd⟩ (ev t)) ops l ws Q t h e fs:=by
 subst hx
 subst hy
 unfold ov DO QG oX
 rw[hm]
 simp only
 rw[hcf]
 cases op<;>first|rfl|exact absurd rfl (hp _ _ _)
theorem dX {x:Option bM} (hp:∀c a b,op ≠ .pick c a b) (hx:lX T Γ e ⟨dst,op,ty,pos,af,gd⟩ (ev t) (EH h)=x) (hm:iP T Γ e ⟨dst,op,ty,pos,af,gd⟩ (ev t)=none:=by rfl) (hy:tz T Γ e ⟨dst,op,ty,pos,af,gd⟩ (ev t) h=none:=by rfl) (hcf:lY Γ e h dst (gC (ev t) op)=none:=by first|rfl|(cases dst<;>rfl)):ou T Γ N F ⟨dst,op,ty,pos,af,gd⟩ ops l ws Q t h e=w4 T Γ N F x dst ops l ws Q t h e:=xl hp hm hcf hx hy
theorem dY {x:Option bM} (hp:∀c a b,op ≠ .pick c a b) (hx:lX T Γ e ⟨dst,op,ty,pos,af,gd⟩ (ev t) (EH h)=x) (hm:iP T Γ e ⟨dst,op,ty,pos,af,gd⟩ (ev t)=none:=by rfl) (hy:tz T Γ e ⟨dst,op,ty,pos,af,gd⟩ (ev t) h=none:=by rfl) (hcf:lY Γ e h dst (gC (ev t) op)=none:=by first|rfl|(cases dst<;>rfl)):ov T Γ N F ⟨dst,op,ty,pos,af,gd⟩ ops l ws Q t h e fs=w5 T Γ N F x dst (bj ⟨dst,op,ty,pos,af,gd⟩ (ev t)) ops l ws Q t h e fs:=xo hp hm hcf hx hy
theorem Ky {x:Operand} : ou T Γ N F ⟨dst,.move x,ty,pos,af,gd⟩ ops l ws Q t h e=kz T Γ N F ops l ws Q (dR t dst (ev t x)) h e:=(dX (fun _ _ _ hh=>by cases hh) rfl).trans rfl
theorem KE {x:Operand} : ov T Γ N F ⟨dst,.move x,ty,pos,af,gd⟩ ops l ws Q t h e fs=kC T Γ N F ops l ws Q (dR t dst (ev t x)) h e (fs++[⟨[],true⟩]):=(dY (fun _ _ _ hh=>by cases hh) rfl).trans rfl
theorem Fw {o:BinOp} {tt z:Nat} {x y:Operand} : ou T Γ N F ⟨dst,.binOp o tt x y z,ty,pos,af,gd⟩ ops l ws Q t h e=w4 T Γ N F (ZC (yH T tt o (ev t x) (ev t y))) dst ops l ws Q t h e:=dX (fun _ _ _ hh=>by cases hh) (by simp only[lX];first|rfl|(cases yH T tt o (ev t x) (ev t y)<;>rfl))
theorem FE {o:BinOp} {tt z:Nat} {x y:Operand} : ov T Γ N F ⟨dst,.binOp o tt x y z,ty,pos,af,gd⟩ ops l ws Q t h e fs=w5 T Γ N F (ZC (yH T tt o (ev t x) (ev t y))) dst (bj ⟨dst,.binOp o tt x y z,ty,pos,af,gd⟩ (ev t)) ops l ws Q t h e fs:=dY (fun _ _ _ hh=>by cases hh) (by simp only[lX];first|rfl|(cases yH T tt o (ev t x) (ev t y)<;>rfl))
theorem KA {o:UnOp} {tt:Nat} {x:Operand} : ou T Γ N F ⟨dst,.unOp o tt x,ty,pos,af,gd⟩ ops l ws Q t h e=w4 T Γ N F (ZC (EJ o (ev t x))) dst ops l ws Q t h e:=dX (fun _ _ _ hh=>by cases hh) (by simp only[lX];first|rfl|(cases EJ o (ev t x)<;>rfl))
theorem KG {o:UnOp} {tt:Nat} {x:Operand} : ov T Γ N F ⟨dst,.unOp o tt x,ty,pos,af,gd⟩ ops l ws Q t h e fs=w5 T Γ N F (ZC (EJ o (ev t x))) dst (bj ⟨dst,.unOp o tt x,ty,pos,af,gd⟩ (ev t)) ops l ws Q t h e fs:=dY (fun _ _ _ hh=>by cases hh) (by simp only[lX];first|rfl|(cases EJ o (ev t x)<;>rfl))
theorem BR {x:Operand} : ou T Γ N F ⟨dst,.assign x,ty,pos,af,gd⟩ ops l ws Q t h e=w4 T Γ N F (pZ T Γ.own ty e dst (EH h) (ev t x)) dst ops l ws Q t h e:=dX (fun _ _ _ hh=>by cases hh) rfl
theorem BU {x:Operand} : ov T Γ N F ⟨dst,.assign x,ty,pos,af,gd⟩ ops l ws Q t h e fs=w5 T Γ N F (pZ T Γ.own ty e dst (EH h) (ev t x)) dst (bj ⟨dst,.assign x,ty,pos,af,gd⟩ (ev t)) ops l ws Q t h e fs:=dY (fun _ _ _ hh=>by cases hh) rfl
theorem xm {f:Nat} {first caps:List Operand} : ou T Γ N F ⟨dst,.makeFunc (.func f) first.toArray caps.toArray,ty,pos,af,gd⟩ ops l ws Q t h e=w4 T Γ N F (if (first.map (ev t)++caps.map (ev t)).all iY then some ⟨.clo f first.length (first.map (ev t)++caps.map (ev t)),[]⟩ else none) dst ops l ws Q t h e:=dX (fun _ _ _ hh=>by cases hh) rfl
theorem xp {f:Nat} {first caps:List Operand} : ov T Γ N F ⟨dst,.makeFunc (.func f) first.toArray caps.toArray,ty,pos,af,gd⟩ ops l ws Q t h e fs=w5 T Γ N F (if (first.map (ev t)++caps.map (ev t)).all iY then some ⟨.clo f first.length (first.map (ev t)++caps.map (ev t)),[]⟩ else none) dst (bj ⟨dst,.makeFunc (.func f) first.toArray caps.toArray,ty,pos,af,gd⟩ (ev t)) ops l ws Q t h e fs:=dY (fun _ _ _ hh=>by cases hh) rfl
theorem Kw {tt:Nat} {x:Operand} : ou T Γ N F ⟨dst,.load tt x,ty,pos,af,gd⟩ ops l ws Q t h e=DN T Γ N F (wO (T tt) fun τ=>mN τ (EH h) (ev t x)) (wO (T tt) fun τ=>nf τ h (ev t x)) dst ops l ws Q t h e:=xl (fun _ _ _ hh=>by cases hh) rfl (by cases dst<;>rfl) (by simp only[lX];first|rfl|(cases T tt<;>rfl)) (by simp only[tz];first|rfl|(cases T tt<;>rfl))
theorem KC {tt:Nat} {x:Operand} : ov T Γ N F ⟨dst,.load tt x,ty,pos,af,gd⟩ ops l ws Q t h e fs=DO T Γ N F (wO (T tt) fun τ=>mN τ (EH h) (ev t x)) (wO (T tt) fun τ=>nf τ h (ev t x)) dst (bj ⟨dst,.load tt x,ty,pos,af,gd⟩ (ev t)) ops l ws Q t h e fs:=xo (fun _ _ _ hh=>by cases hh) rfl (by cases dst<;>rfl) (by simp only[lX];first|rfl|(cases T tt<;>rfl)) (by simp only[tz];first|rfl|(cases T tt<;>rfl))
theorem FC {tt:Nat} {x y:Operand} : ou T Γ N F ⟨dst,.store tt x y,ty,pos,af,gd⟩ ops l ws Q t h e=DN T Γ N F (wO (T tt) fun τ=>cO τ (EH h) (ev t x) (ev t y)) (wO (T tt) fun τ=>lu τ e h (ev t x) (ev t y)) dst ops l ws Q t h e:=xl (fun _ _ _ hh=>by cases hh) rfl (by cases dst<;>rfl) (by simp only[lX];first|rfl|(cases T tt<;>rfl)) (by simp only[tz];first|rfl|(cases T tt<;>rfl))
theorem FK {tt:Nat} {x y:Operand} : ov T Γ N F ⟨dst,.store tt x y,ty,pos,af,gd⟩ ops l ws Q t h e fs=DO T Γ N F (wO (T tt) fun τ=>cO τ (EH h) (ev t x) (ev t y)) (wO (T tt) fun τ=>lu τ e h (ev t x) (ev t y)) dst (bj ⟨dst,.store tt x y,ty,pos,af,gd⟩ (ev t)) ops l ws Q t h e fs:=xo (fun _ _ _ hh=>by cases hh) rfl (by cases dst<;>rfl) (by simp only[lX];first|rfl|(cases T tt<;>rfl)) (by simp only[tz];first|rfl|(cases T tt<;>rfl))
theorem xn {x:Operand} : ou T Γ N F ⟨dst,.nilCheck x,ty,pos,af,gd⟩ ops l ws Q t h e=w4 T Γ N F (jc (EH h) (ev t x)) dst ops l ws Q t h e:=dX (fun _ _ _ hh=>by cases hh) rfl
theorem xq {x:Operand} : ov T Γ N F ⟨dst,.nilCheck x,ty,pos,af,gd⟩ ops l ws Q t h e fs=w5 T Γ N F (jc (EH h) (ev t x)) dst (bj ⟨dst,.nilCheck x,ty,pos,af,gd⟩ (ev t)) ops l ws Q t h e fs:=dY (fun _ _ _ hh=>by cases hh) rfl
theorem vJ {tt i:Nat} {x:Operand} : ou T Γ N F ⟨dst,.fieldAddr tt x i,ty,pos,af,gd⟩ ops l ws Q t h e=w4 T Γ N F (wO (T tt) fun τ=>dw T τ (EH h) i (ev t x)) dst ops l ws Q t h e:=dX (fun _ _ _ hh=>by cases hh) (by simp only[lX];first|rfl|(cases T tt<;>rfl))
theorem vN {tt i:Nat} {x:Operand} : ov T Γ N F ⟨dst,.fieldAddr tt x i,ty,pos,af,gd⟩ ops l ws Q t h e fs=w5 T Γ N F (wO (T tt) fun τ=>dw T τ (EH h) i (ev t x)) dst (bj ⟨dst,.fieldAddr tt x i,ty,pos,af,gd⟩ (ev t)) ops l ws Q t h e fs:=dY (fun _ _ _ hh=>by cases hh) (by simp only[lX];first|rfl|(cases T tt<;>rfl))
theorem Fy {tt i:Nat} {x:Operand} : ou T Γ N F ⟨dst,.field tt x i,ty,pos,af,gd⟩ ops l ws Q t h e=w4 T Γ N F (wO (T tt) fun τ=>lr T τ i (ev t x)) dst ops l ws Q t h e:=dX (fun _ _ _ hh=>by cases hh) (by simp only[lX];first|rfl|(cases T tt<;>rfl))
theorem FG {tt i:Nat} {x:Operand} : ov T Γ N F ⟨dst,.field tt x i,ty,pos,af,gd⟩ ops l ws Q t h e fs=w5 T Γ N F (wO (T tt) fun τ=>lr T τ i (ev t x)) dst (bj ⟨dst,.field tt x i,ty,pos,af,gd⟩ (ev t)) ops l ws Q t h e fs:=dY (fun _ _ _ hh=>by cases hh) (by simp only[lX];first|rfl|(cases T tt<;>rfl))
theorem vK {tt:Nat} {x i:Operand} : ou T Γ N F ⟨dst,.indexAddr tt x i,ty,pos,af,gd⟩ ops l ws Q t h e=w4 T Γ N F (wO (T tt) fun τ=>bz T τ (EH h) (ev t x) (ev t i)) dst ops l ws Q t h e:=dX (fun _ _ _ hh=>by cases hh) (by simp only[lX];first|rfl|(cases T tt<;>rfl))
theorem vO {tt:Nat} {x i:Operand} : ov T Γ N F ⟨dst,.indexAddr tt x i,ty,pos,af,gd⟩ ops l ws Q t h e fs=w5 T Γ N F (wO (T tt) fun τ=>bz T τ (EH h) (ev t x) (ev t i)) dst (bj ⟨dst,.indexAddr tt x i,ty,pos,af,gd⟩ (ev t)) ops l ws Q t h e fs:=dY (fun _ _ _ hh=>by cases hh) (by simp only[lX];first|rfl|(cases T tt<;>rfl))
theorem Fz {tt:Nat} {x i:Operand} : ou T Γ N F ⟨dst,.index tt x i,ty,pos,af,gd⟩ ops l ws Q t h e=w4 T Γ N F (wO (T tt) fun τ=>fE T τ (ev t x) (ev t i)) dst ops l ws Q t h e:=dX (fun _ _ _ hh=>by cases hh) (by simp only[lX];first|rfl|(cases T tt<;>rfl))
theorem FH {tt:Nat} {x i:Operand} : ov T Γ N F ⟨dst,.index tt x i,ty,pos,af,gd⟩ ops l ws Q t h e fs=w5 T Γ N F (wO (T tt) fun τ=>fE T τ (ev t x) (ev t i)) dst (bj ⟨dst,.index tt x i,ty,pos,af,gd⟩ (ev t)) ops l ws Q t h e fs:=dY (fun _ _ _ hh=>by cases hh) (by simp only[lX];first|rfl|(cases T tt<;>rfl))
theorem FA {tt:Nat} {x:Operand} {lo hi mx:Option Operand} : ou T Γ N F ⟨dst,.slice tt x lo hi mx,ty,pos,af,gd⟩ ops l ws Q t h e=w4 T Γ N F (wO (T tt) fun τ=>cv T τ (EH h) (ev t x) (lo.map (ev t)) (hi.map (ev t)) (mx.map (ev t))) dst ops l ws Q t h e:=dX (fun _ _ _ hh=>by cases hh) (by simp only[lX];first|rfl|(cases T tt<;>rfl))
theorem FI {tt:Nat} {x:Operand} {lo hi mx:Option Operand} : ov T Γ N F ⟨dst,.slice tt x lo hi mx,ty,pos,af,gd⟩ ops l ws Q t h e fs=w5 T Γ N F (wO (T tt) fun τ=>cv T τ (EH h) (ev t x) (lo.map (ev t)) (hi.map (ev t)) (mx.map (ev t))) dst (bj ⟨dst,.slice tt x lo hi mx,ty,pos,af,gd⟩ (ev t)) ops l ws Q t h e fs:=dY (fun _ _ _ hh=>by cases hh) (by simp only[lX];first|rfl|(cases T tt<;>rfl))
theorem Fx {tt:Nat} {ps:List (Nat×Operand)} : ou T Γ N F ⟨dst,.build tt ps.toArray,ty,pos,af,gd⟩ ops l ws Q t h e=w4 T Γ N F (wO (T tt) fun τ=>ow Γ.own T τ (EH h) dst (ps.map fun p=>(p.1,ev t p.2))) dst ops l ws Q t h e:=dX (fun _ _ _ hh=>by cases hh) (by simp only[lX];first|rfl|(cases T tt<;>rfl))
theorem FF {tt:Nat} {ps:List (Nat×Operand)} : ov T Γ N F ⟨dst,.build tt ps.toArray,ty,pos,af,gd⟩ ops l ws Q t h e fs=w5 T Γ N F (wO (T tt) fun τ=>ow Γ.own T τ (EH h) dst (ps.map fun p=>(p.1,ev t p.2))) dst (bj ⟨dst,.build tt ps.toArray,ty,pos,af,gd⟩ (ev t)) ops l ws Q t h e fs:=dY (fun _ _ _ hh=>by cases hh) (by simp only[lX];first|rfl|(cases T tt<;>rfl))
theorem tq {tt len d:Nat} {ps:List (Nat×Operand)} : ou T Γ N F ⟨some d,.buildSlice tt len ps.toArray,ty,pos,af,gd⟩ ops l ws Q t h e=w4 T Γ N F (wO (T tt) fun τ=>du T τ (EH h) e d len (ps.map fun p=>(p.1,ev t p.2))) (some d) ops l ws Q t h e:=dX (fun _ _ _ hh=>by cases hh) (by simp only[lX];first|rfl|(cases T tt<;>rfl))
theorem tr {tt len d:Nat} {ps:List (Nat×Operand)} : ov T Γ N F ⟨some d,.buildSlice tt len ps.toArray,ty,pos,af,gd⟩ ops l ws Q t h e fs=w5 T Γ N F (wO (T tt) fun τ=>du T τ (EH h) e d len (ps.map fun p=>(p.1,ev t p.2))) (some d) (bj ⟨some d,.buildSlice tt len ps.toArray,ty,pos,af,gd⟩ (ev t)) ops l ws Q t h e fs:=dY (fun _ _ _ hh=>by cases hh) (by simp only[lX];first|rfl|(cases T tt<;>rfl))
def CV (T:Nat->Option Ty) (e d tt:Nat) (x y:D):Option (Nat×Nat×Nat)->Option bM
 | some p=>(match T tt with|some τ=>mC T τ e d p.1 p.2.1 p.2.2 x y|none=>none)
 | none=>none
theorem Gy {d tt:Nat} {x y:D} : CV T e d tt x y none=none:=af4
theorem Gz {d tt:Nat} {x y:D} {p:Nat×Nat×Nat} {τ:Ty} (hτ:T tt=some τ):CV T e d tt x y (some p)=mC T τ e d p.1 p.2.1 p.2.2 x y:=by simp only[CV,hτ]
def stM (y x:Option bM) (dst:Option Nat) (ops l:List Oper) (ws:List W) (Q:Kt) (t:Nat->D) (h:Nat->Option Row) (e:Nat):Prop :=
 match y with
 | some E=>EG T Γ N F (some E) dst ops l ws Q t h e
 | none=>w4 T Γ N F x dst ops l ws Q t h e
def YH (y x:Option bM) (dst:Option Nat) (ft:List Nat) (ops l:List Oper) (ws:List W) (Q:Kt) (t:Nat->D) (h:Nat->Option Row) (e:Nat) (fs:List jQ):Prop :=
 match y with
 | some E=>EI T Γ N F (some E) dst ft ops l ws Q t h e fs
 | none=>w5 T Γ N F x dst ft ops l ws Q t h e fs
theorem vL {tt d:Nat} {x y:Operand} : ou T Γ N F ⟨some d,.makeSlice tt x y,ty,pos,af,gd⟩ ops l ws Q t h e=stM (T:=T) (Γ:=Γ) (N:=N) (F:=F) (CV T e d tt (ev t x) (ev t y) (Γ.nst d)) (wO (T tt) fun τ=>pj T τ e d (ev t x) (ev t y)) (some d) ops l ws Q t h e:=by
 have hm:iP T Γ e ⟨some d,.makeSlice tt x y,ty,pos,af,gd⟩ (ev t)=CV T e d tt (ev t x) (ev t y) (Γ.nst d):=by
  unfold iP CV
  simp only
  cases Γ.nst d<;>rfl
 cases hc:CV T e d tt (ev t x) (ev t y) (Γ.nst d) with
 | none=>exact dX (fun _ _ _ hh=>by cases hh) (by simp only[lX];first|rfl|(cases T tt<;>rfl)) (hm.trans hc)
 | some E=>unfold ou QG oX;rw[hm,hc];rfl
theorem vP {tt d:Nat} {x y:Operand} : ov T Γ N F ⟨some d,.makeSlice tt x y,ty,pos,af,gd⟩ ops l ws Q t h e fs=YH (T:=T) (Γ:=Γ) (N:=N) (F:=F) (CV T e d tt (ev t x) (ev t y) (Γ.nst d)) (wO (T tt) fun τ=>pj T τ e d (ev t x) (ev t y)) (some d) (bj ⟨some d,.makeSlice tt x y,ty,pos,af,gd⟩ (ev t)) ops l ws Q t h e fs:=by
 have hm:iP T Γ e ⟨some d,.makeSlice tt x y,ty,pos,af,gd⟩ (ev t)=CV T e d tt (ev t x) (ev t y) (Γ.nst d):=by
  unfold iP CV
  simp only
  cases Γ.nst d<;>rfl
 cases hc:CV T e d tt (ev t x) (ev t y) (Γ.nst d) with
 | none=>exact dY (fun _ _ _ hh=>by cases hh) (by simp only[lX];first|rfl|(cases T tt<;>rfl)) (hm.trans hc)
 | some E=>unfold ov QG oX;rw[hm,hc];rfl
theorem NY {x:Option bM} : stM (T:=T) (Γ:=Γ) (N:=N) (F:=F) none x dst ops l ws Q t h e=w4 T Γ N F x dst ops l ws Q t h e:=af4
theorem Hz {x:Option bM} {ft:List Nat} : YH (T:=T) (Γ:=Γ) (N:=N) (F:=F) none x dst ft ops l ws Q t h e fs=w5 T Γ N F x dst ft ops l ws Q t h e fs:=af4
theorem NZ {x:Option bM} {E:bM} : stM (T:=T) (Γ:=Γ) (N:=N) (F:=F) (some E) x dst ops l ws Q t h e=EG T Γ N F (some E) dst ops l ws Q t h e:=af4
theorem HA {x:Option bM} {ft:List Nat} {E:bM} : YH (T:=T) (Γ:=Γ) (N:=N) (F:=F) (some E) x dst ft ops l ws Q t h e fs=EI T Γ N F (some E) dst ft ops l ws Q t h e fs:=af4
theorem SE {x:Option bM} {c:Prop} [Decidable c] {E:bM} (hc:c):stM (T:=T) (Γ:=Γ) (N:=N) (F:=F) (if c then some E else none) x dst ops l ws Q t h e=EG T Γ N F (some E) dst ops l ws Q t h e:=by rw[if_pos hc];rfl
theorem NX {x:Option bM} {ft:List Nat} {c:Prop} [Decidable c] {E:bM} (hc:c):YH (T:=T) (Γ:=Γ) (N:=N) (F:=F) (if c then some E else none) x dst ft ops l ws Q t h e fs=EI T Γ N F (some E) dst ft ops l ws Q t h e fs:=by rw[if_pos hc];rfl
theorem Fv {tt d:Nat} : ou T Γ N F ⟨some d,.alloc tt,ty,pos,af,gd⟩ ops l ws Q t h e=w4 T Γ N F (Bj (T tt) tt d e (Γ.hint d)) (some d) ops l ws Q t h e:=dX (fun _ _ _ hh=>by cases hh) (by simp only[lX];cases T tt with|none=>rfl|some τ=>(dsimp only[Bj];cases Γ.hint d<;>rfl))
theorem FD {tt d:Nat} : ov T Γ N F ⟨some d,.alloc tt,ty,pos,af,gd⟩ ops l ws Q t h e fs=w5 T Γ N F (Bj (T tt) tt d e (Γ.hint d)) (some d) (bj ⟨some d,.alloc tt,ty,pos,af,gd⟩ (ev t)) ops l ws Q t h e fs:=dY (fun _ _ _ hh=>by cases hh) (by simp only[lX];cases T tt with|none=>rfl|some τ=>(dsimp only[Bj];cases Γ.hint d<;>rfl))
theorem zH {tt d:Nat} : ou T Γ N F ⟨some d,.makeMap tt none,ty,pos,af,gd⟩ ops l ws Q t h e=w4 T Γ N F (aba T (T tt) tt e d) (some d) ops l ws Q t h e:=dX (fun _ _ _ hh=>by cases hh) (by simp only[lX];first|rfl|(cases T tt<;>rfl))
theorem zL {tt d:Nat} : ov T Γ N F ⟨some d,.makeMap tt none,ty,pos,af,gd⟩ ops l ws Q t h e fs=w5 T Γ N F (aba T (T tt) tt e d) (some d) (bj ⟨some d,.makeMap tt none,ty,pos,af,gd⟩ (ev t)) ops l ws Q t h e fs:=dY (fun _ _ _ hh=>by cases hh) (by simp only[lX];first|rfl|(cases T tt<;>rfl))
theorem BT {tt:Nat} {m i:Operand} {ok:Bool} : ou T Γ N F ⟨dst,.lookup tt m i ok,ty,pos,af,gd⟩ ops l ws Q t h e=w4 T Γ N F (wO (T tt) fun τ=>iF T τ (EH h) (ev t m) (ev t i) ok) dst ops l ws Q t h e:=dX (fun _ _ _ hh=>by cases hh) (by simp only[lX];first|rfl|(cases T tt<;>rfl))
theorem BW {tt:Nat} {m i:Operand} {ok:Bool} : ov T Γ N F ⟨dst,.lookup tt m i ok,ty,pos,af,gd⟩ ops l ws Q t h e fs=w5 T Γ N F (wO (T tt) fun τ=>iF T τ (EH h) (ev t m) (ev t i) ok) dst (bj ⟨dst,.lookup tt m i ok,ty,pos,af,gd⟩ (ev t)) ops l ws Q t h e fs:=dY (fun _ _ _ hh=>by cases hh) (by simp only[lX];first|rfl|(cases T tt<;>rfl))
theorem vM {tt:Nat} {m i x:Operand} : ou T Γ N F ⟨dst,.mapUpdate tt m i x,ty,pos,af,gd⟩ ops l ws Q t h e=w4 T Γ N F (wO (T tt) fun τ=>dg T τ (EH h) (ev t m) (ev t i) (ev t x)) dst ops l ws Q t h e:=dX (fun _ _ _ hh=>by cases hh) (by simp only[lX];first|rfl|(cases T tt<;>rfl))
theorem vQ {tt:Nat} {m i x:Operand} : ov T Γ N F ⟨dst,.mapUpdate tt m i x,ty,pos,af,gd⟩ ops l ws Q t h e fs=w5 T Γ N F (wO (T tt) fun τ=>dg T τ (EH h) (ev t m) (ev t i) (ev t x)) dst (bj ⟨dst,.mapUpdate tt m i x,ty,pos,af,gd⟩ (ev t)) ops l ws Q t h e fs:=dY (fun _ _ _ hh=>by cases hh) (by simp only[lX];first|rfl|(cases T tt<;>rfl))
theorem BS {tt:Nat} {m i x:Operand} : ou T Γ N F ⟨dst,.insert tt m i x,ty,pos,af,gd⟩ ops l ws Q t h e=w4 T Γ N F (wO (T tt) fun τ=>dg T τ (EH h) (ev t m) (ev t i) (ev t x)) dst ops l ws Q t h e:=dX (fun _ _ _ hh=>by cases hh) (by simp only[lX];first|rfl|(cases T tt<;>rfl))
theorem BV {tt:Nat} {m i x:Operand} : ov T Γ N F ⟨dst,.insert tt m i x,ty,pos,af,gd⟩ ops l ws Q t h e fs=w5 T Γ N F (wO (T tt) fun τ=>dg T τ (EH h) (ev t m) (ev t i) (ev t x)) dst (bj ⟨dst,.insert tt m i x,ty,pos,af,gd⟩ (ev t)) ops l ws Q t h e fs:=dY (fun _ _ _ hh=>by cases hh) (by simp only[lX];first|rfl|(cases T tt<;>rfl))
theorem Rt {tt d:Nat} {x:Operand} : ou T Γ N F ⟨some d,.box tt x,ty,pos,af,gd⟩ ops l ws Q t h e=w4 T Γ N F (ZX (dV (EH h) (ev t x)) (EH h) tt d e) (some d) ops l ws Q t h e:=dX (fun _ _ _ hh=>by cases hh) (by simp only[lX];first|rfl|(cases dV (EH h) (ev t x)<;>rfl))
theorem Ru {tt d:Nat} {x:Operand} : ov T Γ N F ⟨some d,.box tt x,ty,pos,af,gd⟩ ops l ws Q t h e fs=w5 T Γ N F (ZX (dV (EH h) (ev t x)) (EH h) tt d e) (some d) (bj ⟨some d,.box tt x,ty,pos,af,gd⟩ (ev t)) ops l ws Q t h e fs:=dY (fun _ _ _ hh=>by cases hh) (by simp only[lX];first|rfl|(cases dV (EH h) (ev t x)<;>rfl))
theorem zE {a b:Nat} {x:Operand} : ou T Γ N F ⟨dst,.convert a b x,ty,pos,af,gd⟩ ops l ws Q t h e=w4 T Γ N F (Vj (T b) (T a) (ev t x)) dst ops l ws Q t h e:=dX (fun _ _ _ hh=>by cases hh) rfl
theorem zJ {a b:Nat} {x:Operand} : ov T Γ N F ⟨dst,.convert a b x,ty,pos,af,gd⟩ ops l ws Q t h e fs=w5 T Γ N F (Vj (T b) (T a) (ev t x)) dst (bj ⟨dst,.convert a b x,ty,pos,af,gd⟩ (ev t)) ops l ws Q t h e fs:=dY (fun _ _ _ hh=>by cases hh) rfl
theorem zG {x:Nat} {i:Nat} : ou T Γ N F ⟨dst,.extract (.tmp x) i,ty,pos,af,gd⟩ ops l ws Q t h e=w4 T Γ N F (Yb (t x) i) dst ops l ws Q t h e:=dX (fun _ _ _ hh=>by cases hh) rfl
theorem zK {x:Nat} {i:Nat} : ov T Γ N F ⟨dst,.extract (.tmp x) i,ty,pos,af,gd⟩ ops l ws Q t h e fs=w5 T Γ N F (Yb (t x) i) dst (bj ⟨dst,.extract (.tmp x) i,ty,pos,af,gd⟩ (ev t)) ops l ws Q t h e fs:=dY (fun _ _ _ hh=>by cases hh) rfl
def cnL (Γ:Env) (e:Nat) (h:Nat->Option Row) (g:Nat) (args:List D):Option (Nat×(Nat->Nat->Nat->Nat->List D->List D->Option (D×List D)))->Option bM
 | some _=>p9 Γ e h g args
 | none=>none
theorem Ko {g:Nat} {args:List D} : cnL Γ e h g args none=none:=af4
theorem Kp {g:Nat} {args:List D} {p:Nat×(Nat->Nat->Nat->Nat->List D->List D->Option (D×List D))} : cnL Γ e h g args (some p)=p9 Γ e h g args:=af4
theorem VI {g:Nat} {args:List D} : zQ Γ e h (some (.fn g,args))=cnL Γ e h g args (Γ.nx.lnd g):=by
 cases hl:Γ.nx.lnd g with
 | some p=>rfl
 | none =>
  show p9 Γ e h g args=none
  cases hc:p9 Γ e h g args with
  | none=>rfl
  | some E =>
   obtain⟨_,_,_,_,_,_,_,_,_,_,_,_,_,_,_,_,h1,_⟩:=re hc
   rw[hl]at h1
   cases h1
theorem Rz {f k:Nat} {xs args:List D} : zQ Γ e h (some (.clo f k xs,args))=none:=af4
theorem VH {d g:Nat} {args:List D} : lY Γ e h (some d) (some (.fn g,args))=Cd e d h args (Γ.nx.res g):=af4
theorem Ry {dst:Option Nat} {f k:Nat} {xs args:List D} : lY Γ e h dst (some (.clo f k xs,args))=none:=by cases dst<;>rfl
theorem KK {q:Option (D×List D)} : lY Γ e h none q=none:=af4
theorem KL {d:Nat} {args:List D} : Cd e d h args none=none:=af4
theorem KM {d:Nat} {args:List D} {p:List D->Option (Nat×Nat×Nat×Nat×Nat×List D)} : Cd e d h args (some p)=Fc p e d (bk (EH h) args):=af4
theorem JV {d:Nat} {ada:List D} {p:List D->Option (Nat×Nat×Nat×Nat×Nat×List D)} : Fc p e d (some (ada,[]))=H4 e d (p ada):=af4
theorem Fe {d ty tt s S n:Nat} {cs:List D} (hd:d<1000000):H4 e d (some (ty,tt,s,S,n,cs))=some ⟨.buf d e S 0 n,[(d,some ⟨e,ty,[.nr tt s (4*e+2) cs],false,true,true⟩)]⟩:=if_pos (by rw[cR];exact hd)
def stC (y0 x y:Option bM) (dst:Option Nat) (ops l:List Oper) (ws:List W) (Q:Kt) (t:Nat->D) (h:Nat->Option Row) (e:Nat):Prop :=
 match y0 with
 | some E=>EG T Γ N F (some E) dst ops l ws Q t h e
 | none=>DN T Γ N F x y dst ops l ws Q t h e
def aaA (y0 x y:Option bM) (dst:Option Nat) (ft:List Nat) (ops l:List Oper) (ws:List W) (Q:Kt) (t:Nat->D) (h:Nat->Option Row) (e:Nat) (fs:List jQ):Prop :=
 match y0 with
 | some E=>EI T Γ N F (some E) dst ft ops l ws Q t h e fs
 | none=>DO T Γ N F x y dst ft ops l ws Q t h e fs
theorem NT {x y:Option bM} : stC (T:=T) (Γ:=Γ) (N:=N) (F:=F) none x y dst ops l ws Q t h e=DN T Γ N F x y dst ops l ws Q t h e:=af4
theorem Ht {x y:Option bM} {ft:List Nat} : aaA (T:=T) (Γ:=Γ) (N:=N) (F:=F) none x y dst ft ops l ws Q t h e fs=DO T Γ N F x y dst ft ops l ws Q t h e fs:=af4
theorem NU {x y:Option bM} {E:bM} : stC (T:=T) (Γ:=Γ) (N:=N) (F:=F) (some E) x y dst ops l ws Q t h e=EG T Γ N F (some E) dst ops l ws Q t h e:=af4
theorem Hu {x y:Option bM} {ft:List Nat} {E:bM} : aaA (T:=T) (Γ:=Γ) (N:=N) (F:=F) (some E) x y dst ft ops l ws Q t h e fs=EI T Γ N F (some E) dst ft ops l ws Q t h e fs:=af4
theorem Kv {x:Operand} {ada:List Operand} {tys:Array Nat} : ou T Γ N F ⟨dst,.call ⟨.value x,ada.toArray,tys⟩,ty,pos,af,gd⟩ ops l ws Q t h e=stC (T:=T) (Γ:=Γ) (N:=N) (F:=F) (lY Γ e h dst (some (ev t x,ada.map (ev t)))) (gL Γ (EH h) e dst (ev t x) (ada.map (ev t))) (zQ Γ e h (some (ev t x,ada.map (ev t)))) dst ops l ws Q t h e:=by
 have hco:gC (ev t) (.call ⟨.value x,ada.toArray,tys⟩)=some (ev t x,ada.map (ev t)):=rfl
 cases hc:lY Γ e h dst (some (ev t x,ada.map (ev t))) with
 | none=>exact xl (fun _ _ _ hh=>by cases hh) rfl (by rw[hco];exact hc) rfl rfl
 | some E=>unfold ou QG oX;simp only[iP,hco,hc];rfl
theorem KB {x:Operand} {ada:List Operand} {tys:Array Nat} : ov T Γ N F ⟨dst,.call ⟨.value x,ada.toArray,tys⟩,ty,pos,af,gd⟩ ops l ws Q t h e fs=aaA (T:=T) (Γ:=Γ) (N:=N) (F:=F) (lY Γ e h dst (some (ev t x,ada.map (ev t)))) (gL Γ (EH h) e dst (ev t x) (ada.map (ev t))) (zQ Γ e h (some (ev t x,ada.map (ev t)))) dst (bj ⟨dst,.call ⟨.value x,ada.toArray,tys⟩,ty,pos,af,gd⟩ (ev t)) ops l ws Q t h e fs:=by
 have hco:gC (ev t) (.call ⟨.value x,ada.toArray,tys⟩)=some (ev t x,ada.map (ev t)):=rfl
 cases hc:lY Γ e h dst (some (ev t x,ada.map (ev t))) with
 | none=>exact xo (fun _ _ _ hh=>by cases hh) rfl (by rw[hco];exact hc) rfl rfl
 | some E=>unfold ov QG oX;simp only[iP,hco,hc];rfl
theorem zD {x:Builtin} {ada:List Operand} {tys:List Nat} : ou T Γ N F ⟨dst,.call ⟨.builtin x,ada.toArray,tys.toArray⟩,ty,pos,af,gd⟩ ops l ws Q t h e=w4 T Γ N F (cc T (EH h) e dst x tys (ada.map (ev t))) dst ops l ws Q t h e:=dX (fun _ _ _ hh=>by cases hh) rfl
theorem zI {x:Builtin} {ada:List Operand} {tys:List Nat} : ov T Γ N F ⟨dst,.call ⟨.builtin x,ada.toArray,tys.toArray⟩,ty,pos,af,gd⟩ ops l ws Q t h e fs=w5 T Γ N F (cc T (EH h) e dst x tys (ada.map (ev t))) dst (bj ⟨dst,.call ⟨.builtin x,ada.toArray,tys.toArray⟩,ty,pos,af,gd⟩ (ev t)) ops l ws Q t h e fs:=dY (fun _ _ _ hh=>by cases hh) rfl
theorem bn {o:Array Oper} {A:Prop} (h1:B5 o fs=true) (h2:A):B5 o fs=true∧A:=⟨h1,h2⟩
theorem aq {b:Bool} {g:Nat} {x y:Code} (h1:b=true->cD T Γ N F (.code x::ws) Q .normal (b6 t g (.bool true)) h e) (h2:b=false->cD T Γ N F (.code y::ws) Q .normal (b6 t g (.bool false)) h e):Jq T Γ N F (.bool b) g x y ws Q t h e:=by rw[Uj];exact⟨h1,h2⟩
theorem ec {b:Bool} {g:Nat} {o:Oper} (h1:b=true->ou T Γ N F o ops l ws Q (b6 t g (.bool true)) h e) (h2:b=false->kz T Γ N F ops l ws Q (dR (b6 t g (.bool false)) o.dst .skp) h e):vG T Γ N F (.bool b) g true o ops l ws Q t h e:=by rw[Uk];exact⟨h1,h2⟩
theorem bc {b:Bool} {g:Nat} {o:Oper} (h1:b=true->kz T Γ N F ops l ws Q (dR (b6 t g (.bool true)) o.dst .skp) h e) (h2:b=false->ou T Γ N F o ops l ws Q (b6 t g (.bool false)) h e):vG T Γ N F (.bool b) g false o ops l ws Q t h e:=by rw[Qw];exact⟨h1,h2⟩
theorem pR {b:Bool} {g:Nat} {o:Oper} (h1:b=true->ov T Γ N F o ops l ws Q (b6 t g (.bool true)) h e fs) (h2:b=false->kC T Γ N F ops l ws Q (dR (b6 t g (.bool false)) o.dst .skp) h e (fs++[⟨[],true⟩])):vH T Γ N F (.bool b) g true o ops l ws Q t h e fs:=by rw[Ul];exact⟨h1,h2⟩
theorem XA {b:Bool} {g:Nat} {o:Oper} (h1:b=true->kC T Γ N F ops l ws Q (dR (b6 t g (.bool true)) o.dst .skp) h e (fs++[⟨[],true⟩])) (h2:b=false->ov T Γ N F o ops l ws Q (b6 t g (.bool false)) h e fs):vH T Γ N F (.bool b) g false o ops l ws Q t h e fs:=by rw[Qx];exact⟨h1,h2⟩
def Ya (mode:Mode) (T:Nat->Option Ty) (lent:Option (D×Row)) (rs:List ResultVar) (r:RK×Option Row):Kt:=fun x t h e=>Z4 mode T lent rs x t h e r
theorem zS {mode:Mode} {lent:Option (D×Row)} {rs:List ResultVar} {r:RK×Option Row} : Ya mode T lent rs r .normal t h e=(jd mode T lent rs ⟨t,EH h,e⟩=some r):=af4
theorem ew {mode:Mode} {lent:Option (D×Row)} {rs:List ResultVar} {r:RK×Option Row} : Ya mode T lent rs r .ret t h e=(jd mode T lent rs ⟨t,EH h,e⟩=some r):=af4
def RF (T:Nat->Option Ty) (ty tt s:Nat) (rs:List ResultVar) (r:D×List D):Kt:=fun x t h e =>
 match x with
 | .exit _=>False
 | _=>Tt T ty tt s rs ⟨t,h,e⟩=some r
theorem xz {ty tt s:Nat} {rs:List ResultVar} {r:D×List D} : RF T ty tt s rs r .normal t h e=(Tt T ty tt s rs ⟨t,h,e⟩=some r):=af4
theorem dn {ty tt s:Nat} {rs:List ResultVar} {r:D×List D} : RF T ty tt s rs r .ret t h e=(Tt T ty tt s rs ⟨t,h,e⟩=some r):=af4
def RE (rs:List ResultVar) (r:Nat×Nat×Nat×Nat×Nat×List D):Kt:=fun x t h e =>
 match x with
 | .exit _=>False
 | _=>Ts rs ⟨t,h,e⟩=some r
theorem xy {rs:List ResultVar} {r:Nat×Nat×Nat×Nat×Nat×List D} : RE rs r .normal t h e=(Ts rs ⟨t,h,e⟩=some r):=af4
theorem dm {rs:List ResultVar} {r:Nat×Nat×Nat×Nat×Nat×List D} : RE rs r .ret t h e=(Ts rs ⟨t,h,e⟩=some r):=af4
theorem RG {ty tt s:Nat} {rs:List ResultVar} : Tt T ty tt s rs ⟨t,h,e⟩=KW ty tt s (tY T ⟨t,EH h,e⟩ rs) (h 0):=af4
theorem KX {ty tt s nv:Nat} {lst:Bool} {ds cs:List D} : KW ty tt s (some (ds,[])) (some ⟨0,ty,[.nr tt s nv cs],false,lst,true⟩)=some (mm ds,cs):=by
 simp[KW,VN]
theorem RD {i:Nat} : Ts [.tmp i] ⟨t,h,e⟩=RB h (t i):=af4
theorem FT {x v S n:Nat} : RB h (.buf x v S 0 n)=KU x v S n (h x):=af4
theorem KV {x v S n ty tt s nv:Nat} {lst:Bool} {cs:List D} (hx:x<1000000):KU x v S n (some ⟨v,ty,[.nr tt s nv cs],false,lst,true⟩)=some (ty,tt,s,S,n,cs):=by
 have:x<PK:=by rw[cR];exact hx
 simp[KU,VM,this]
theorem vu {fn:Func} {c:Code} {n ty tt s o:Nat} {cs args:List D} {rs:List ResultVar} {r:D×List D} (hb:fn.body=some c) (hn:fn.ntmps=n) (hr:fn.results=rs.toArray) (hw:cD T Γ n F [.code c] (RF T ty tt s rs r) .normal (yG (.ptr 0 0 o::args)) (lQ (gr ty tt s 0 cs)) 1) (hpk:n<=1000000:=by exact aeX rfl):ss T Γ F fn ty tt s o cs args=some r:=by
 obtain⟨x,st,h1,h2⟩:=Jv _ _ _ _ _ (show JA T Γ n F c (yG (.ptr 0 0 o::args)) (lQ (gr ty tt s 0 cs)) 1 (RF T ty tt s rs r) from hw)
 unfold ss
 simp only[hb,hn]
 rw[if_pos (by rw[cR];exact hpk)]
 have e0:oS ty tt s o cs args=⟨yG (.ptr 0 0 o::args),lQ (gr ty tt s 0 cs),1⟩:=rfl
 rw[e0,h1,hr]
 cases x with
 | normal=>exact h2
 | ret=>exact h2
 | exit m=>exact h2.elim
theorem Up {fn:Func} {c:Code} {n:Nat} {args:List D} {rs:List ResultVar} {r:Nat×Nat×Nat×Nat×Nat×List D} (hb:fn.body=some c) (hn:fn.ntmps=n) (hr:fn.results=rs.toArray) (hw:cD T Γ n F [.code c] (RE rs r) .normal (yG args) MT 0) (hpk:n<=1000000:=by exact aeX rfl):sr T Γ F fn args=some r:=by
 obtain⟨x,st,h1,h2⟩:=Jv _ _ _ _ _ (show JA T Γ n F c (yG args) MT 0 (RE rs r) from hw)
 unfold sr
 simp only[hb,hn]
 rw[if_pos (by rw[cR];exact hpk)]
 have e0:bZ none args=⟨yG args,MT,0⟩:=rfl
 rw[e0,h1,hr]
 cases x with
 | normal=>exact h2
 | ret=>exact h2
 | exit m=>exact h2.elim
theorem aC {mode:Mode} {fn:Func} {c:Code} {n:Nat} {rs:List ResultVar} {args:List D} {r:RK×Option Row} (hb:fn.body=some c) (hn:fn.ntmps=n) (hr:fn.results=rs.toArray) (hw:cD T Γ n F [.code c] (Ya mode T none rs r) .normal (yG args) MT 0) (hpk:n<=1000000:=by exact aeX rfl):ba mode T Γ F fn none args=some r:=by
 refine XM ?_ (by rw[hn];exact hpk)
 unfold wpf
 rw[hb,hn,hr]
 exact hw
theorem Nz (r:Row) (i:Nat):lQ r i=if i=0 then some r else none:=af4
theorem D2 {mode:Mode} {fn:Func} {c:Code} {n:Nat} {rs:List ResultVar} {d0:D} {ty:Nat} {cells:List D} {fz lst:Bool} {args:List D} {r:RK×Option Row} (hb:fn.body=some c) (hn:fn.ntmps=n) (hr:fn.results=rs.toArray)
  (hw:cD T Γ n F [.code c] (Ya mode T (some (d0,⟨0,ty,cells,fz,lst,false⟩)) rs r) .normal (yG (d0::args)) (lQ ⟨0,ty,cells,fz,lst,false⟩) 1) (hpk:n<=1000000:=by exact aeX rfl):ba mode T Γ F fn (some (d0,⟨0,ty,cells,fz,lst,false⟩)) args=some r:=by
 refine XM ?_ (by rw[hn];exact hpk)
 unfold wpf
 rw[hb,hn,hr]
 exact hw
end
section
variable {h:Nat->Option Row} {k x o v ty fz' nv s n e:Nat} {cs xs:List D} {fz lst:Bool}
theorem Ux (hk:k<2000000):EH h k=(h k).map (A1 k):=sX (by rw[cR];exact hk)
theorem YQ (hx:x<1000000):EH h (NK x o)=(h x).bind fun r=>qn r o:=vI (by rw[cR];exact hx)
theorem Hq:A1 k ⟨v,ty,cs,fz,lst,false⟩=⟨v,ty,cs,fz,lst,false⟩:=af4
theorem SA {ks:List Int} : A1 k ⟨v,ty,[.mpc ks xs],fz,lst,true⟩=⟨v,ty,[.mpc ks xs],fz,lst,true⟩:=af4
theorem WO {y:Nat} : A1 k ⟨v,ty,[.ph y s n],fz,lst,true⟩=⟨v,ty,[.ph y s n],fz,lst,true⟩:=af4
theorem WN {t:Nat} : A1 k ⟨v,ty,[.nr t s nv cs],fz,lst,true⟩=⟨v,ty,cs.mapIdx (pQ k s),fz,lst,true⟩:=af4
theorem MQ {t:Nat} : qn ⟨v,ty,[.nr t s nv cs],fz,lst,true⟩ o=CW t nv fz (cs.drop o).head?:=af4
theorem MP:CW ty nv fz (some (.nx n xs))=some ⟨nv,ty,xs,fz,true,false⟩:=af4
theorem ZF (hx:x<1000000):rt (NK x o)=x:=ua (by rw[cR];exact hx)
theorem Gd:jO h []=[]:=af4
theorem Gc {r:Option Row} {l:List (Nat×Option Row)} (hk:k<2000000):jO h ((k,r)::l)=(k,CX r)::jO (b6 h k (CX r)) l:=by
 have h1:rt k=k:=jP (by rw[cR];exact hk)
 have h2:xS h k r=CX r:=if_pos (by rw[cR];exact hk)
 simp only[jO,h1,h2]
theorem K8 {r:Option Row} {l:List (Nat×Option Row)} (hx:x<1000000):jO h ((NK x o,r)::l)=(x,(h x).map (Dn o r))::jO (b6 h x ((h x).map (Dn o r))) l:=by
 have hx':x<PK:=by rw[cR];exact hx
 have h1:rt (NK x o)=x:=ua hx'
 have h2:xS h (NK x o) r=(h x).map (Dn o r):=by
  unfold xS
  rw[if_neg (by have:=fP x o;omega),qP o hx',Bb o hx']
 simp only[jO,h1,h2]
theorem GL:CX none=none:=af4
theorem CY:CX (some ⟨v,ty,cs,fz,lst,false⟩)=some ⟨v,ty,cs,fz,lst,false⟩:=af4
theorem MS {ks:List Int} : CX (some ⟨v,ty,[.mpc ks xs],fz,lst,true⟩)=some ⟨v,ty,[.mpc ks xs],fz,lst,true⟩:=af4
theorem Sj {y:Nat} : CX (some ⟨v,ty,[.ph y s n],fz,lst,true⟩)=some ⟨v,ty,[.ph y s n],fz,lst,true⟩:=af4
theorem Sr {t:Nat} {r:Option Row} : Dn o r ⟨v,ty,[.nr t s nv cs],fz,lst,true⟩=⟨v,ty,za t s nv fz cs o r (cs.drop o).head?,fz,lst,true⟩:=af4
theorem Sz {t v':Nat} {xs':List D} : za t s nv fz cs o (some ⟨v',t,xs',fz,true,false⟩) (some (.nx n xs))=if v'=nv then [.nr t s nv (putCells cs o [.nx n xs'])] else [.nr t s nv (putCells cs o [.und])]:=by
 by_cases hv:v'=nv<;>simp[za,GW,hv]
def lvN (x v:Nat):Option Row->Option (Row×Nat×Nat×Nat×List D)
 | some r=>if r.v=v∧r.fz=false∧r.mp=true∧x<1000000 then nrO r r.cells else none
 | none=>none
theorem Mg:iX h x v=lvN x v (h x):=by
 unfold iX lvN
 rw[cR]
 cases h x<;>rfl
theorem We {t:Nat} (hx:x<1000000):lvN x v (some ⟨v,ty,[.nr t s nv cs],false,lst,true⟩)=some (⟨v,ty,[.nr t s nv cs],false,lst,true⟩,t,s,nv,cs):=by
 simp only[lvN,true_and,hx,and_self,if_true,nrO]
def aaf (τ:Ty) (x o:Nat):Option (Row×Nat×Nat×Nat×List D)->Option bM
 | some (r,ty,s,nv,cs)=>CJ τ x s nv o cs (cs.drop o).head?
 | none=>none
theorem R5 {τ:Ty} : nf τ h (.ptr x v o)=aaf τ x o (iX h x v):=by
 simp only[nf,aaf]
 cases iX h x v<;>rfl
theorem Gm {τ:Ty} {r:Row} {t:Nat} : aaf τ x o (some (r,t,s,nv,cs))=CJ τ x s nv o cs (cs.drop o).head?:=af4
theorem R3 {ds:Ds} {b:Nat} {z:List Value} {q:Bool} : CJ ⟨ds,1,b,z,q⟩ x s nv o cs (some (.nx n xs))=if ds.nV=false then some ⟨.buf (NK x o) nv s 0 n,[]⟩ else none:=by
 simp only[CJ,true_and]
def TH (τ:Ty) (o:Nat) (cs:List D):Option bM :=
 if o+τ.size<=cs.length∧((cs.drop o).take τ.size).all fb=true then ZC (lC τ ((cs.drop o).take τ.size)) else none
theorem L5 {τ:Ty} {kk:IntKind} {i:Int} : CJ τ x s nv o cs (some (.int kk i))=TH τ o cs:=af4
theorem Gn {τ:Ty} {b:Bool} : CJ τ x s nv o cs (some (.bool b))=TH τ o cs:=af4
theorem L6 {τ:Ty} {b:ByteArray} : CJ τ x s nv o cs (some (.str b))=TH τ o cs:=af4
theorem R4 {τ:Ty} {a b:Bool} : CJ τ x s nv o cs (some (.sl a b n xs))=TH τ o cs:=af4
def YI (τ:Ty) (e:Nat) (h:Nat->Option Row) (x o:Nat) (d:D):Option (Row×Nat×Nat×Nat×List D)->Option bM
 | some (r,ty,s,nv,cs)=>if o+τ.size<=cs.length∧0<τ.size then vF τ e h x r ty s nv cs o d else none
 | none=>none
theorem SG {τ:Ty} {d:D} : lu τ e h (.ptr x v o) d=YI τ e h x o d (iX h x v):=by
 simp only[lu,YI]
 cases iX h x v<;>rfl
theorem HC {ds:Ds} {m b:Nat} {z:List Value} {q:Bool} {d:D} {r:Row} {t:Nat} (hm:0<m) (hc:o+m<=cs.length):YI ⟨ds,m,b,z,q⟩ e h x o d (some (r,t,s,nv,cs))=vF ⟨ds,m,b,z,q⟩ e h x r t s nv cs o d:=by
 simp only[YI,hm,hc,and_self,if_true]
theorem HD {ds:Ds} {b:Nat} {z:List Value} {q:Bool} {r:Row} {t:Nat} : vF ⟨ds,1,b,z,q⟩ e h x r t s nv cs o (.buf (NK x o) nv s 0 n)=zd x r t s nv cs o n (cs.drop o).head?:=by
 simp only[vF,and_self,if_true]
theorem Hs {ds:Ds} {r:Row} {t n0:Nat} : zd x r t s nv cs o n (some (.nx n0 xs))=if n*s<=xs.length then some ⟨.und,[(x,some ⟨r.v,r.ty,[.nr t s nv (putCells cs o [.nx n (xs.take (n*s))])],false,r.lst,true⟩)]⟩ else none:=af4
def aaB (x:Nat) (r:Row) (ty s:Nat) (cs:List D) (o y n:Nat) (b:Option Nat):Option Row->Option bM
 | some q=>if q.fz=false∧q.lst=true∧q.ty=ty∧q.cells.length=n*s then ze x r ty s cs o y n q b else none
 | none=>none
theorem HF {ds:Ds} {b y vy:Nat} {z:List Value} {q:Bool} {r:Row} {t:Nat} (hy:y<1000000):vF ⟨ds,1,b,z,q⟩ e h x r t s nv cs o (.buf y vy s 0 n)=aaB x r t s cs o y n (oW nv e) (live h y vy):=by
 have h1:¬y=NK x o:=by have:=fP x o;rw[cR]at this;omega
 have h2:y<PK:=by rw[cR];exact hy
 simp only[vF,and_self,if_true,h1,if_false,h2]
 cases live h y vy<;>rfl
theorem HB {r q:Row} {t nv' y:Nat} (hc:q.fz=false∧q.lst=true∧q.ty=t∧q.cells.length=n*s):aaB x r t s cs o y n (some nv') (some q)=some ⟨.und,[(y,none),(x,some ⟨r.v,r.ty,[.nr t s nv' (putCells cs o [.nx n q.cells])],false,r.lst,true⟩)]⟩:=by
 simp only[aaB,hc,and_self,if_true,ze]
theorem N1 {τ:Ty} {r:Row} {t:Nat} {kk:IntKind} {i:Int} : vF τ e h x r t s nv cs o (.int kk i)=zf τ x r t s nv cs o (some [.int kk i]):=af4
theorem HE {τ:Ty} {r:Row} {t:Nat} {b:Bool} : vF τ e h x r t s nv cs o (.bool b)=zf τ x r t s nv cs o (some [.bool b]):=af4
theorem N2 {τ:Ty} {r:Row} {t:Nat} {b:ByteArray} : vF τ e h x r t s nv cs o (.str b)=zf τ x r t s nv cs o (some [.str b]):=af4
theorem SF {τ:Ty} {r:Row} {t:Nat} {a b:Bool} : vF τ e h x r t s nv cs o (.sl a b n xs)=zf τ x r t s nv cs o (some [.sl a b n xs]):=af4
theorem N0 {τ:Ty} {r:Row} {t:Nat} : vF τ e h x r t s nv cs o (.agg xs)=zf τ x r t s nv cs o (some xs):=af4
theorem HJ {τ:Ty} {r:Row} {t:Nat} {c':List D} : zf τ x r t s nv cs o (some c')=if c'.length=τ.size∧c'.all fb=true then some ⟨.und,[(x,some ⟨r.v,r.ty,[.nr t s nv (putCells cs o (c'.map canon))],false,r.lst,true⟩)]⟩ else none:=af4
theorem jv (hn:nv<=4*e):oW nv e=some (4*e+1):=if_pos hn
end
section
variable {Γ:Env} {g d:Nat} {p:Nat×Nat×Nat}
theorem RM {f:Nat} {l:Bool} {G:Option (D×Row)->List D->Option (RK×Option Row)} : (Am.ext Γ f l G).nst g=Γ.nst g:=af4
theorem L0:(Am.keep d Γ).nst g=Γ.nst g:=af4
theorem LJ {y:Nat} : (Am.vU d y Γ).nst g=Γ.nst g:=af4
theorem LS {f:Nat} : (Am.yS f p Γ).nst g=Γ.nst g:=af4
theorem LA {f:Nat} {q:Grow} : (Am.CA f q Γ).nst g=Γ.nst g:=af4
theorem GH:a7.nst g=none:=af4
theorem M6:(Am.xO d p Γ).nst g=if g=d then some p else Γ.nst g:=af4
theorem C2:(Am.xO d p Γ).lends g=Γ.lends g:=af4
theorem M8 {l:Option (D×Row)} {ada:List D} : (Am.xO d p Γ).sem g l ada=Γ.sem g l ada:=af4
theorem M7:(Am.xO d p Γ).own g=Γ.own g:=af4
theorem GP:(Am.xO d p Γ).hint g=Γ.hint g:=af4
theorem M5:(Am.xO d p Γ).ins g=Γ.ins g:=af4
theorem M4:(Am.xO d p Γ).grw g=Γ.grw g:=af4
theorem VQ {f:Nat} {l:Bool} {G:Option (D×Row)->List D->Option (RK×Option Row)} : (Am.ext Γ f l G).nx=Γ.nx:=af4
theorem R1:(Am.keep d Γ).nx=Γ.nx:=af4
theorem RW {y:Nat} : (Am.vU d y Γ).nx=Γ.nx:=af4
theorem RZ {f:Nat} : (Am.yS f p Γ).nx=Γ.nx:=af4
theorem RS {f:Nat} {q:Grow} : (Am.CA f q Γ).nx=Γ.nx:=af4
theorem Sk:(Am.xO d p Γ).nx=Γ.nx:=af4
theorem GG:a7.nx.lnd g=none:=af4
theorem GJ:a7.nx.res g=none:=af4
end
section
variable {Γ:Env} {g d f:Nat} {p:Nat×(Nat->Nat->Nat->Nat->List D->List D->Option (D×List D))}
theorem Mk:(Am.nM f p Γ).nx.lnd g=if g=f then some p else Γ.nx.lnd g:=af4
theorem Mn:(Am.nM f p Γ).nx.res g=Γ.nx.res g:=af4
theorem CO:(Am.nM f p Γ).lends g=Γ.lends g:=af4
theorem Mo {l:Option (D×Row)} {ada:List D} : (Am.nM f p Γ).sem g l ada=Γ.sem g l ada:=af4
theorem Mm:(Am.nM f p Γ).own g=Γ.own g:=af4
theorem Gt:(Am.nM f p Γ).hint g=Γ.hint g:=af4
theorem Mj:(Am.nM f p Γ).ins g=Γ.ins g:=af4
theorem Mi:(Am.nM f p Γ).grw g=Γ.grw g:=af4
theorem Ml:(Am.nM f p Γ).nst g=Γ.nst g:=af4
end
section
variable {Γ:Env} {g d f:Nat} {p:List D->Option (Nat×Nat×Nat×Nat×Nat×List D)}
theorem M0:(Am.xN f p Γ).nx.res g=if g=f then some p else Γ.nx.res g:=af4
theorem MX:(Am.xN f p Γ).nx.lnd g=Γ.nx.lnd g:=af4
theorem C1:(Am.xN f p Γ).lends g=Γ.lends g:=af4
theorem M3 {l:Option (D×Row)} {ada:List D} : (Am.xN f p Γ).sem g l ada=Γ.sem g l ada:=af4
theorem MZ:(Am.xN f p Γ).own g=Γ.own g:=af4
theorem GO:(Am.xN f p Γ).hint g=Γ.hint g:=af4
theorem MW:(Am.xN f p Γ).ins g=Γ.ins g:=af4
theorem MV:(Am.xN f p Γ).grw g=Γ.grw g:=af4
theorem MY:(Am.xN f p Γ).nst g=Γ.nst g:=af4
end
section
variable {Γ:Env} {h:Nat->Option Row} {e x v o g:Nat} {rest:List D}
def OK (Γ:Env) (e:Nat) (h:Nat->Option Row) (g x o:Nat) (rest:List D):Option (Row×Nat×Nat×Nat×List D)->Option bM
 | some (r,ty,s,nv,cs)=>BB e x r ty s nv cs o (Γ.nx.lnd g) (bk (EH h) rest)
 | none=>none
theorem Ff:p9 Γ e h g (.ptr x v o::rest)=OK Γ e h g x o rest (iX h x v):=by
 simp only[p9,OK]
 cases iX h x v<;>rfl
theorem zy {r:Row} {ty s nv:Nat} {cs:List D} : OK Γ e h g x o rest (some (r,ty,s,nv,cs))=BB e x r ty s nv cs o (Γ.nx.lnd g) (bk (EH h) rest):=af4
theorem zw {r:Row} {ty s nv:Nat} {cs ada:List D} {p:Nat×(Nat->Nat->Nat->Nat->List D->List D->Option (D×List D))} : BB e x r ty s nv cs o (some p) (some (ada,[]))=H5 x r ty s o p.1 (oW nv e) (p.2 r.ty ty s o cs ada):=af4
theorem zx {r:Row} {ty s nv' k:Nat} {d:D} {cs':List D} : H5 x r ty s o k (some nv') (some (d,cs'))=if ((cs'.drop o).take k).all (vE s)=true then some ⟨d,[(x,some ⟨r.v,r.ty,[.nr ty s nv' (qz k o cs')],false,r.lst,true⟩)]⟩ else none:=af4
end
end Go.Proofs.Ytchndpjlijbplaa.Am
namespace Go.Proofs.Ytchndpjlijbplaa.P
open Go.RowKit
set_option linter.unusedSimpArgs false
set_option linter.unusedVariables false
def FU:Nat:=1000000000000000000000000
def nt {σ ρ:Type} (body:σ->Option (σ⊕ρ)):Nat->σ->Option ρ
 | 0,_=>none
 | n+1,s =>
  match body s with
  | some (.inl s')=>nt body n s'
  | some (.inr r)=>some r
  | none=>none
def aX {σ ρ:Type} (body:σ->Option (σ⊕ρ)) (s:σ):Option ρ:=nt body FU s
theorem V6 {σ ρ:Type} {body:σ->Option (σ⊕ρ)} (I:σ->Prop) (μ:σ->Nat) (Q:ρ->Prop)
  (hstep:∀s,I s->(∃s',body s=some (.inl s')∧I s'∧μ s'<μ s)∨(∃r,body s=some (.inr r)∧Q r)):∀(n:Nat) (s:σ),I s->μ s<n->∃r,nt body n s=some r∧Q r:=by
 intro n
 induction n with
 | zero=>intro s _ h;omega
 | succ n ih =>
  intro s hI hμ
  rcases hstep s hI with⟨s',h1,h2,h3⟩|⟨r,h1,h2⟩
  ·obtain⟨r,h4,h5⟩:=ih s' h2 (by omega)
   exact⟨r,by simp only[nt,h1];exact h4,h5⟩
  ·exact⟨r,by simp only[nt,h1],h2⟩
theorem oK {σ ρ:Type} {body:σ->Option (σ⊕ρ)} (I:σ->Prop) (μ:σ->Nat) (Q:ρ->Prop) {s:σ} (hI:I s) (hμ:μ s<FU)
  (hstep:∀s,I s->(∃s',body s=some (.inl s')∧I s'∧μ s'<μ s)∨(∃r,body s=some (.inr r)∧Q r)):∃r,aX body s=some r∧Q r:=V6 I μ Q hstep FU s hI hμ
def idx {α:Type} (l:List α) (i:Int):Option α:=if 0<=i∧i<l.length then l[i.toNat]? else none
def AQ {α:Type} (l:List α) (a b:Int):Option (List α):=if 0<=a∧a<=b∧b<=l.length then some ((l.drop a.toNat).take (b.toNat-a.toNat)) else none
def D6 {α:Type} (bytes:Nat) (n c:Int) (z:α):Option (List α):=if 0<=n∧n<=c∧c<=maxLen∧c.toNat*bytes<=140737488355328 then some (List.replicate n.toNat z) else none
def k9 {α:Type} (bytes:Nat) (l m:List α):Option (List α):=if l.length+m.length<=maxLen∧(l.length+m.length)*bytes<=140737488355328 then some (l++m) else none
def V4 {α:Type} (bytes:Nat) (l:List α) (i:Int) (xs:List α):Option (List α):=if 0<=i∧i<=l.length∧0<xs.length∧(l.length+xs.length)*bytes<=140737488355328 then some (l.take i.toNat++(xs++l.drop i.toNat)) else none
def Vo {α:Type} (l:List α) (i j:Int):Option (List α):=if 0<=i∧i<=j∧j<=l.length∧l.length<=maxLen then some (l.take i.toNat++l.drop j.toNat) else none
def Nm {α:Type} (x:Bool×α):Option α:=if x.1=true then none else some x.2
def NQ {α:Type} (x:Bool×α):Option α:=if x.1=true then some x.2 else none
def F6 {α:Type} (l:List α):List (Bool×α):=l.map fun x=>(false,x)
def yJ (k:IntKind) (x y:Int):Option Int:=if y=0 then none else some (k.wrap (x.tdiv y))
def yZ (_:IntKind) (x y:Int):Option Int:=if y=0 then none else some (x.tmod y)
def EE (k:IntKind) (x y:Int):Option Int:=if y<0 then none else some (k.wrap (x*2 ^ (min y.toNat k.bits)))
def wU (k:IntKind) (x y:Int):Option Int:=if y<0 then none else some (x.fdiv (2 ^ (min y.toNat k.bits)))
def jV (op:BinOp) (k:IntKind) (x y:Int):Int :=
 let a:=BitVec.ofInt k.bits x
 let b:=BitVec.ofInt k.bits y
 match op with
 | .and=>k.wrap (a &&& b).toNat
 | .or=>k.wrap (a ||| b).toNat
 | .xor=>k.wrap (a ^^^ b).toNat
 | _=>k.wrap (a &&& ~~~b).toNat
def Yc {α:Type} : List (Int×α)->Int->Bool
 | [],_=>false
 | (k,_)::m,n=>k==n||Yc m n
theorem ah {α β:Type} {o:Option α} {f:α->Option β} {r:β} (h:o.bind f=some r):∃a,o=some a∧f a=some r:=by
 cases o with
 | none=>cases h
 | some a=>exact⟨a,rfl,h⟩
theorem aa5 {α:Type} {b:Bool} {x y r:α} (hb:b=true) (h:(if b=true then x else y)=r):x=r:=by rw[if_pos hb]at h;exact h
theorem aa4 {α:Type} {b:Bool} {x y r:α} (hb:b=false) (h:(if b=true then x else y)=r):y=r:=by rw[hb]at h;simpa using h
theorem ai {a b:Prop} (x:a) (y:b):a∧b:=⟨x,y⟩
theorem sp {α:Type} {b:Bool} {P1 P2 Q:Prop} {x y r:α} (k:(b=true->P1)->(b=false->P2)->Q) (h:(if b=true then x else y)=r) (h1:b=true->x=r->P1) (h2:b=false->y=r->P2):Q:=k (fun hb=>h1 hb (aa5 hb h)) fun hb=>h2 hb (aa4 hb h)
end Go.Proofs.Ytchndpjlijbplaa.P
namespace Go.Proofs.Ytchndpjlijbplaa.Am
open Go.RowKit Go.Proofs.Ytchndpjlijbplaa.P
set_option linter.unusedSimpArgs false
set_option linter.unusedVariables false
structure ig (α:Type) where
 cells:α->List D
 size:Nat
 len:∀x,(cells x).length=size
 pos:0<size
 inj:∀x y,cells x=cells y->x=y
def ae {α:Type} (e:ig α):List α->List D
 | []=>[]
 | x::l=>e.cells x++ae e l
section
variable {α β:Type} (e:ig α)
theorem xx:ae e []=[]:=rfl
theorem aJ (x:α) (l:List α):ae e (x::l)=e.cells x++ae e l:=rfl
theorem fl:∀l m:List α,ae e (l++m)=ae e l++ae e m
 | [],m=>rfl
 | x::l,m=>by rw[ae6,aJ,aJ,fl l m,aev]
theorem bL:∀l:List α,(ae e l).length=l.length*e.size
 | []=>by simp[ae]
 | x::l=>by rw[aJ,aej,bL l,e.len,adH,aed];omega
theorem nU:∀(l:List α) (i:Nat),(ae e l).drop (i*e.size)=ae e (l.drop i)
 | l,0=>by simp
 | [],i+1=>by simp[ae]
 | x::l,i+1=>by
  rw[aJ,ae7,<- nU l i,aeY,e.len,aeZ (by rw[e.len,aed];omega),aeW]
  congr 1
  rw[aed];omega
theorem ef:∀(l:List α) (i:Nat),(ae e l).take (i*e.size)=ae e (l.take i)
 | l,0=>by simp[ae]
 | [],i+1=>by simp[ae]
 | x::l,i+1=>by
  rw[aJ,ae8,aJ,aey,e.len,aeA (by rw[e.len,aed];omega),<- ef l i]
  congr 2
  rw[aed];omega
theorem tC:∀l m:List α,ae e l=ae e m->l=m
 | [],[],_=>rfl
 | [],y::m,h=>by
  have:=congrArg List.length h
  have hp:=e.pos
  rw[aJ,aej,e.len]at this
  simp[ae]at this
  omega
 | x::l,[],h=>by
  have:=congrArg List.length h
  have hp:=e.pos
  rw[aJ,aej,e.len]at this
  simp[ae]at this
  omega
 | x::l,y::m,h=>by
  rw[aJ,aJ]at h
  obtain⟨h1,h2⟩:=ae9 h (by rw[e.len,e.len])
  rw[e.inj _ _ h1,tC l m h2]
theorem KT:∀(n:Nat) (x:α),ml n (e.cells x)=ae e (List.replicate n x)
 | 0,x=>by simp[ml,ae]
 | n+1,x=>by rw[aeb,aJ,<- KT n x];simp[ml,List.replicate_succ]
end
def eI (k:IntKind):ig Int:=⟨fun n=>[.int k n],1,fun _=>rfl,by decide,fun x y h=>by simpa using h⟩
def kH:ig Bool:=⟨fun n=>[.bool n],1,fun _=>rfl,by decide,fun x y h=>by simpa using h⟩
def aaY:ig ByteArray:=⟨fun n=>[.str n],1,fun _=>rfl,by decide,fun x y h=>by simpa using h⟩
def Oj {α:Type} (e:ig α):ig (List α):=⟨fun l=>[.sl false false l.length (ae e l)],1,fun _=>rfl,by decide,fun x y h=>by
 simp only[adF,D.sl.injEq,true_and,and_true]at h
 exact tC e _ _ h.2⟩
def xr {α β:Type} (e:ig α) (f:ig β):ig (α×β):=⟨fun x=>e.cells x.1++f.cells x.2,e.size+f.size,fun x=>by rw[aej,e.len,f.len],adk e.pos (Nat.le_add_right _ _),fun x y h=>by
 obtain⟨h1,h2⟩:=ae9 h (by rw[e.len,e.len])
 exact Prod.ext (e.inj _ _ h1) (f.inj _ _ h2)⟩
def KO {α β:Type} (e:ig β) (f:α->β) (hf:∀x y,f x=f y->x=y):ig α:=⟨fun x=>e.cells (f x),e.size,fun x=>e.len _,e.pos,fun x y h=>hf _ _ (e.inj _ _ h)⟩
structure Arg (α:Type) where
 d:α->D
 inj:∀x y,d x=d y->x=y
def aI (k:IntKind):Arg Int:=⟨fun n =>.int k n,fun x y h=>by simpa using h⟩
def aaQ:Arg Bool:=⟨fun n =>.bool n,fun x y h=>by simpa using h⟩
def nc {α:Type} (e:ig α):Arg (List α):=⟨fun l =>.sl false false l.length (ae e l),fun x y h=>by
 simp only[D.sl.injEq,true_and]at h
 exact tC e _ _ h.2⟩
def cN {α:Type} (e:ig α):Arg α:=⟨fun x =>.agg (e.cells x),fun x y h=>e.inj _ _ (by simpa using h)⟩
theorem B6 (k:IntKind) (n:Int):(eI k).cells n=[.int k n]:=af4
theorem zN (n:Bool):kH.cells n=[.bool n]:=af4
theorem B8 (n:ByteArray):aaY.cells n=[.str n]:=af4
theorem yM {α:Type} (e:ig α) (l:List α):(Oj e).cells l=[.sl false false l.length (ae e l)]:=af4
structure kZ (α:Type) where
 ds:α->List D
 inj:∀x y,ds x=ds y->x=y
def as0:kZ Unit:=⟨fun _=>[],fun _ _ _=>rfl⟩
def fO {α:Type} (a:Arg α):kZ α:=⟨fun x=>[a.d x],fun x y h=>a.inj _ _ (by simpa using h)⟩
def iO {α β:Type} (a:Arg α) (b:kZ β):kZ (α×β):=⟨fun x=>a.d x.1::b.ds x.2,fun x y h=>by
 simp only[adF]at h
 exact Prod.ext (a.inj _ _ h.1) (b.inj _ _ h.2)⟩
noncomputable def fR {α β:Type} (A:kZ α) (F:α->Option β) (R:β->RK):Option (D×Row)->List D->Option (RK×Option Row):=fun lent ds =>
 match lent with
 | none=>open Classical in if h:∃a,A.ds a=ds then (F (Classical.choose h)).map fun r=>(R r,none) else none
 | some _=>none
theorem aU {α β:Type} (A:kZ α) (F:α->Option β) (R:β->RK) (a:α):fR A F R none (A.ds a)=(F a).map fun r=>(R r,none):=by
 have h:∃b,A.ds b=A.ds a:=⟨a,rfl⟩
 simp only[fR]
 rw[dif_pos h,A.inj _ _ (Classical.choose_spec h)]
theorem xK {α β:Type} {A:kZ α} {F:α->Option β} {R:β->RK} {lent:Option (D×Row)} {ds:List D} {rk:RK} {out:Option Row} (h:fR A F R lent ds=some (rk,out)):lent=none∧out=none∧∃a r,ds=A.ds a∧F a=some r∧rk=R r:=by
 unfold fR at h
 split at h
 ·split at h
  ·rename_i he
   rw[adf]at h
   obtain⟨r,h1,h2⟩:=h
   simp only[Prod.mk.injEq]at h2
   obtain⟨rfl,rfl⟩:=h2
   exact⟨rfl,rfl,_,r,(Classical.choose_spec he).symm,h1,rfl⟩
  ·cases h
 ·cases h
structure bX (P:Program) (f:FuncId) (G:Option (D×Row)->List D->Option (RK×Option Row)):Prop where
 calls:∀lent ada rk out,G lent ada=some (rk,out)->n7 P f lent ada rk out
 callable:dq P f
theorem bX.of {P:Program} {T:Nat->Option Ty} {Γ:Env} (hT:js P T) (hΓ:bB P Γ) (hm:P.follows .mixedOrders=true) {α β:Type} {A:kZ α} {F:α->Option β} {R:β->RK} {mode:Mode} {f:FuncId} {fn:Func} (hf:P.funcs[f]? = some fn) (hok:(match fn.body with|some c=>codeOk c|none=>true)=true)
  (hc:(fn.name == "runtime.NumGoroutine")=false∧fn.body.isNone=false) (hn:∀a,(A.ds a).length<=fn.ntmps) (h:∀a r,F a=some r->ba mode T Γ FU fn none (A.ds a)=some (R r,none)):bX P f (fR A F R) where
 calls lent ada rk out hg:=by
  obtain⟨rfl,rfl,a,r,rfl,hr,rfl⟩:=xK hg
  exact kX hT hΓ hm hf hok (hn a) rfl (h a r hr)
 callable:=⟨fn,hf,hc⟩
theorem bB.add {P:Program} {Γ:Env} (hΓ:bB P Γ) {f:Nat} {G:Option (D×Row)->List D->Option (RK×Option Row)} (h:bX P f G) (l:Bool):bB P (Am.ext Γ f l G):=hΓ.ext h.calls h.callable
section
variable {T:Nat->Option Ty} {Γ:Env} {N e:Nat} {ws:List W} {Q:Kt} {t:Nat->D} {h:Nat->Option Row}
def LK {σ ρ:Type} (Rel:σ->(Nat->D)->(Nat->Option Row)->Nat->Prop) (RelX:ρ->Ex->(Nat->D)->(Nat->Option Row)->Nat->Prop) (c:σ⊕ρ):Kt:=fun x t h e =>
 match x with
 | .normal=>∃s',c=.inl s'∧Rel s' t h e
 | x=>∃o,c=.inr o∧RelX o x t h e
theorem jz {σ ρ:Type} {Rel:σ->(Nat->D)->(Nat->Option Row)->Nat->Prop} {RelX:ρ->Ex->(Nat->D)->(Nat->Option Row)->Nat->Prop} {s':σ} (k:Rel s' t h e):LK Rel RelX (.inl s') .normal t h e:=⟨s',rfl,k⟩
theorem kK {σ ρ:Type} {Rel:σ->(Nat->D)->(Nat->Option Row)->Nat->Prop} {RelX:ρ->Ex->(Nat->D)->(Nat->Option Row)->Nat->Prop} {o:ρ} {n:Nat} (k:RelX o (.exit n) t h e):LK Rel RelX (.inr o) (.exit n) t h e:=⟨o,rfl,k⟩
theorem IG {σ ρ:Type} {Rel:σ->(Nat->D)->(Nat->Option Row)->Nat->Prop} {RelX:ρ->Ex->(Nat->D)->(Nat->Option Row)->Nat->Prop} {o:ρ} (k:RelX o .ret t h e):LK Rel RelX (.inr o) .ret t h e:=⟨o,rfl,k⟩
theorem aB {σ ρ:Type} {body:σ->Option (σ⊕ρ)} {b:Code} (Rel:σ->(Nat->D)->(Nat->Option Row)->Nat->Prop) (RelX:ρ->Ex->(Nat->D)->(Nat->Option Row)->Nat->Prop) {s0:σ} {out:ρ} (hL:aX body s0=some out) (h0:Rel s0 t h e)
  (hstep:∀s t h e,Rel s t h e->∀c,body s=some c->cD T Γ N FU [.code b] (LK Rel RelX c) .normal t h e)
  (hexit:∀x t h e,RelX out x t h e->cD T Γ N FU ws Q x t h e):Sx T Γ N FU b ws Q t h e:=by
 have key:∀(n:Nat) (s:σ) (t:Nat->D) (h:Nat->Option Row) (e:Nat),Rel s t h e->nt body n s=some out->∃x s',iter (fT T Γ N FU b) n ⟨t,h,e⟩=some (x,s')∧cD T Γ N FU ws Q x s'.t s'.h s'.e:=by
  intro n
  induction n with
  | zero=>intro s t h e _ hi;cases hi
  | succ n ih =>
   intro s t h e hR hi
   simp only[nt]at hi
   cases hb:body s with
   | none=>rw[hb]at hi;cases hi
   | some c =>
    rw[hb]at hi
    obtain⟨x,s1,h1,h2⟩:=Jv _ _ _ _ _ (show JA T Γ N FU b t h e (LK Rel RelX c) from hstep s t h e hR c hb)
    simp only[iter,h1]
    cases x with
    | normal =>
     obtain⟨s',rfl,h4⟩:=h2
     exact ih s' s1.t s1.h s1.e h4 hi
    | exit m =>
     obtain⟨o,rfl,h4⟩:=h2
     simp only[adq]at hi
     subst hi
     exact⟨_,_,rfl,hexit _ _ _ _ h4⟩
    | ret =>
     obtain⟨o,rfl,h4⟩:=h2
     simp only[adq]at hi
     subst hi
     exact⟨_,_,rfl,hexit _ _ _ _ h4⟩
 exact key FU s0 t h e h0 hL
theorem yj {d:D} {g:Nat} {A B A' B':(Nat->D)->Prop} (hk:QD d t g A B) (h1:∀t,A t->A' t) (h2:∀t,B t->B' t):QD d t g A' B':=by
 cases d with
 | bool b=>exact⟨fun hb=>h1 _ (hk.1 hb),fun hb=>h2 _ (hk.2 hb)⟩
 | _=>exact hk
theorem D4 {d:D} {g:Nat} {A B S A' B' S':(Nat->D)->Prop} (hk:wpS d t g A B S) (h1:∀t,A t->A' t) (h2:∀t,B t->B' t) (h3:∀t,S t->S' t):wpS d t g A' B' S':=by
 unfold wpS at hk ⊢
 split at hk
 ·exact h3 _ hk
 ·exact yj hk h1 h2
theorem C4 {α:Type} {x:Option α} {K K':α->Prop} (hk:oL x K) (h1:∀a,K a->K' a):oL x K':=by
 cases x with
 | none=>exact hk
 | some a=>exact h1 a hk
theorem Oh {ops:List Oper} {gd:Option (Nat×Bool)} {A B A' B':(Nat->D)->Prop} (hk:XJ ops t gd A B) (h1:∀t,A t->A' t) (h2:∀t,B t->B' t):XJ ops t gd A' B':=by
 unfold XJ at hk ⊢
 split
 ·exact h1 _ hk
 ·rename_i j want
  refine C4 hk fun g hg=>D4 hg ?_ ?_ h2
  ·intro t ht;cases want<;>simp_all
  ·intro t ht;cases want<;>simp_all
theorem yl {o:Oper} {K K':(Nat->D)->bM->Prop} (hk:QG T Γ e o t h K) (h1:∀t E,K t E->K' t E):QG T Γ e o t h K':=by
 unfold QG at hk ⊢
 split
 ·rename_i ho
  rw[ho]at hk
  exact yj hk (fun _ h=>h1 _ _ h) (fun _ h=>h1 _ _ h)
 ·rename_i hne
  split at hk
  ·rename_i c a b ho;exact absurd ho (hne _ _ _)
  ·exact C4 hk (fun _ h=>h1 _ _ h)
theorem vr {ops:List Oper} {K K':(Nat->D)->(Nat->Option Row)->Prop} (h1:∀t h,K t h->K' t h):∀(l:List Oper) (t:Nat->D) (h:Nat->Option Row),DF T Γ N e ops l t h K->DF T Γ N e ops l t h K'
 | [],t,h,hk=>h1 _ _ hk
 | o::l,t,h,hk=>by
  unfold DF at hk ⊢
  exact⟨hk.1,Oh hk.2 (fun t ht=>yl ht fun t E hE=>vr h1 l _ _ hE) (fun t ht=>vr h1 l _ _ ht)⟩
theorem vl {ops:List Oper} {K K':(Nat->D)->(Nat->Option Row)->List jQ->Prop} (h1:∀t h fs,K t h fs->K' t h fs):∀(l:List Oper) (t:Nat->D) (h:Nat->Option Row) (fs:List jQ),runK T Γ N e ops l t h fs K->runK T Γ N e ops l t h fs K'
 | [],t,h,fs,hk=>h1 _ _ _ hk
 | o::l,t,h,fs,hk=>by
  unfold runK at hk ⊢
  exact⟨hk.1,Oh hk.2 (fun t ht=>yl ht fun t E hE=>vl h1 l _ _ _ hE) (fun t ht=>vl h1 l _ _ _ ht)⟩
theorem XL {ops:Array Oper} {draw:Bool} {K K':(Nat->D)->(Nat->Option Row)->Prop} (hk:wpR T Γ N ops draw t h e K) (h1:∀t h,K t h->K' t h):wpR T Γ N ops draw t h e K':=by
 unfold wpR at hk ⊢
 cases draw with
 | true=>exact vl (fun t h fs hh=>⟨hh.1,h1 _ _ hh.2⟩) _ _ _ _ hk
 | false=>exact vr h1 _ _ _ hk
theorem Ur {F:Nat} : ∀(c:Code) (t:Nat->D) (h:Nat->Option Row) (e:Nat) (K K':Kt),JA T Γ N F c t h e K->(∀x t h e,K x t h e->K' x t h e)->JA T Γ N F c t h e K':=by
 intro c
 induction c with
 | skip=>intro t h e K K' hk hm;exact hm _ _ _ _ hk
 | region i ops draw=>intro t h e K K' hk hm;exact XL hk fun t h hh=>hm _ _ _ _ hh
 | seq a b iha ihb =>
  intro t h e K K' hk hm
  refine iha _ _ _ _ _ hk fun x t h e hx =>?_
  cases x with
  | normal=>exact ihb _ _ _ _ _ hx hm
  | exit n=>exact hm _ _ _ _ hx
  | ret=>exact hm _ _ _ _ hx
 | cond c x y ihx ihy =>
  intro t h e K K' hk hm
  unfold JA at hk ⊢
  cases c with
  | tmp g=>exact yj hk (fun t ht=>ihx _ _ _ _ _ ht hm) (fun t ht=>ihy _ _ _ _ _ ht hm)
  | const v =>
   cases v with
   | bool b =>
    cases b with
    | true=>exact ihx _ _ _ _ _ hk hm
    | false=>exact ihy _ _ _ _ _ hk hm
   | _=>exact hk
  | _=>exact hk
 | block id b ih =>
  intro t h e K K' hk hm
  refine ih _ _ _ _ _ hk fun x t h e hx =>?_
  cases x with
  | normal=>exact hm _ _ _ _ hx
  | ret=>exact hm _ _ _ _ hx
  | exit n =>
   unfold U1 at hx ⊢
   simp only at hx ⊢
   split at hx
   ·rename_i hn;rw[if_pos hn];exact hm _ _ _ _ hx
   ·rename_i hn;rw[if_neg hn];exact hm _ _ _ _ hx
 | loop b ih =>
  intro t h e K K' hk hm
  obtain⟨x,s,h1,h2⟩:=hk
  exact⟨x,s,h1,hm _ _ _ _ h2⟩
 | exit id=>intro t h e K K' hk hm;exact hm _ _ _ _ hk
 | ret=>intro t h e K K' hk hm;exact hm _ _ _ _ hk
 | _=>intro t h e K K' hk;exact hk.elim
def CK {σ:Type} (J:σ->(Nat->D)->(Nat->Option Row)->Nat->Prop) (P:σ->Prop) (R:Kt):Kt:=fun x t h e =>
 match x with
 | .normal=>∃s,P s∧J s t h e
 | x=>R x t h e
theorem au {σ:Type} {J:σ->(Nat->D)->(Nat->Option Row)->Nat->Prop} {P:σ->Prop} {R:Kt} : CK J P R .normal t h e = ∃s,P s∧J s t h e:=af4
end
section
variable {h:Nat->Option Row}
theorem Fi {k:IntKind} {n:Int} : canon (.int k n)=.int k n:=af4
theorem BH {b:Bool} : canon (.bool b)=.bool b:=af4
theorem Fk {b:ByteArray} : canon (.str b)=.str b:=af4
theorem J2 {a b:Bool} {n:Nat} {xs:List D} : canon (.sl a b n xs)=.sl false false n xs:=af4
theorem BD {k:IntKind} {n:Int} : fe (.int k n)=.int k n:=af4
theorem zA {b:Bool} : fe (.bool b)=.bool b:=af4
theorem BG {b:ByteArray} : fe (.str b)=.str b:=af4
theorem Fh {a b:Bool} {n:Nat} {xs:List D} : fe (.sl a b n xs)=.sl false false n xs:=af4
theorem BC {xs:List D} : fe (.agg xs)=.agg (xs.map canon):=af4
def X0 (x s o n:Nat):Option Row->Option (D×List Nat)
 | some r=>if o+n*s<=r.cells.length then some (.sl false false n ((r.cells.drop o).take (n*s)),[x]) else none
 | none=>none
theorem Kd {x s o n:Nat} {r:Row} : X0 x s o n (some r)=if o+n*s<=r.cells.length then some (.sl false false n ((r.cells.drop o).take (n*s)),[x]) else none:=af4
def clP (x o:Nat):Option Row->Option (D×List Nat)
 | some r=>if o<=r.cells.length then some (.ip (r.cells.drop o),[x]) else none
 | none=>none
theorem Kj {x o:Nat} {r:Row} : clP x o (some r)=if o<=r.cells.length then some (.ip (r.cells.drop o),[x]) else none:=af4
theorem J9 {k:IntKind} {n:Int} : bp h (.int k n)=some (.int k n,[]):=af4
theorem Fm {b:Bool} : bp h (.bool b)=some (.bool b,[]):=af4
theorem Kc {b:ByteArray} : bp h (.str b)=some (.str b,[]):=af4
theorem Rn {a b:Bool} {n:Nat} {xs:List D} : bp h (.sl a b n xs)=some (.sl false false n xs,[]):=af4
theorem J5 {xs:List D} : bp h (.agg xs)=some (.agg (xs.map canon),[]):=af4
theorem Rl {xs:List D} : bp h (.ip xs)=some (.ip xs,[]):=af4
theorem Rk {f:Nat} : bp h (.fn f)=some (.fn f,[]):=af4
theorem J7 {x v s o n:Nat} : bp h (.buf x v s o n)=X0 x s o n (live h x v):=by
 simp only[bp,aN,cU]
 cases live h x v with
 | none=>rfl
 | some r=>by_cases hc:o+n*s<=r.cells.length<;>simp[X0,hc,canon]
theorem Kb {x v o:Nat} : bp h (.ptr x v o)=clP x o (live h x v):=by
 simp only[bp,aN]
 cases live h x v with
 | none=>rfl
 | some r=>simp only[clP]
theorem Vm {k:IntKind} {n:Int} : dV h (.int k n)=some ([.int k n],[]):=af4
theorem Rr {b:Bool} : dV h (.bool b)=some ([.bool b],[]):=af4
theorem Vn {b:ByteArray} : dV h (.str b)=some ([.str b],[]):=af4
theorem Y3 {a b:Bool} {n:Nat} {xs:List D} : dV h (.sl a b n xs)=some ([.sl a b n xs],[]):=af4
theorem Vk {xs:List D} : dV h (.agg xs)=some (xs,[]):=af4
def cvB:Option (D×List Nat)->Option (List D×List Nat)
 | some (d,fr)=>some ([d],fr)
 | none=>none
theorem Kr {d:D} {fr:List Nat} : cvB (some (d,fr))=some ([d],fr):=af4
theorem Vl {x v s o n:Nat} : dV h (.buf x v s o n)=cvB (X0 x s o n (live h x v)):=by
 simp only[dV,cU]
 cases live h x v with
 | none=>rfl
 | some r=>by_cases hc:o+n*s<=r.cells.length<;>simp[X0,cvB,hc]
def clF (h:Nat->Option Row):Option (D×List Nat)->Option bM
 | some (d,fr)=>some ⟨d,iz h fr⟩
 | none=>none
theorem Kf {d:D} {fr:List Nat} : clF h (some (d,fr))=some ⟨d,iz h fr⟩:=af4
theorem QV {x v s o n:Nat} : gR h (.buf x v s o n)=clF h (X0 x s o n (live h x v)):=by
 simp only[gR,ot,cU]
 cases live h x v with
 | none=>rfl
 | some r=>by_cases hc:o+n*s<=r.cells.length<;>simp[X0,clF,hc,canon,fe]
variable {Γ:Env} {f g e:Nat} {l:Bool} {G:Option (D×Row)->List D->Option (RK×Option Row)} {lent:Option (D×Row)} {ada:List D} {dst:Option Nat} {fr:List Nat}
theorem F2:(Am.ext Γ f l G).lends g=if g=f then l else Γ.lends g:=af4
theorem RO:(Am.ext Γ f l G).sem g lent ada=if g=f then G lent ada else Γ.sem g lent ada:=af4
theorem RN {d:Nat} : (Am.ext Γ f l G).own d=Γ.own d:=af4
theorem GI {d:Nat} : a7.own d=true:=af4
theorem L1 {d i:Nat} : (Am.keep d Γ).own i=(i != d&&Γ.own i):=af4
theorem CH {d i:Nat} : (Am.keep d Γ).lends i=Γ.lends i:=af4
theorem L2 {d i:Nat} : (Am.keep d Γ).sem i lent ada=Γ.sem i lent ada:=af4
def Bt (lends:Bool) (Γ:Env) (h:Nat->Option Row) (e:Nat) (dst:Option Nat) (g:Nat) (args:List D):Option bM :=
 if lends then
  match args with
  | .buf x v s o n::rest=>sC Γ h e dst g x v (.buf 0 0 s o n) rest
  | .ptr x v o::rest=>sC Γ h e dst g x v (.ptr 0 0 o) rest
  | _=>none
 else tf Γ h e dst g args
def XZ (p:Option (Nat×Nat×Nat)) (Γ:Env) (h:Nat->Option Row) (e:Nat) (dst:Option Nat) (g:Nat) (args:List D):Option bM :=
 match p with
 | some p=>sB h e dst p args
 | none =>
  match Γ.grw g with
  | some p=>sA h p args
  | none=>Bt (Γ.lends g) Γ h e dst g args
def ZZ (p:Option Grow) (Γ:Env) (h:Nat->Option Row) (e:Nat) (dst:Option Nat) (g:Nat) (args:List D):Option bM :=
 match p with
 | some p=>sA h p args
 | none=>Bt (Γ.lends g) Γ h e dst g args
theorem Fa {args:List D} : XZ none Γ h e dst g args=ZZ (Γ.grw g) Γ h e dst g args:=af4
theorem E8 {args:List D} : ZZ none Γ h e dst g args=Bt (Γ.lends g) Γ h e dst g args:=af4
theorem E9 {p:Grow} {args:List D} : ZZ (some p) Γ h e dst g args=sA h p args:=af4
theorem RJ {f:Nat} {l:Bool} {G:Option (D×Row)->List D->Option (RK×Option Row)} : (Am.ext Γ f l G).grw g=Γ.grw g:=af4
theorem LY {d:Nat} : (Am.keep d Γ).grw g=Γ.grw g:=af4
theorem LH {d y:Nat} : (Am.vU d y Γ).grw g=Γ.grw g:=af4
theorem LQ {f:Nat} {p:Nat×Nat×Nat} : (Am.yS f p Γ).grw g=Γ.grw g:=af4
theorem GD:a7.grw g=none:=af4
theorem Lx {f:Nat} {p:Grow} : (Am.CA f p Γ).grw g=if g=f then some p else Γ.grw g:=af4
theorem Ly {f:Nat} {p:Grow} : (Am.CA f p Γ).ins g=Γ.ins g:=af4
theorem CB {f:Nat} {p:Grow} : (Am.CA f p Γ).lends g=Γ.lends g:=af4
theorem LD {f:Nat} {p:Grow} {l:Option (D×Row)} {ada:List D} : (Am.CA f p Γ).sem g l ada=Γ.sem g l ada:=af4
theorem LC {f:Nat} {p:Grow} {d:Nat} : (Am.CA f p Γ).own d=Γ.own d:=af4
theorem Gh {f:Nat} {p:Grow} {d:Nat} : (Am.CA f p Γ).hint d=Γ.hint d:=af4
def lvP (v:Nat):Option Row->Option (Row×Nat×Nat×Nat)
 | some r=>if r.v=v∧r.mp=true then (match r.cells with | [.ph y s n]=>some (r,y,s,n)|_=>none) else none
 | none=>none
theorem Mh {x v:Nat} : kJ h x v=lvP v (h x):=by
 unfold kJ lvP
 cases h x<;>rfl
theorem Mr {v ty y s n:Nat} {fz lst:Bool} : lvP v (some ⟨v,ty,[.ph y s n],fz,lst,true⟩)=some (⟨v,ty,[.ph y s n],fz,lst,true⟩,y,s,n):=by simp[lvP]
def U4 (p:Grow) (y k:Nat) (rest:List D):Option (Row×Nat×Nat×Nat)->Option Row->Option bM
 | some (ry,k',s,n),some r =>
   if k'=k∧k=PK+y∧y<PK∧ry.fz=false∧r.mp=false∧r.fz=false∧r.lst=true∧s=p.k∧r.ty=p.ty∧r.cells.length=n*p.k∧(n+1)*p.bytes<=140737488355328 then
    match p.sem r.cells rest with
    | some cs=>some ⟨.int .i64 (n:Int),[(k,some ⟨r.v,p.ty,r.cells++cs,false,true,false⟩),(y,some ⟨ry.v,ry.ty,[.ph k p.k (n+1)],false,false,true⟩)]⟩
    | none=>none
   else none
 | _,_=>none
theorem Rc {p:Grow} {y v k:Nat} {rest:List D} : sA h p (.pm y v k::rest)=U4 p y k rest (kJ h y v) (h k):=af4
def Y2 (k y v ty e' ty' k' n:Nat) (cells:List D):Option (List D)->Option bM
 | some cs=>some ⟨.int .i64 (n:Int),[(k,some ⟨e',ty',cells++cs,false,true,false⟩),(y,some ⟨v,ty,[.ph k k' (n+1)],false,false,true⟩)]⟩
 | none=>none
theorem Br {ty' k' by_:Nat} {sem:List D->List D->Option (List D)} {y k:Nat} {rest:List D} {v ty s n e' tyr:Nat} {cells:List D} : U4 ⟨ty',k',by_,sem⟩ y k rest (some (⟨v,ty,[.ph k s n],false,false,true⟩,k,s,n)) (some ⟨e',tyr,cells,false,true,false⟩) =
  if k=1000000+y∧y<1000000∧s=k'∧tyr=ty'∧cells.length=n*k'∧(n+1)*by_<=140737488355328 then Y2 k y v ty e' ty' k' n cells (sem cells rest) else none:=by
 simp only[U4,PK,true_and]
 cases sem cells rest<;>rfl
theorem Bs {k y v ty e' ty' k' n:Nat} {cells cs:List D} : Y2 k y v ty e' ty' k' n cells (some cs)=some ⟨.int .i64 (n:Int),[(k,some ⟨e',ty',cells++cs,false,true,false⟩),(y,some ⟨v,ty,[.ph k k' (n+1)],false,false,true⟩)]⟩:=af4
theorem Fb {p:Nat×Nat×Nat} {args:List D} : XZ (some p) Γ h e dst g args=sB h e dst p args:=af4
theorem RL {f:Nat} {l:Bool} {G:Option (D×Row)->List D->Option (RK×Option Row)} : (Am.ext Γ f l G).ins g=Γ.ins g:=af4
theorem LZ {d:Nat} : (Am.keep d Γ).ins g=Γ.ins g:=af4
theorem LI {d y:Nat} : (Am.vU d y Γ).ins g=Γ.ins g:=af4
theorem GF:a7.ins g=none:=af4
theorem LR {f:Nat} {p:Nat×Nat×Nat} : (Am.yS f p Γ).ins g=if g=f then some p else Γ.ins g:=af4
theorem CG {f:Nat} {p:Nat×Nat×Nat} : (Am.yS f p Γ).lends g=Γ.lends g:=af4
theorem LV {f:Nat} {p:Nat×Nat×Nat} {l:Option (D×Row)} {ada:List D} : (Am.yS f p Γ).sem g l ada=Γ.sem g l ada:=af4
theorem LU {f:Nat} {p:Nat×Nat×Nat} {d:Nat} : (Am.yS f p Γ).own d=Γ.own d:=af4
theorem Gl {f:Nat} {p:Nat×Nat×Nat} {d:Nat} : (Am.yS f p Γ).hint d=Γ.hint d:=af4
def U5 (ty k by_ x y s s' o o' n m:Nat) (i:Int) (e:Nat) (d:Nat):Option Row->Option Row->Option bM
 | some r,some r' =>
   if r.fz=false∧r'.fz=false∧r.lst=true∧r'.lst=true∧x≠y∧s=k∧s'=k∧r.ty=ty∧r'.ty=ty∧o=0∧o'=0∧r.cells.length=n*k∧r'.cells.length=m*k∧0<=i∧i<=n∧0<m∧(n+m)*by_<=140737488355328 then
    some ⟨.buf d e k 0 (n+m),[(y,none),(x,none),(d,some ⟨e,ty,r.cells.take (i.toNat*k)++(r'.cells++r.cells.drop (i.toNat*k)),false,true,false⟩)]⟩
   else none
 | _,_=>none
theorem Rd {ty k by_ x v s o n y v' s' o' m d:Nat} {i:Int} : sB h e (some d) (ty,k,by_) [.buf x v s o n,.int .i64 i,.buf y v' s' o' m]=U5 ty k by_ x y s s' o o' n m i e d (live h x v) (live h y v'):=by
 simp only[sB,U5]
 cases live h x v with
 | none=>rfl
 | some r=>cases live h y v'<;>rfl
theorem Bv {ty k by_ x y s s' o o' n m : Nat} {i : Int} {d : Nat} {r r' : Row} : U5 ty k by_ x y s s' o o' n m i e d (some r) (some r') = if r.fz = false ∧ r'.fz = false ∧ r.lst = true ∧ r'.lst = true ∧ x ≠ y ∧ s = k ∧ s' = k ∧ r.ty = ty ∧ r'.ty = ty ∧ o = 0 ∧ o' = 0 ∧ r.cells.length = n * k ∧ r'.cells.length = m * k ∧ 0 <= i ∧ i <= n ∧ 0 < m ∧ (n + m) * by_ <= 140737488355328 then
        some ⟨.buf d e k 0 (n + m), [(y, none), (x, none), (d, some ⟨e, ty, r.cells.take (i.toNat * k) ++ (r'.cells ++ r.cells.drop (i.toNat * k)), false, true, false⟩)]⟩
      else none := Eq.trans rfl rfl
theorem Re {args:List D} : gL Γ h e dst (.fn g) args=XZ (Γ.ins g) Γ h e dst g args:=by
 simp only[gL,XZ,Bt]
 cases Γ.ins g with
 | none=>cases Γ.grw g<;>rfl
 | some p=>rfl
def Te (h:Nat->Option Row) (e:Nat) (dst:Option Nat) (fr:List Nat):Option (RK×Option Row)->Option bM
 | some (.clean r,_)=>some ⟨r,if fQ r then [] else iz h fr⟩
 | some (.fresh ty s n cells,_) =>
  match dst with
  | some d=>if fr.contains d=false then some ⟨.buf d e s 0 n,(if oE cells then [] else iz h fr)++[(d,some ⟨e,ty,cells,false,true,false⟩)]⟩ else none
  | none=>none
 | _=>none
def U3 (Γ:Env) (h:Nat->Option Row) (e:Nat) (dst:Option Nat) (g:Nat):Option (List D×List Nat)->Option bM
 | some (ada,fr)=>Te h e dst fr (Γ.sem g none ada)
 | none=>none
theorem yI {args:List D} : Bt false Γ h e dst g args=U3 Γ h e dst g (bk h args):=by
 simp only[Bt,adR,if_false,tf,U3]
 cases bk h args with
 | none=>rfl
 | some p =>
  obtain⟨ada,fr⟩:=p
  simp only
  cases hs:Γ.sem g none ada with
  | none=>rfl
  | some q =>
   obtain⟨rk,o⟩:=q
   cases rk<;>rfl
theorem E7:U3 Γ h e dst g (some (ada,fr))=Te h e dst fr (Γ.sem g none ada):=af4
def VU (h:Nat->Option Row) (fr:List Nat):Bool->List (Nat×Option Row)
 | true=>[]
 | false=>iz h fr
theorem Ge:VU h fr true=[]:=af4
theorem Cq:VU h fr false=iz h fr:=af4
theorem Lc {b:Bool} : VU h [] b=[]:=by cases b<;>rfl
theorem Bz {r:D} {o:Option Row} : Te h e dst fr (some (.clean r,o))=some ⟨r,VU h fr (fQ r)⟩:=by
 simp only[Te]
 cases fQ r<;>rfl
theorem RR:iz h []=[]:=af4
theorem Ld {x:Nat} : iz h (x::fr)=(x,(h x).map qk)::iz h fr:=af4
theorem VX {v ty:Nat} {cells:List D} {lst mp:Bool} : qk ⟨v,ty,cells,true,lst,mp⟩=⟨v,ty,cells,true,lst,mp⟩:=af4
theorem VV {v ty:Nat} {cells:List D} {lst mp:Bool} : qk ⟨v,ty,cells,false,lst,mp⟩=⟨v,ty,cells,true,true,mp⟩:=af4
theorem Fo:bk h []=some ([],[]):=af4
def caC (p:Option (D×List Nat)) (q:Option (List D×List Nat)):Option (List D×List Nat) :=
 match p,q with
 | some (d',fr),some (ds',fr')=>some (d'::ds',fr++fr')
 | _,_=>none
theorem JO {d:D} {fr fr':List Nat} {ds:List D} : caC (some (d,fr)) (some (ds,fr'))=some (d::ds,fr++fr'):=af4
theorem BI {d:D} {ds:List D} : bk h (d::ds)=caC (bp h d) (bk h ds):=by
 simp only[bk]
 cases bp h d with
 | none=>rfl
 | some p=>cases bk h ds<;>rfl
variable {T:Nat->Option Ty} {s:St} {rs:List ResultVar} {r:ResultVar}
theorem Nx:tY T s []=some ([],[]):=af4
theorem Hf:tY T s (r::rs)=caC (Nv T s r) (tY T s rs):=by
 simp only[tY]
 cases Nv T s r with
 | none=>rfl
 | some p=>cases tY T s rs<;>rfl
theorem Nw {t:Nat->D} {i:Nat} : Nv T ⟨t,h,e⟩ (.tmp i)=bp h (t i):=af4
def aat (T:Nat->Option Ty) (h:Nat->Option Row) (d:D) (τ:Option Ty):Option (D×List Nat) :=
 match τ,d with
 | some τ,.ptr x v o=>match df τ h (.ptr x v o) with|some E=>some (fe E.val,[])|none=>none
 | _,_=>none
theorem Hd {t:Nat->D} {i ty:Nat} : Nv T ⟨t,h,e⟩ (.cell i ty)=aat T h (t i) (T ty):=af4
def aau:Option bM->Option (D×List Nat)
 | some E=>some (fe E.val,[])
 | none=>none
theorem He {d:D} {w:List (Nat×Option Row)} : aau (some ⟨d,w⟩)=some (fe d,[]):=af4
theorem Nu {τ:Ty} {x v o:Nat} : aat T h (.ptr x v o) (some τ)=aau (df τ h (.ptr x v o)):=by
 simp only[aat,aau]
def Z3 (p:Option (List D×List Nat)):Option (RK×Option Row) :=
 match p with
 | some (ds,_)=>some (.clean (mm ds),none)
 | none=>none
theorem FR {ds:List D} {fr:List Nat} : Z3 (some (ds,fr))=some (.clean (mm ds),none):=af4
theorem Cj:jd .clean T none rs s=Z3 (tY T s rs):=by
 simp only[jd,tD,lB,Yu,Z3]
 cases tY T s rs<;>rfl
theorem BA {ty sz n d:Nat} {cells:List D} {o:Option Row} : Te h e (some d) fr (some (.fresh ty sz n cells,o))=if fr.contains d=false then some ⟨.buf d e sz 0 n,VU h fr (oE cells)++[(d,some ⟨e,ty,cells,false,true,false⟩)]⟩ else none:=by
 simp only[Te]
 cases oE cells<;>rfl
theorem yO {k:IntKind} : ∀l:List Int,oE (ae (eI k) l)=true
 | []=>rfl
 | x::l=>by
  have:=yO (k:=k) l
  simp only[aJ,B6,List.cons_append,List.nil_append,oE,fQ,this,Bool.and_self]
theorem Ck {ty sz i:Nat} {t:Nat->D} : jd (.fresh ty sz) T none [.tmp i] ⟨t,h,e⟩=mc ty sz h (t i):=af4
theorem Cl {i:Nat} {t:Nat->D} : jd .tight T none [.tmp i] ⟨t,h,e⟩=uG (t i):=af4
theorem VP {nl tg:Bool} {n:Nat} {xs:List D} : uG (.sl nl tg n xs)=some (.clean (.sl nl tg n xs),none):=af4
theorem RA {ty sz x v o n:Nat} : mc ty sz h (.buf x v sz o n)=uF ty sz o n (live h x v):=by simp[mc]
theorem VJ {ty sz:Nat} {nl tg:Bool} {xs:List D} : mc ty sz h (.sl nl tg 0 xs)=if tg=true then some (.fresh ty sz 0 [],none) else none:=af4
theorem KP {ty sz o n:Nat} {r:Row} : uF ty sz o n (some r)=if r.fz=false∧r.ty=ty∧o+n*sz<=r.cells.length then some (.fresh ty sz n ((r.cells.drop o).take (n*sz)),none) else none:=af4
theorem Dz {d:D} : mm [d]=d:=af4
theorem DA {d d':D} {ds:List D} : mm (d::d'::ds)=.tup (d::d'::ds):=af4
end
theorem AU (k:IntKind):(eI k).size=1:=af4
theorem rj:kH.size=1:=af4
theorem uE:aaY.size=1:=af4
theorem xt {α:Type} (e:ig α):(Oj e).size=1:=af4
section
variable {α:Type} (E:ig α) {l m:List α} {x x' z:α} {i a b n c:Int} {B:Nat}
theorem oI (h:P.idx l i=some x):0<=i∧i<l.length:=by
 unfold P.idx at h
 split at h
 ·assumption
 ·cases h
theorem IB (h:P.idx l i=some x):l[i.toNat]? = some x:=by
 unfold P.idx at h
 split at h
 ·exact h
 ·cases h
theorem xF (h:P.idx l i=some x):(ae E l).drop (i.toNat*E.size)=E.cells x++ae E (l.drop (i.toNat+1)):=by
 have h':=IB h
 obtain⟨hi,rfl⟩:=adK.1 h'
 rw[nU,afa hi]
 rfl
theorem jh (fo:Nat) (h:P.idx l i=some x):(ae E l).drop (i.toNat*E.size+fo)=(E.cells x++ae E (l.drop (i.toNat+1))).drop fo:=by
 rw[<- ae1,xF E h]
theorem jy (h:P.idx l i=some x):i.toNat*E.size+E.size<=l.length*E.size:=by
 have h':=oI h
 have:i.toNat+1<=l.length:=by omega
 have:=ad3 E.size this
 rwa [aed]at this
theorem bK (h:P.idx l i=some x):(0<=i∧i<l.length)∧(ae E l).drop (i.toNat*E.size)=E.cells x++ae E (l.drop (i.toNat+1))∧i.toNat*E.size+E.size<=l.length*E.size:=⟨oI h,xF E h,jy E h⟩
theorem iA (fo s:Nat) (hs:fo+s<=E.size) (h:P.idx l i=some x):i.toNat*E.size+fo+s<=l.length*E.size:=by
 have:=jy E h
 omega
theorem Qb:∀(l:List α) (i:Nat) (x:α),l[i]? = some x->∀x',ae E (l.set i x')=(ae E l).take (i*E.size)++E.cells x'++(ae E l).drop (i*E.size+E.size)
 | [],i,x,h,x'=>by simp at h
 | y::l,0,x,h,x'=>by
  rw[List.set_cons_zero,aJ,aJ,ae3,afb,aeW,ad4,aeY,E.len,ael,aeB,aeZ (by rw[E.len];exact adh _),aeW]
 | y::l,i+1,x,h,x'=>by
  have ih:=Qb l i x (by simpa using h) x'
  rw[List.set_cons_succ,aJ,aJ,ih,aed]
  have hy:=E.len y
  have e1:(E.cells y++ae E l).take (i*E.size+E.size)=E.cells y++(ae E l).take (i*E.size):=by rw[aey,hy,aeA (by omega),ae0]
  have e2:(E.cells y++ae E l).drop (i*E.size+E.size+E.size)=(ae E l).drop (i*E.size+E.size):=by
   rw[aeY,hy,aeZ (by omega),aeW,ae0]
  rw[e1,e2]
  simp only[aev]
theorem dZ (fo:Nat) (cs:List D) (h:P.idx l i=some x) (hc:E.cells x'=putCells (E.cells x) fo cs) (hfo:fo+cs.length<=E.size):putCells (ae E l) (i.toNat*E.size+fo) cs=ae E (l.set i.toNat x'):=by
 have h':=IB h
 rw[Qb E l i.toNat x h' x',hc]
 have he:=xF E h
 have hf:=jy E h
 have hl:=bL E l
 have hx:=E.len x
 have hsplit:ae E l=(ae E l).take (i.toNat*E.size)++(E.cells x++(ae E l).drop (i.toNat*E.size+E.size)):=by
  have h1:=ae2 (i.toNat*E.size) (ae E l)
  have h2:(ae E l).drop (i.toNat*E.size+E.size)=ae E (l.drop (i.toNat+1)):=by
   rw[<- ae1,he,aeY,hx,ael,aeB,aeZ (by omega),aeW]
  rw[h2,<- he,h1]
 generalize (ae E l).drop (i.toNat*E.size+E.size)=r at *
 generalize ht:(ae E l).take (i.toNat*E.size)=p at *
 have hp:p.length=i.toNat*E.size:=by rw[<- ht];simp;omega
 unfold putCells
 rw[hsplit]
 have e1:(p++(E.cells x++r)).take (i.toNat*E.size+fo)=p++(E.cells x).take fo:=by
  rw[aey,hp,aeA (by omega),aex,aez (by omega)]
 have e2:(p++(E.cells x++r)).drop (i.toNat*E.size+fo+cs.length)=(E.cells x).drop (fo+cs.length)++r:=by
  rw[adC,aeY,hp,aeZ (by omega),aex,aeW,aew (by omega)]
 rw[e1,e2]
 simp only[aev]
theorem WE (h:P.idx l i=some x):putCells (ae E l) (i.toNat*E.size) (E.cells x')=ae E (l.set i.toNat x'):=by
 have:=dZ E (x':=x') 0 (E.cells x') h (by unfold putCells;simp[E.len]) (by rw[E.len];omega)
 simpa using this
theorem Wm (h:D6 B n c z=some m):m=List.replicate n.toNat z∧0<=n∧n<=c∧c<=maxLen∧c.toNat*B<=140737488355328:=by
 unfold D6 at h
 split at h
 ·cases h;exact⟨rfl,by assumption⟩
 ·cases h
theorem mk_one (h:D6 B n n z=some m):0<=n∧n.toNat=m.length∧m.length<=maxLen∧ml m.length (E.cells z)=ae E m∧m.length*B<=140737488355328:=by
 obtain⟨rfl,h1,_,h3,h4⟩:=Wm h
 refine⟨h1,by simp,by simp;omega,by rw[KT];simp,by simpa using h4⟩
theorem zb (h:AQ l a b=some m):0<=a∧0<=b∧a.toNat<=b.toNat∧b.toNat<=l.length∧b.toNat-a.toNat=m.length∧(List.take (m.length*E.size) (List.drop (a.toNat*E.size) (ae E l))=ae E m):=by
 unfold AQ at h
 split at h
 ·rename_i hc
  cases h
  have hl:((l.drop a.toNat).take (b.toNat-a.toNat)).length=b.toNat-a.toNat:=by simp;omega
  refine⟨hc.1,by omega,by omega,by omega,hl.symm,?_⟩
  rw[hl,nU,ef]
 ·cases h
theorem aaz (h:AQ l a b=some m):0<=a∧0<=b∧(a.toNat<=b.toNat∧b.toNat<=l.length)∧b.toNat-a.toNat=m.length∧(List.take (m.length*E.size) (List.drop (a.toNat*E.size) (ae E l))=ae E m):=by
 obtain⟨h1,h2,h3,h4,h5,h6⟩:=zb E h
 exact⟨h1,h2,⟨h3,h4⟩,h5,h6⟩
theorem WQ (h:AQ l a (l.length:Int)=some m):0<=a∧0<=a∧a.toNat<=l.length∧l.length-a.toNat=m.length∧(List.take (m.length*E.size) (List.drop (a.toNat*E.size) (ae E l))=ae E m):=by
 obtain⟨h1,h2,h3,h4,h5,h6⟩:=zb E h
 simp only[Int.toNat_natCast]at h3 h5
 exact⟨h1,h1,h3,h5,h6⟩
theorem Jj (h:AQ l 0 b=some m):0<=b∧0<=b∧m.length<=l.length∧b.toNat=m.length∧(List.take (m.length*E.size) (ae E l)=ae E m):=by
 obtain⟨h1,h2,h3,h4,h5,h6⟩:=zb E h
 have h5':b.toNat=m.length:=by simpa using h5
 refine⟨h2,h2,by omega,h5',by simpa using h6⟩
theorem yE {n:List α} (h:k9 B l m=some n):n=l++m∧n.length<=maxLen∧n.length*B<=140737488355328:=by
 unfold k9 at h
 split at h
 ·rename_i hc
  cases h
  exact⟨rfl,by rw[aej];exact hc.1,by rw[aej];exact hc.2⟩
 ·cases h
theorem iS {n:List α} (h:k9 B l [x]=some n):l.length+1=n.length∧ae E l++E.cells x=ae E n∧n.length<=maxLen∧n.length*B<=140737488355328:=by
 obtain⟨rfl,h1,h2⟩:=yE h
 exact⟨by simp,by rw[fl];simp[ae],h1,h2⟩
theorem xe {n:List α} (h:k9 B [] l=some n):n=l∧l.length<=maxLen∧l.length*B<=140737488355328:=by
 obtain⟨rfl,h1,h2⟩:=yE h
 exact⟨rfl,h1,h2⟩
theorem XT {n:List α} (h:k9 B l m=some n):l.length+m.length=n.length∧ae E l++ae E m=ae E n∧n.length<=maxLen∧n.length*B<=140737488355328:=by
 obtain⟨rfl,h1,h2⟩:=yE h
 exact⟨by simp,by rw[fl],h1,h2⟩
end
theorem rh {k:IntKind} {x y z:Int} (h:yJ k x y=some z):¬y=0∧k.wrap (x.tdiv y)=z:=by
 unfold yJ at h
 split at h
 ·cases h
 ·cases h;exact⟨by assumption,rfl⟩
theorem u3 {k:IntKind} {x y z:Int} (h:yZ k x y=some z):¬y=0∧x.tmod y=z:=by
 unfold yZ at h
 split at h
 ·cases h
 ·cases h;exact⟨by assumption,rfl⟩
theorem A0 {k:IntKind} {x y z:Int} (h:EE k x y=some z):¬y<0∧k.wrap (x*2 ^ (min y.toNat k.bits))=z:=by
 unfold EE at h
 split at h
 ·cases h
 ·cases h;exact⟨by assumption,rfl⟩
theorem sk {k:IntKind} {x y z:Int} (h:wU k x y=some z):¬y<0∧x.fdiv (2 ^ (min y.toNat k.bits))=z:=by
 unfold wU at h
 split at h
 ·cases h
 ·cases h;exact⟨by assumption,rfl⟩
theorem Ra (op:BinOp) (k:IntKind) (x y:Int):Bo op k x y=jV op k x y:=af4
theorem n7.emp {P:Program} {f:FuncId} {rk:RK} {out:Option Row} (h1:n7 P f none [.sl true true 0 []] rk out) (h2:n7 P f none [.sl true false 0 []] rk out):n7 P f none [.sl false false 0 []] rk out:=by
 intro w M vs hM ha
 have hd:=ha.2 0 _ rfl
 generalize hu:vs.getD 0 undef=u at hd
 cases hd with
 | sl A c nl tight n xs us k1 k2 k3 k4 k5 k6 k7 k8 =>
  cases A with
  | none =>
   refine h1 w M vs hM ⟨ha.1,fun j d hj =>?_,ha.tab⟩
   cases j with
   | zero=>cases hj;rw[hu];exact .sl none c true true 0 [] us k1 k2 (fun _=>⟨fun _=>⟨rfl,(k4 rfl).2⟩,fun h=>by cases h⟩) k4 (fun _=>(k4 rfl).2) k6 k7 k8
   | succ j=>simp at hj
  | some A =>
   refine h2 w M vs hM ⟨ha.1,fun j d hj =>?_,ha.tab⟩
   cases j with
   | zero=>cases hj;rw[hu];exact .sl (some A) c true false 0 [] us k1 k2 (fun _=>⟨(fun h=>by cases h),fun _ h=>by cases h⟩) k4 (fun h=>by cases h) k6 k7 k8
   | succ j=>simp at hj
theorem bX.aa9 {P:Program} {T:Nat->Option Ty} {Γ:Env} (hT:js P T) (hΓ:bB P Γ) (hm:P.follows .mixedOrders=true) {α β:Type} {E:ig α} {F:List α->Option β} {R:β->RK} {mode:Mode} {f:FuncId} {fn:Func} (hf:P.funcs[f]? = some fn) (hok:(match fn.body with|some c=>codeOk c|none=>true)=true)
  (hc:(fn.name == "runtime.NumGoroutine")=false∧fn.body.isNone=false) (hn:1<=fn.ntmps)
  (h0:∀r,F []=some r->ba mode T Γ FU fn none [.sl true true 0 []]=some (R r,none))
  (h1:∀r,F []=some r->ba mode T Γ FU fn none [.sl true false 0 []]=some (R r,none))
  (h2:∀l r,0<l.length->F l=some r->ba mode T Γ FU fn none [.sl false false l.length (ae E l)]=some (R r,none)):bX P f (fR (fO (nc E)) F R) where
 calls lent ada rk out hg:=by
  obtain⟨rfl,rfl,l,r,rfl,hr,rfl⟩:=xK hg
  cases l with
  | nil=>exact n7.emp (kX hT hΓ hm hf hok hn rfl (h0 r hr)) (kX hT hΓ hm hf hok hn rfl (h1 r hr))
  | cons x l=>exact kX hT hΓ hm hf hok hn rfl (h2 (x::l) r (by simp) hr)
 callable:=⟨fn,hf,hc⟩
theorem Yg {α:Type} (E:ig α) {B:Nat} {l n:List α} {i:Int} {x:α} (h:V4 B l i [x]=some n):0<=i∧i<=(l.length:Int)∧l.length+1=n.length∧n.length*B<=140737488355328 ∧
  (ae E l).take (i.toNat*E.size)++(E.cells x++(ae E l).drop (i.toNat*E.size))=ae E n:=by
 unfold V4 at h
 split at h
 ·rename_i hc
  cases h
  obtain⟨h1,h2,-,h4⟩:=hc
  have hl:l.length+1=(l.take i.toNat++([x]++l.drop i.toNat)).length:=by simp;omega
  refine⟨h1,h2,hl,by rw[<- hl];exact h4,?_⟩
  rw[fl,fl,ef,nU]
  simp[ae]
 ·cases h
theorem UI {w:World} {M:Nat->Prop} {k:IntKind} {n:Int} {u:Value} (h:RP w M (.int k n) u):u=.int k n:=by cases h;rfl
theorem fu (b:Nat) {ty:Nat} {fr:Nat×Nat} : ∀(vs:List Value) (o:Nat) (w:World) (arr:Array Value),w.heap[b]? = some (.cells arr ty fr)->o+vs.length<=arr.size ->
  (w.setCells b o vs).os=w.os∧(w.setCells b o vs).tape=w.tape∧(w.setCells b o vs).output=w.output∧(w.setCells b o vs).heap.size=w.heap.size∧(∀k,k≠b->(w.setCells b o vs).heap[k]? = w.heap[k]?) ∧
  ∃arr',(w.setCells b o vs).heap[b]? = some (.cells arr' ty fr)∧arr'.size=arr.size∧∀j,arr'[j]? = if o<=j∧j<o+vs.length then vs[j-o]? else arr[j]?
 | [],o,w,arr,h,_=>⟨rfl,rfl,rfl,rfl,fun k _=>rfl,arr,h,rfl,fun j=>by rw[if_neg (by simp)]⟩
 | v::r,o,w,arr,h,hl=>by
  simp only[List.length_cons]at hl
  have h1:(w.setCell ⟨b,o,none⟩ v).heap[b]? = some (.cells (arr.setIfInBounds o v) ty fr):=by
   simp[World.setCell,adr,h]
  obtain⟨e1,e2,e3,e4,e5,arr',e6,e7,e8⟩:=fu b r (o+1) (w.setCell ⟨b,o,none⟩ v) _ h1 (by simp;omega)
  refine⟨e1,e2,e3,e4.trans (by simp[World.setCell]),fun k hk=>(e5 k hk).trans (by simp[World.setCell,adr,Ne.symm hk]),arr',e6,by simpa using e7,fun j =>?_⟩
  rw[e8 j,Array.getElem?_setIfInBounds]
  simp only[List.length_cons]
  by_cases h1:o+1<=j∧j<o+1+r.length
  ·rw[if_pos h1,if_pos (by omega)]
   have:j-o=(j-(o+1))+1:=by omega
   rw[this,aei]
  ·rw[if_neg h1]
   by_cases h2:o=j
   ·subst h2
    rw[if_pos rfl,if_pos (by omega),if_pos (by omega),ael]
    rfl
   ·rw[if_neg h2,if_neg (by omega)]
theorem vm1:type_of% (ai @H2<|ai @Bq<|ai @Hm<|ai @ND<|ai @NC<|ai @Hk<|ai @DG<|ai @Hl<|ai @bO<|ai @bE<|ai @sH<|ai @bV<|ai @v5<|ai @Ap<|ai @DJ<|ai @Hj<|ai @HP<|ai @DW<|ai @NA<|ai @Hh<|ai @DD<|ai @HQ<|ai @DX<|ai @DY<|ai @Ay<|ai @NB<|ai @Hi<|ai @DE<|ai @HR<|ai @DZ<|ai @D0<|ai @Az<|ai @NW<|ai @N4<|ai @SD<|ai @SI<|ai @Dk<|ai @Ad<|ai @Dl<|ai @Ae<|ai @Kz<|ai @KF<|ai @Ky<|ai @KE<|ai @BR<|ai @BU<|ai @Fw<|ai @FE<|ai @KA<|ai @KG<|ai @Kw<|@KC):=⟨@H2,@Bq,@Hm,@ND,@NC,@Hk,@DG,@Hl,@bO,@bE,@sH,@bV,@v5,@Ap,@DJ,@Hj,@HP,@DW,@NA,@Hh,@DD,@HQ,@DX,@DY,@Ay,@NB,@Hi,@DE,@HR,@DZ,@D0,@Az,@NW,@N4,@SD,@SI,@Dk,@Ad,@Dl,@Ae,@Kz,@KF,@Ky,@KE,@BR,@BU,@Fw,@FE,@KA,@KG,@Kw,@KC⟩
theorem vm2:type_of% (ai @FC<|ai @FK<|ai @xn<|ai @xq<|ai @vJ<|ai @vN<|ai @Fy<|ai @FG<|ai @vK<|ai @vO<|ai @Fz<|ai @FH<|ai @FA<|ai @FI<|ai @Fx<|ai @FF<|ai @tq<|ai @tr<|ai @vL<|ai @vP<|ai @Fv<|ai @FD<|ai @Rt<|ai @Ru<|ai @zE<|ai @zJ<|ai @zG<|ai @zK<|ai @Kv<|ai @KB<|ai @zD<|ai @zI<|ai @M9<|ai @Nl<|ai @E4<|ai @zn<|ai @Fs<|ai @K4<|ai @B3<|ai @B2<|ai @CD<|ai @CC<|ai @ey<|ai @zS<|ai @ew<|ai @rR<|ai @S1<|ai @JJ<|ai @EU<|ai @ET<|ai @GM<|@F4):=⟨@FC,@FK,@xn,@xq,@vJ,@vN,@Fy,@FG,@vK,@vO,@Fz,@FH,@FA,@FI,@Fx,@FF,@tq,@tr,@vL,@vP,@Fv,@FD,@Rt,@Ru,@zE,@zJ,@zG,@zK,@Kv,@KB,@zD,@zI,@M9,@Nl,@E4,@zn,@Fs,@K4,@B3,@B2,@CD,@CC,@ey,@zS,@ew,@rR,@S1,@JJ,@EU,@ET,@GM,@F4⟩
theorem vm3:type_of% (ai @F5<|ai @Ar<|ai @DU<|ai @DT<|ai @Ax<|ai @ug<|ai @sJ<|ai @Au<|ai @sK<|ai @Av<|ai @sL<|ai @Aq<|ai @HN<|ai @v8<|ai @wa<|ai @As<|ai @qy<|ai @Aw<|ai @DS<|ai @v7<|ai @yg<|ai @Si<|ai @MR<|ai @Hc<|ai @Hb<|ai @Gp<|ai @Q1<|ai @JK<|ai @Q6<|ai @UY<|ai @Q5<|ai @UU<|ai @QZ<|ai @Q7<|ai @UT<|ai @AR<|ai @Q8<|ai @Q0<|ai @EX<|ai @Bl<|ai @Q4<|ai @EY<|ai @Fi<|ai @BH<|ai @Fk<|ai @J2<|ai @BD<|ai @zA<|ai @BG<|ai @Fh<|ai @BC<|@Kd):=⟨@F5,@Ar,@DU,@DT,@Ax,@ug,@sJ,@Au,@sK,@Av,@sL,@Aq,@HN,@v8,@wa,@As,@qy,@Aw,@DS,@v7,@yg,@Si,@MR,@Hc,@Hb,@Gp,@Q1,@JK,@Q6,@UY,@Q5,@UU,@QZ,@Q7,@UT,@AR,@Q8,@Q0,@EX,@Bl,@Q4,@EY,@Fi,@BH,@Fk,@J2,@BD,@zA,@BG,@Fh,@BC,@Kd⟩
theorem vm4:type_of% (ai @Kj<|ai @J9<|ai @Fm<|ai @Kc<|ai @Rn<|ai @J5<|ai @Rl<|ai @Rk<|ai @J7<|ai @Kb<|ai @Vm<|ai @Rr<|ai @Vn<|ai @Y3<|ai @Vk<|ai @Vl<|ai @Kr<|ai @F2<|ai @RO<|ai @Re<|ai @yI<|ai @E7<|ai @Bz<|ai @Ge<|ai @Cq<|ai @Lc<|ai @RR<|ai @Ld<|ai @Fo<|ai @BI<|ai @JO<|ai @Nx<|ai @Hf<|ai @Nw<|ai @Hd<|ai @Nu<|ai @He<|ai @Cj<|ai @FR<|ai @BA<|ai @yO<|ai @Ck<|ai @Cl<|ai @VP<|ai @RA<|ai @VJ<|ai @KP<|ai @Dz<|ai @DA<|ai @Ra<|ai @xx<|@aJ):=⟨@Kj,@J9,@Fm,@Kc,@Rn,@J5,@Rl,@Rk,@J7,@Kb,@Vm,@Rr,@Vn,@Y3,@Vk,@Vl,@Kr,@F2,@RO,@Re,@yI,@E7,@Bz,@Ge,@Cq,@Lc,@RR,@Ld,@Fo,@BI,@JO,@Nx,@Hf,@Nw,@Hd,@Nu,@He,@Cj,@FR,@BA,@yO,@Ck,@Cl,@VP,@RA,@VJ,@KP,@Dz,@DA,@Ra,@xx,@aJ⟩
theorem vmk:type_of% (And.intro (@Ob)<|@Oc):=⟨@Ob,@Oc⟩
theorem vmc:type_of% (ai @true_and<|ai @and_true<|ai @adR<|ai @adn<|ai @ad5<|ai @ae7<|ai @aeB<|ai @ae8<|ai @afb<|ai @adH<|ai @adI<|ai @List.contains_nil.{0}<|ai @aeW<|ai @ae6<|ai @ae5<|ai @adG<|ai @aei<|ai @decide_true<|ai @decide_false<|ai @beq_self_eq_true.{0}<|ai @List.isEmpty_nil.{0}<|ai @List.isEmpty_cons.{0}<|ai @Option.map_none.{0,0}<|ai @adp<|ai @List.all_cons.{0}<|ai @List.all_nil.{0}<|ai @afc<|ai @Bool.and_true<|ai @aeD<|ai @afd<|ai @Bool.and_self<|ai @aeC<|ai @afe<|ai @and_self<|ai @ad4<|ai @adQ<|ai @ae3<|ai @Nat.sub_zero<|ai @adi<|ai @adh<|ai @adq<|ai @Nat.le_zero_eq<|ai @Nat.one_ne_zero<|ai @Bool.or_self<|ai @Bool.or_true<|ai @Bool.true_or<|ai @Bool.or_false<|ai @Bool.false_or<|@aff):=⟨@true_and,@and_true,@adR,@adn,@ad5,@ae7,@aeB,@ae8,@afb,@adH,@adI,@List.contains_nil.{0},@aeW,@ae6,@ae5,@adG,@aei,@decide_true,@decide_false,@beq_self_eq_true.{0},@List.isEmpty_nil.{0},@List.isEmpty_cons.{0},@Option.map_none.{0,0},@adp,@List.all_cons.{0},@List.all_nil.{0},@afc,@Bool.and_true,@aeD,@afd,@Bool.and_self,@aeC,@afe,@and_self,@ad4,@adQ,@ae3,@Nat.sub_zero,@adi,@adh,@adq,@Nat.le_zero_eq,@Nat.one_ne_zero,@Bool.or_self,@Bool.or_true,@Bool.true_or,@Bool.or_false,@Bool.false_or,@aff⟩
theorem vm5:type_of% (ai @DI<|ai @DH<|ai @Y1<|ai @EZ<|ai @Bm<|ai @QW<|ai @JF<|ai @QX<|ai @UL<|ai @QU<|ai @QV<|ai @Kf<|ai @RN<|ai @GI<|ai @L1<|ai @CH<|@L2):=⟨@DI,@DH,@Y1,@EZ,@Bm,@QW,@JF,@QX,@UL,@QU,@QV,@Kf,@RN,@GI,@L1,@CH,@L2⟩
theorem vmu:type_of% (ai @wK.eq_1<|ai @wK.eq_2<|ai @ev.eq_1<|ai @ev.eq_2<|ai @ev.eq_3<|ai @ev.eq_4<|ai @nh.eq_1<|ai @nh.eq_2<|ai @nh.eq_3<|ai @nh.eq_4<|ai @nh.eq_5<|ai @nh.eq_6<|ai @dR.eq_1<|ai @dR.eq_2<|ai @yH.eq_1<|ai @yH.eq_2<|ai @yH.eq_3<|ai @kc.eq_1<|ai @kc.eq_2<|ai @kc.eq_3<|ai @fi.eq_1<|ai @fi.eq_2<|ai @fi.eq_3<|ai @fi.eq_4<|ai @fi.eq_5<|ai @fi.eq_6<|ai @fi.eq_7<|ai @fi.eq_8<|ai @fi.eq_9<|ai @fi.eq_10<|ai @fi.eq_11<|ai @fi.eq_12<|ai @fi.eq_13<|ai @fi.eq_14<|ai @fi.eq_15<|ai @fi.eq_16<|ai @EJ.eq_1<|ai @EJ.eq_2<|ai @EJ.eq_3<|ai @EJ.eq_4<|ai @EJ.eq_5<|ai @EJ.eq_6<|ai @Yr.eq_1<|ai @aH.eq_1<|ai @aH.eq_2<|ai @dw.eq_1<|ai @dw.eq_2<|ai @dw.eq_3<|ai @df.eq_1<|ai @df.eq_2<|ai @df.eq_3<|ai @live.eq_1<|ai @lC.eq_1<|ai @lC.eq_2<|ai @Ds.nV.eq_1<|ai @Ds.nV.eq_2<|ai @Ds.nV.eq_3<|ai @cc.eq_1<|ai @cc.eq_2<|ai @cc.eq_3<|ai @cc.eq_4<|ai @cc.eq_5<|ai @cc.eq_6<|ai @fQ.eq_1<|ai @fQ.eq_2<|ai @fQ.eq_3<|ai @fQ.eq_4<|ai @fQ.eq_5<|ai @fQ.eq_6<|ai @oE.eq_1<|ai @oE.eq_2<|ai @xI.eq_1<|ai @xI.eq_2<|ai @xI.eq_3<|ai @xI.eq_4<|ai @alive.eq_1<|ai @alive.eq_2<|ai @alive.eq_3<|ai @nm.eq_1<|ai @nm.eq_2<|ai @gM.eq_1<|ai @gM.eq_2<|ai @gM.eq_3<|ai @gM.eq_4<|ai @gM.eq_5<|ai @gM.eq_6<|ai @cC.eq_1<|ai @cC.eq_2<|ai @pF.eq_1<|ai @jc.eq_1<|ai @jc.eq_2<|ai @jc.eq_3<|ai @lr.eq_1<|ai @lr.eq_2<|ai @GX.eq_1<|ai @bz.eq_1<|ai @bz.eq_2<|ai @bz.eq_3<|ai @bz.eq_4<|ai @fE.eq_1<|ai @fE.eq_2<|ai @fE.eq_3<|ai @cv.eq_1<|ai @cv.eq_2<|ai @cv.eq_3<|ai @cv.eq_4<|ai @cv.eq_5<|ai @cv.eq_6<|ai @eu.eq_1<|ai @hY.eq_1<|ai @hY.eq_2<|ai @fieldAt.eq_1<|ai @du.eq_1<|ai @pj.eq_1<|ai @iE.eq_1<|ai @content.eq_1<|ai @content.eq_2<|ai @content.eq_3<|ai @putCells.eq_1<|ai @Uu.eq_1<|ai @Uu.eq_2<|ai @Uu.eq_3<|ai @Uu.eq_4<|ai @OZ.eq_1<|ai @OZ.eq_2<|ai @OZ.eq_3<|ai @OZ.eq_4<|ai @Tv.eq_1<|ai @Tv.eq_2<|ai @Tv.eq_3<|ai @eW.eq_1<|ai @eW.eq_2<|ai @eW.eq_3<|ai @kindOk.eq_1<|ai @kindOk.eq_2<|ai @kindOk.eq_3<|ai @kindOk.eq_4<|ai @j4.eq_1<|ai @j4.eq_2<|ai @j4.eq_3<|ai @j4.eq_4<|ai @m8.eq_1<|ai @m8.eq_2<|ai @m8.eq_3<|ai @m8.eq_4<|ai @m8.eq_5<|ai @m8.eq_6<|ai @m8.eq_7<|ai @m8.eq_8<|ai @sj.eq_1<|ai @sj.eq_2<|ai @sj.eq_3<|ai @aV.eq_1<|ai @aV.eq_2<|ai @aV.eq_3<|ai @aV.eq_4<|ai @aV.eq_5<|ai @aV.eq_6<|ai @aV.eq_7<|ai @mV.eq_1<|ai @mV.eq_2<|ai @te.eq_1<|ai @te.eq_2<|ai @te.eq_3<|@te.eq_4):=⟨@wK.eq_1,@wK.eq_2,@ev.eq_1,@ev.eq_2,@ev.eq_3,@ev.eq_4,@nh.eq_1,@nh.eq_2,@nh.eq_3,@nh.eq_4,@nh.eq_5,@nh.eq_6,@dR.eq_1,@dR.eq_2,@yH.eq_1,@yH.eq_2,@yH.eq_3,@kc.eq_1,@kc.eq_2,@kc.eq_3,@fi.eq_1,@fi.eq_2,@fi.eq_3,@fi.eq_4,@fi.eq_5,@fi.eq_6,@fi.eq_7,@fi.eq_8,@fi.eq_9,@fi.eq_10,@fi.eq_11,@fi.eq_12,@fi.eq_13,@fi.eq_14,@fi.eq_15,@fi.eq_16,@EJ.eq_1,@EJ.eq_2,@EJ.eq_3,@EJ.eq_4,@EJ.eq_5,@EJ.eq_6,@Yr.eq_1,@aH.eq_1,@aH.eq_2,@dw.eq_1,@dw.eq_2,@dw.eq_3,@df.eq_1,@df.eq_2,@df.eq_3,@live.eq_1,@lC.eq_1,@lC.eq_2,@Ds.nV.eq_1,@Ds.nV.eq_2,@Ds.nV.eq_3,@cc.eq_1,@cc.eq_2,@cc.eq_3,@cc.eq_4,@cc.eq_5,@cc.eq_6,@fQ.eq_1,@fQ.eq_2,@fQ.eq_3,@fQ.eq_4,@fQ.eq_5,@fQ.eq_6,@oE.eq_1,@oE.eq_2,@xI.eq_1,@xI.eq_2,@xI.eq_3,@xI.eq_4,@alive.eq_1,@alive.eq_2,@alive.eq_3,@nm.eq_1,@nm.eq_2,@gM.eq_1,@gM.eq_2,@gM.eq_3,@gM.eq_4,@gM.eq_5,@gM.eq_6,@cC.eq_1,@cC.eq_2,@pF.eq_1,@jc.eq_1,@jc.eq_2,@jc.eq_3,@lr.eq_1,@lr.eq_2,@GX.eq_1,@bz.eq_1,@bz.eq_2,@bz.eq_3,@bz.eq_4,@fE.eq_1,@fE.eq_2,@fE.eq_3,@cv.eq_1,@cv.eq_2,@cv.eq_3,@cv.eq_4,@cv.eq_5,@cv.eq_6,@eu.eq_1,@hY.eq_1,@hY.eq_2,@fieldAt.eq_1,@du.eq_1,@pj.eq_1,@iE.eq_1,@content.eq_1,@content.eq_2,@content.eq_3,@putCells.eq_1,@Uu.eq_1,@Uu.eq_2,@Uu.eq_3,@Uu.eq_4,@OZ.eq_1,@OZ.eq_2,@OZ.eq_3,@OZ.eq_4,@Tv.eq_1,@Tv.eq_2,@Tv.eq_3,@eW.eq_1,@eW.eq_2,@eW.eq_3,@kindOk.eq_1,@kindOk.eq_2,@kindOk.eq_3,@kindOk.eq_4,@j4.eq_1,@j4.eq_2,@j4.eq_3,@j4.eq_4,@m8.eq_1,@m8.eq_2,@m8.eq_3,@m8.eq_4,@m8.eq_5,@m8.eq_6,@m8.eq_7,@m8.eq_8,@sj.eq_1,@sj.eq_2,@sj.eq_3,@aV.eq_1,@aV.eq_2,@aV.eq_3,@aV.eq_4,@aV.eq_5,@aV.eq_6,@aV.eq_7,@mV.eq_1,@mV.eq_2,@te.eq_1,@te.eq_2,@te.eq_3,@te.eq_4⟩
theorem abS:type_of% (ai @Fa<|ai @E8<|ai @E9<|ai @RJ<|ai @LY<|ai @LH<|ai @LQ<|ai @GD<|ai @Lx<|ai @Ly<|ai @CB<|ai @LD<|ai @LC<|ai @Gh<|ai @Mh<|ai @Mr<|ai @Rc<|ai @Br<|ai @Bs<|ai @Fb<|ai @RL<|ai @LZ<|ai @LI<|ai @GF<|ai @LR<|ai @CG<|ai @LV<|ai @LU<|ai @Gl<|ai @Rd<|@Bv):=⟨@Fa,@E8,@E9,@RJ,@LY,@LH,@LQ,@GD,@Lx,@Ly,@CB,@LD,@LC,@Gh,@Mh,@Mr,@Rc,@Br,@Bs,@Fb,@RL,@LZ,@LI,@GF,@LR,@CG,@LV,@LU,@Gl,@Rd,@Bv⟩
end Go.Proofs.Ytchndpjlijbplaa.Am
